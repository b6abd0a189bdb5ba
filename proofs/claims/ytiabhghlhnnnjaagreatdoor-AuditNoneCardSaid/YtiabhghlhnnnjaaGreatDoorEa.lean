/-
  THE EVALUATOR IS SOUND (fifth part: what is equal; operations of two).
-/
import Derived.Test.YtiabhghlhnnnjaaGreatDoorEz
import Derived.Laws.StructEq
set_option linter.unusedVariables false
set_option maxRecDepth 100000
set_option linter.unusedSimpArgs false
set_option maxHeartbeats 0
noncomputable section
namespace Go.Proofs.YtiabhghlhnnnjaaGreatDoor.Ev
open Go Sh Sl
theorem dd_of {t : TypeId} {y : TI} (h : ti t = some y) : dd t = some y.d := by unfold dd; rw [h]; rfl
theorem szof_of {t : TypeId} {y : TI} (h : ti t = some y) : szof t = some (y.size, y.bytes) := by unfold szof; rw [h]; rfl
/-- two that may be compared are equal, or not: 'b' -/
def EqAt (t : TypeId) (a c : Value) (b : Bool) : Prop := ∀ X Y : Operand, Pu (bS .eql t X Y a c) (.bool b) ∧ Pu (bS .neq t X Y a c) (.bool (!b))
theorem binO_ok {op : BinOp} {f : EV → EV → Option Bool} {x y v : EV} (h : binO op f x y = some v) {L : Lo} {t : TypeId} {a c : Value} {X Y : Operand}
    (hf : ∀ b, f x y = some b → Pu (bS .eql t X Y a c) (.bool b) ∧ Pu (bS .neq t X Y a c) (.bool (!b))) : ∃ z, Real L v z ∧ Pu (bS op t X Y a c) z := by
  cases op <;> (first | (cases h; done) | skip)
  case eql =>
    obtain ⟨b, h1, h⟩ := ob2_ok (show ob2 (f x y) (fun b => some (.bool (cnd false (bnot b) b))) = some v from h)
    cases h
    exact ⟨_, .bool _, (hf b h1).1⟩
  case neq =>
    obtain ⟨b, h1, h⟩ := ob2_ok (show ob2 (f x y) (fun b => some (.bool (cnd true (bnot b) b))) = some v from h)
    cases h
    exact ⟨_, .bool _, by rw [cnd_true, bnot_eq]; exact (hf b h1).2⟩
section
variable {L : Lo} {x y : EV} {a c : Value} {b : Bool} {t : TypeId}
theorem eqBo_ok (h : eqBo x y = some b) (ha : Real L x a) (hc : Real L y c) (ht : dd t = some .bool) : EqAt t a c b := by
  cases ha <;> (first | (cases h; done) | skip) <;> cases hc <;> (first | (cases h; done) | skip)
  cases h
  exact fun X Y => ⟨st_eqB ht, st_neB ht⟩
theorem eqSl_ok {e : Nat} (h : eqSl x y = some b) (ha : Real L x a) (hc : Real L y c) (ht : dd t = some (.sl e)) : EqAt t a c b := by
  cases ha <;> (first | (cases h; done) | skip) <;> cases hc <;> (first | (cases h; done) | skip) <;> cases h
  all_goals exact fun X Y => ⟨st_nilS ht (by simp), st_nnilS ht (by simp)⟩
theorem eqM_ok {k e : Nat} (h : eqM x y = some b) (ha : Real L x a) (hc : Real L y c) (ht : dd t = some (.mp k e)) : EqAt t a c b := by
  cases ha <;> (first | (cases h; done) | skip) <;> cases hc <;> (first | (cases h; done) | skip) <;> cases h
  all_goals exact fun X Y => ⟨st_nilM ht (by simp), st_nnilM ht (by simp)⟩
theorem eql_pure {p q : Value} (he : ∀ w, (Op.equal t p q).run P w = .ok b w) (hb : ∀ w, (binOp .eql t p q).run P w = ((Op.equal t p q).run P w).andThen fun b w' => .ok (.bool b) w')
    (hn : ∀ w, (binOp .neq t p q).run P w = ((Op.equal t p q).run P w).andThen fun b w' => .ok (.bool (!b)) w') {X Y : Operand} (g : ∀ op w, (eqGuard op t X Y p q).run P w = .ok () w) :
    Pu (bS .eql t X Y p q) (.bool b) ∧ Pu (bS .neq t X Y p q) (.bool (!b)) :=
  ⟨still_bS (g .eql) fun w => by rw [hb, he]; rfl, still_bS (g .neq) fun w => by rw [hn, he]; rfl⟩
theorem run_eql_same {e : Nat} (ht : dd t = some (.ptr e)) {sz by_ : Nat} (hs : szof e = some (sz, by_)) (h0 : sz ≠ 0) (B o p : Nat) (w : World) :
    (Op.equal t (.pointer (some ⟨B, o, none⟩)) (.pointer (some ⟨B, p, none⟩))).run P w = .ok (decide (o = p)) w := by
  obtain ⟨d, hd⟩ := equal_deep t (.pointer (some ⟨B, o, none⟩)) (.pointer (some ⟨B, p, none⟩))
  obtain ⟨i, h1, h2, _⟩ := szof_spec hs
  have hz : i.size ≠ 0 := by rw [h2]; exact h0
  rw [hd]
  simp only [Op.equalIn, Sem.run_bind, run_underlying (dd_ptr ht), Result.andThen_ok, run_sizeOf' h1]
  rw [if_pos hz]
  have e1 : ((⟨B, o, none⟩ : Addr) == ⟨B, p, none⟩) = decide (o = p) := by
    by_cases h : o = p
    · subst h; simp
    · simp [h]
  simp only [sameAddr, beq_self_eq_true, if_true, e1]
  rfl
theorem eqP_ok {e sz by_ : Nat} (h : eqP x y = some b) (ha : Real L x a) (hc : Real L y c) (ht : dd t = some (.ptr e)) (hs : szof e = some (sz, by_)) (h0 : sz ≠ 0) : EqAt t a c b := by
  have nn : ∀ {p q : Option Addr} (hn : p = none ∨ q = none), EqAt t (.pointer p) (.pointer q) (p.isNone && q.isNone) := fun hn X Y => ⟨st_nilP ht hn, st_nnilP ht hn⟩
  unfold eqP at h
  split at h <;> first
    | (cases h; done)
    | (injection h with h; subst h; cases ha; cases hc; exact nn (by simp))
    | skip
  rename_i i off j off'
  obtain ⟨h1, h'⟩ := cnd_some h
  have := Nat.eq_of_beq_eq_true h1
  subst this
  obtain ⟨p, hp, rfl⟩ := ha.ptr_inv
  obtain ⟨q, hq, rfl⟩ := hc.ptr_inv
  rw [hp] at hq; cases hq
  cases h'
  have e1 : Nat.beq off off' = decide (p.o + off = p.o + off') := by rw [beq_eq]; exact decide_eq_decide.2 (by omega)
  rw [e1]
  exact fun X Y => eql_pure (fun w => run_eql_same ht hs h0 p.b _ _ w) (fun w => by simp [binOp, Lc.adr]) (fun w => by simp [binOp, Lc.adr]) fun op w => guard_ptr _ _ _ _ _ _ _
theorem isIf_of {t : TypeId} (h : Nat.beq (undK t) 1 = true) : ∃ ms, P.underlying t = some (.interface ms) := by
  unfold undK at h
  split at h
  · exact ⟨_, ‹_›⟩
  · cases h
  · cases h
theorem isFn_of {t : TypeId} (h : Nat.beq (undK t) 2 = true) : ∃ u v z, P.underlying t = some (.func u v z) := by
  unfold undK at h
  split at h
  · cases h
  · exact ⟨_, _, _, ‹_›⟩
  · cases h
theorem isK_ok {q : Operand} (h : isK q = true) : ∃ v, q = .const v := by
  cases q <;> first | (exact ⟨_, rfl⟩) | cases h
theorem eqI_ok {X Y : Operand} (h : eqI (cnd (isK X) true (isK Y)) x y = some b) (ha : Real L x a) (hc : Real L y c) (hi : ∃ ms, P.underlying t = some (.interface ms)) :
    Pu (bS .eql t X Y a c) (.bool b) ∧ Pu (bS .neq t X Y a c) (.bool (!b)) := by
  obtain ⟨ms, hi⟩ := hi
  cases ha <;> (first | (cases h; done) | skip) <;> cases hc <;> (first | (cases h; done) | skip)
  · cases h
    rename_i tt v x' hx
    obtain ⟨d, hd⟩ := equal_deep t (.iface tt x') .nilIface
    exact eql_pure (fun w => by rw [hd]; simp [Op.equalIn, run_underlying hi]) (fun w => by simp [binOp]) (fun w => by simp [binOp]) fun op w => by cases op <;> simp [eqGuard]
  · cases h
    rename_i tt v x' hx
    obtain ⟨d, hd⟩ := equal_deep t .nilIface (.iface tt x')
    exact eql_pure (fun w => by rw [hd]; simp [Op.equalIn, run_underlying hi]) (fun w => by simp [binOp]) (fun w => by simp [binOp]) fun op w => by cases op <;> simp [eqGuard]
  · obtain ⟨h1, h⟩ := cnd_some (show cnd (cnd (isK X) true (isK Y)) (some true) none = some b from h)
    cases h
    have hk : (∃ v, X = .const v) ∨ ∃ v, Y = .const v := by
      cases e : isK X with
      | true => exact .inl (isK_ok e)
      | false => rw [e, cnd_false] at h1; exact .inr (isK_ok h1)
    obtain ⟨d, hd⟩ := equal_deep t .nilIface .nilIface
    refine eql_pure (fun w => by rw [hd]; simp [Op.equalIn, run_underlying hi]) (fun w => by simp [binOp]) (fun w => by simp [binOp]) fun op w => ?_
    rcases hk with ⟨v, rfl⟩ | ⟨v, rfl⟩
    · cases op <;> simp [eqGuard]
    · cases op <;> simp [eqGuard]
theorem eqF_ok (h : eqF x y = some b) (ha : Real L x a) (hc : Real L y c) (hi : ∃ u v z, P.underlying t = some (.func u v z)) : EqAt t a c b := by
  obtain ⟨u, v, z, hi⟩ := hi
  cases ha <;> (first | (cases h; done) | skip) <;> cases hc <;> (first | (cases h; done) | skip) <;> cases h
  all_goals
    intro X Y
    refine eql_pure (fun w => ?_) (fun w => by simp [binOp]) (fun w => by simp [binOp]) fun op w => by cases op <;> simp [eqGuard]
    obtain ⟨d, hd⟩ := equal_deep t _ _
    rw [hd]; simp [Op.equalIn, run_underlying hi]
end
/-! structs and arrays -/
theorem run_isAgg_kc {t : TypeId} {y : TI} {k : Nat} (h : ti t = some y) (hk : kcC y.d = some k) (w : World) : (isAgg t).run P w = .ok false w := by
  obtain ⟨i, d, h1, h2, h3, h4, h5⟩ := ti_spec h
  simp only [isAgg, Sem.run_bind, run_underlying h2, Result.andThen_ok]
  cases d <;> first | rfl | (exfalso; rw [← h5] at hk; cases hk)
theorem eqK_ok {L : Lo} {t : TypeId} {y : TI} {k : Nat} (h : ti t = some y) (hk : kcC y.d = some k) {u v : EV} {b : Bool} (he : eqK k u v = some b) {p q : Value} (hp : Real L u p) (hq : Real L v q) (d : Nat) (w : World) :
    (Op.equalIn (d + 1) t p q).run P w = .ok b w := by
  have hd := dd_of h
  cases hp <;> (first | (cases he; done) | skip) <;> cases hq <;> (first | (cases he; done) | skip)
  · rename_i i m j n
    obtain ⟨h1, he⟩ := cnd_some (show cnd (Nat.beq (kn i) k) (cnd (Nat.beq (kn j) k) (some (ieq m n)) none) none = some b from he)
    obtain ⟨h2, he⟩ := cnd_some he
    cases he
    have e1 := Nat.eq_of_beq_eq_true h1
    have e2 := Nat.eq_of_beq_eq_true h2
    have e3 : i = j := kn_inj (e1.trans e2.symm)
    subst e3
    have : ∃ k', y.d = .int k' := by
      cases hy : y.d <;> rw [hy] at hk <;> first | exact ⟨_, rfl⟩ | (cases hk; done) | skip
      · cases hk; cases i <;> cases e1
      · cases hk; cases i <;> cases e1
    obtain ⟨k', hk'⟩ := this
    rw [hk'] at hd
    rw [run_equalIn_int w d t i k' m n (dd_int hd), ieq_beq]
  · rename_i m n
    obtain ⟨h1, he⟩ := cnd_some (show cnd (Nat.beq k 9) (some (m == n)) none = some b from he)
    cases he
    have e1 := Nat.eq_of_beq_eq_true h1
    subst e1
    have : y.d = .bool := by
      cases hy : y.d <;> rw [hy] at hk <;> first | rfl | (cases hk; done) | (rename_i kk; cases kk <;> cases hk)
    rw [this] at hd
    exact run_equalIn_bool' w d t m n (dd_bool hd)
  · rename_i l hl m hm
    obtain ⟨h1, he⟩ := cnd_some (show cnd (Nat.beq k 8) (some (eqS l m)) none = some b from he)
    cases he
    have e1 := Nat.eq_of_beq_eq_true h1
    subst e1
    have : y.d = .str := by
      cases hy : y.d <;> rw [hy] at hk <;> first | rfl | (cases hk; done) | (rename_i kk; cases kk <;> cases hk)
    rw [this] at hd
    rw [run_equalIn_string w d t _ _ (dd_str hd), eqS_eq, ba_eq]
    congr 1
    exact decide_eq_decide.2 ⟨fun h => bts_inj hl hm (by simpa [ba] using h), fun h => by rw [h]⟩
theorem run_part {t : TypeId} {y : TI} {k : Nat} (h : ti t = some y) (hk : kcC y.d = some k) {cs : List Value} {off : Nat} {v : Value} (hv : cs[off]? = some v) (w : World) : (Go.part t cs.toArray off).run P w = .ok v w := by
  simp only [Go.part, Sem.run_bind, run_isAgg_kc h hk w, Result.andThen_ok, Bool.false_eq_true, if_false, List.getElem?_toArray, hv, Sem.run_pure]
theorem eqA_fields {L : Lo} {l m : List EV} {xs ys : List Value} (hl : Reals L l xs) (hm : Reals L m ys) (d : Nat) (w : World) : ∀ (fs : List Field) (ps : List (Nat × Nat)) (b : Bool),
    (fs.all fun f => !(f.name == "_")) = true → kcsC (fs.map fun f => (f.offset, f.type)) = some ps → eqA ps l m = some b → (Op.eqFields (d + 1) xs.toArray ys.toArray fs).run P w = .ok b w
  | [], ps, b, _, h1, h2 => by cases h1; cases h2; rfl
  | f :: fs, ps, b, hn, h1, h2 => by
    simp only [List.all_cons, Bool.and_eq_true, Bool.not_eq_true', beq_eq_false_iff_ne, ne_eq] at hn
    obtain ⟨y, g1, h1⟩ := ob2_ok h1
    obtain ⟨k, g2, h1⟩ := ob2_ok h1
    obtain ⟨r, g3, h1⟩ := ob2_ok h1
    cases h1
    obtain ⟨u, e1, h2⟩ := ob2_ok h2
    obtain ⟨v, e2, h2⟩ := ob2_ok h2
    obtain ⟨c, e3, h2⟩ := ob2_ok h2
    rw [nth_eq] at e1 e2
    obtain ⟨p, p1, p2⟩ := hl.get e1
    obtain ⟨q, q1, q2⟩ := hm.get e2
    have hk := eqK_ok g1 g2 e3 p2 q2 d w
    simp only [Op.eqFields, Sem.run_bind, Sem.run_ite]
    rw [if_pos hn.1]
    simp only [run_part g1 g2 p1 w, run_part g1 g2 q1 w, hk, Result.andThen_ok]
    cases c with
    | false => cases h2; rfl
    | true =>
      have := eqA_fields hl hm d w fs r b (by simpa using hn.2) g3 h2
      simpa using this
theorem eqA_range {L : Lo} {l m : List EV} {xs ys : List Value} (hl : Reals L l xs) (hm : Reals L m ys) {e : TypeId} {y : TI} {k : Nat} (g2 : ti e = some y) (g3 : kcC y.d = some k) (d : Nat) (w : World) {K : Option Bool × Unit → World → Result Bool} (k0 : K (none, ()) w = .ok true w) (k1 : K (some false, ()) w = .ok false w) : ∀ (n i : Nat) (b : Bool),
    eqA (kcaC k n i) l m = some b →
    ((forIn (m := Sem) (List.range' i n 1) ((none : Option Bool), ()) fun i r => do
        let a ← Go.part e xs.toArray i
        let c ← Go.part e ys.toArray i
        let q ← Op.equalIn (d + 1) e a c
        if (!q) = true then pure (ForInStep.done (some false, ())) else pure (ForInStep.yield (none, ()))).run P w).andThen
      K = .ok b w
  | 0, i, b, h => by cases h; simpa using k0
  | n + 1, i, b, h => by
    obtain ⟨u, e1, h⟩ := ob2_ok h
    obtain ⟨v, e2, h⟩ := ob2_ok h
    obtain ⟨c, e3, h⟩ := ob2_ok h
    rw [nth_eq] at e1 e2
    obtain ⟨p, p1, p2⟩ := hl.get e1
    obtain ⟨q, q1, q2⟩ := hm.get e2
    have hk := eqK_ok g2 g3 e3 p2 q2 d w
    rw [List.range'_succ, List.forIn_cons]
    simp only [Sem.run_bind, run_part g2 g3 p1 w, run_part g2 g3 q1 w, hk, Result.andThen_ok]
    cases c with
    | false => cases h; simpa using k1
    | true =>
      have := eqA_range hl hm g2 g3 d w k0 k1 n (i + 1) b h
      simpa using this
theorem binA_ok {L : Lo} {t : TypeId} {op : BinOp} {n : Bool} (hop : op = (if n then .neq else .eql)) {ps : List (Nat × Nat)} (hp : agC t = some ps) {x y v : EV} (h : binA n ps x y = some v) {a c : Value} (ha : Real L x a) (hc : Real L y c)
    (X Y : Operand) : ∃ z, Real L v z ∧ Pu (bS op t X Y a c) z := by
  obtain ⟨l, h1, h⟩ := ob2_ok h
  obtain ⟨m, h2, h⟩ := ob2_ok h
  obtain ⟨b, h3, h⟩ := ob2_ok h
  cases h
  rw [agg?_ok h1] at ha
  rw [agg?_ok h2] at hc
  obtain ⟨xs, hl, rfl⟩ := ha.agg_inv
  obtain ⟨ys, hm, rfl⟩ := hc.agg_inv
  unfold agC at hp
  cases hg : P.eqGuardType P.depth t with
  | true => rw [hg] at hp; cases hp
  | false =>
    rw [hg] at hp
    obtain ⟨yt, g1, hp⟩ := ob2_ok hp
    have key : ∀ w, (Op.equal t (.agg xs.toArray) (.agg ys.toArray)).run P w = .ok b w := fun w => by
      obtain ⟨d, hd⟩ : ∃ d, Op.equal t (.agg xs.toArray) (.agg ys.toArray) = Op.equalIn (d + 2) t (.agg xs.toArray) (.agg ys.toArray) := ⟨9998, rfl⟩
      rw [hd]
      obtain ⟨i, dd', u1, u2, u3, u4, u5⟩ := ti_spec g1
      cases hy : yt.d <;> rw [hy] at hp <;> (first | (cases hp; done) | skip)
      · rename_i fs
        obtain ⟨ho, hp⟩ := cnd_some hp
        unfold okS at ho
        rw [hy] at u5
        cases dd' <;> simp only [dOf] at u5 <;> (first | (cases u5; done) | skip)
        rename_i fields
        rw [u2] at ho
        simp only [Bool.and_eq_true, Bool.not_eq_true'] at ho
        cases u5
        have hf : P.fieldsOf t = fields := by simp [Program.fieldsOf, u2]
        rw [run_equalIn_struct w (d + 1) t _ _ (by rw [hf]; exact u2) ho.2, hf]
        exact eqA_fields hl hm d w _ _ _ ho.1 hp h3
      · rename_i ln e
        obtain ⟨ye, g2, hp⟩ := ob2_ok hp
        obtain ⟨k, g3, hp⟩ := ob2_ok hp
        obtain ⟨hs1, hp⟩ := cnd_some hp
        cases hp
        rw [hy] at u5
        cases dd' <;> simp only [dOf] at u5 <;> (first | (cases u5; done) | skip)
        rename_i len' elem
        simp only [D.arr.injEq] at u5
        obtain ⟨rfl, rfl⟩ := u5
        obtain ⟨ie, de, v1, v2, v3, v4, v5⟩ := ti_spec g2
        have hsz : ie.size = 1 := by
          rw [v3]; exact Nat.eq_of_beq_eq_true hs1
        obtain ⟨D, hD⟩ : ∃ D, D = d + 1 := ⟨_, rfl⟩
        rw [show d + 2 = D + 1 by omega]
        simp only [Op.equalIn, Sem.run_bind, run_underlying u2, Result.andThen_ok, run_sizeOf' v1, hsz, Nat.mul_one]
        rw [Std.Legacy.Range.forIn_eq_forIn_range']
        simp only [Std.Legacy.Range.size, Nat.sub_zero, Nat.add_one_sub_one, Nat.div_one]
        rw [hD]
        exact eqA_range hl hm g2 g3 d w rfl rfl _ 0 b h3
    have r := eql_pure (t := t) (b := b) key (fun w => by simp [binOp]) (fun w => by simp [binOp]) (X := X) (Y := Y) (fun op w => run_eqGuard_agg w op t X Y _ _ hg)
    subst hop
    cases n with
    | false => exact ⟨_, .bool _, r.1⟩
    | true => exact ⟨_, .bool _, by rw [cnd_true, bnot_eq]; exact r.2⟩
/-- AN OPERATION OF TWO. -/
theorem binV_ok {L : Lo} {op : BinOp} {t : TypeId} {X Y : Operand} {x y v : EV} {a c : Value} (h : binV op t (cnd (isK X) true (isK Y)) x y = some v) (ha : Real L x a) (hc : Real L y c) : ∃ z, Real L v z ∧ Pu (bS op t X Y a c) z := by
  unfold binV at h
  cases ht : ti t with
  | none => rw [ht] at h; cases h
  | some z =>
    rw [ht] at h
    have hd := dd_of ht
    have last : cnd (Nat.beq (undK t) 1) (binO op (eqI (cnd (isK X) true (isK Y)))) (cnd (Nat.beq (undK t) 2) (binO op eqF) none2) x y = some v → ∃ z, Real L v z ∧ Pu (bS op t X Y a c) z := fun h => by
      cases h0 : Nat.beq (undK t) 1 with
      | true => rw [h0] at h; exact binO_ok h fun b hb => eqI_ok hb ha hc (isIf_of h0)
      | false =>
        rw [h0] at h
        cases h1 : Nat.beq (undK t) 2 with
        | true => rw [h1] at h; exact binO_ok h fun b hb => eqF_ok hb ha hc (isFn_of h1) X Y
        | false => rw [h1] at h; cases h
    have stru : (match op, agC t with
      | .eql, some ps => binA false ps
      | .neq, some ps => binA true ps
      | _, _ => none2) x y = some v → ∃ z, Real L v z ∧ Pu (bS op t X Y a c) z := fun h => by
      cases hp : agC t with
      | none => cases op <;> simp only [hp] at h <;> cases h
      | some ps =>
        cases op <;> simp only [hp] at h <;> (first | (cases h; done) | skip)
        · exact binA_ok (n := false) rfl hp h ha hc X Y
        · exact binA_ok (n := true) rfl hp h ha hc X Y
    cases hz : z.d with
    | int kk =>
      simp only [hz] at h
      cases hf : shE op with
      | some f =>
        simp only [hf] at h
        obtain ⟨⟨j, m⟩, h1, h⟩ := ob2_ok h
        obtain ⟨⟨k, n⟩, h2, h⟩ := ob2_ok h
        rw [int?_ok h1] at ha
        rw [int?_ok h2] at hc
        rw [ha.int_inv, hc.int_inv]
        obtain ⟨u, h3, h4⟩ := shE_ok hf h L t
        exact ⟨u, h3, h4 X Y⟩
      | none =>
        simp only [hf] at h
        cases hf : arE op with
        | some f =>
          simp only [hf] at h
          obtain ⟨⟨j, m⟩, h1, h⟩ := ob2_ok h
          obtain ⟨⟨k, n⟩, h2, h⟩ := ob2_ok h
          obtain ⟨h0, h'⟩ := cnd_some h
          have e0 := kEq_ok h0
          subst e0
          rw [int?_ok h1] at ha
          rw [int?_ok h2] at hc
          rw [ha.int_inv, hc.int_inv]
          obtain ⟨u, h3, h4⟩ := arE_ok hf h' L t
          exact ⟨u, h3, h4 X Y⟩
        | none => simp only [hf] at h; cases h
    | str =>
      simp only [hz] at h
      cases hf : stE op with
      | some f =>
        simp only [hf] at h
        obtain ⟨l, h1, h⟩ := ob2_ok h
        obtain ⟨m, h2, h⟩ := ob2_ok h
        rw [str?_ok h1] at ha
        rw [str?_ok h2] at hc
        obtain ⟨b1, rfl⟩ := ha.str_inv
        obtain ⟨b2, rfl⟩ := hc.str_inv
        obtain ⟨u, h3, h4⟩ := stE_ok hf b1 b2 h L t
        exact ⟨u, h3, h4 X Y⟩
      | none => simp only [hf] at h; cases h
    | flt k =>
      cases k with
      | f64 =>
        simp only [hz] at h
        obtain ⟨l, h1, h⟩ := ob2_ok h
        obtain ⟨m, h2, h⟩ := ob2_ok h
        rw [flt?_ok h1] at ha
        rw [flt?_ok h2] at hc
        rw [ha.flt_inv, hc.flt_inv]
        obtain ⟨u, h3, h4⟩ := flE_ok h L t
        exact ⟨u, h3, h4 X Y⟩
      | f32 => simp only [hz] at h; exact last h
    | cpl k =>
      cases k with
      | f64 =>
        simp only [hz] at h
        obtain ⟨l, h1, h⟩ := ob2_ok h
        obtain ⟨m, h2, h⟩ := ob2_ok h
        rw [cpx?_ok h1] at ha
        rw [cpx?_ok h2] at hc
        rw [ha.cpx_inv, hc.cpx_inv]
        obtain ⟨u, h3, h4⟩ := cpE_ok h L t
        exact ⟨u, h3, h4 X Y⟩
      | f32 => simp only [hz] at h; exact last h
    | struct fs => simp only [hz] at h; exact stru h
    | arr m e => simp only [hz] at h; exact stru h
    | bool =>
      simp only [hz] at h
      rw [hz] at hd
      exact binO_ok h fun b hb => eqBo_ok hb ha hc hd X Y
    | ptr e =>
      simp only [hz] at h
      rw [hz] at hd
      cases hy' : ti e with
      | none => simp only [hy'] at h; cases h
      | some y' =>
        simp only [hy'] at h
        cases h0 : Nat.beq y'.size 0 with
        | true => rw [h0] at h; cases h
        | false =>
          rw [h0] at h
          exact binO_ok h fun b hb => eqP_ok hb ha hc hd (szof_of hy') (Nat.ne_of_beq_eq_false h0) X Y
    | sl e =>
      simp only [hz] at h
      rw [hz] at hd
      exact binO_ok h fun b hb => eqSl_ok hb ha hc hd X Y
    | mp k e =>
      simp only [hz] at h
      rw [hz] at hd
      exact binO_ok h fun b hb => eqM_ok hb ha hc hd X Y
    | other => simp only [hz] at h; exact last h
end Go.Proofs.YtiabhghlhnnnjaaGreatDoor.Ev
