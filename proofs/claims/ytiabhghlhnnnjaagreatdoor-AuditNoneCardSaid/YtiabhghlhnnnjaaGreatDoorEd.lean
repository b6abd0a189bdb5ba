/-
  THE EVALUATOR IS SOUND (eighth part: what is read).
-/
import Derived.Test.YtiabhghlhnnnjaaGreatDoorEc
set_option linter.unusedVariables false
set_option maxRecDepth 100000
set_option linter.unusedSimpArgs false
set_option maxHeartbeats 0
noncomputable section
namespace Go.Proofs.YtiabhghlhnnnjaaGreatDoor.Ev
open Go Sh Sl
variable {e : Env} {R : HProp}
/-- an object of a world -/
theorem Rep.at_ {L : Lo} {s : St} {w : World} (h : Rep e R L s w) {i : Nat} {p : Lc} {o : EO} (h1 : L i = some p) (h2 : s.obj i = some o) : ∃ g, Hp.le g (hpOf w) ∧ pobj L p o g := by
  obtain ⟨g, _, _, l1, _, hA, _⟩ := (h.take h1 h2).heap
  exact ⟨g, l1, hA⟩
/-- a row's cells -/
theorem Rep.row {L : Lo} {s : St} {w : World} (h : Rep e R L s w) {i : Nat} {p : Lc} {r : List EV × Nat} (h1 : L i = some p) (h2 : s.row i = some r) :
    p.o = 0 ∧ r.1.length = r.2 ∧ ∃ vs, Reals L r.1 vs ∧ ∀ j v, vs[j]? = some v → w.cell? ⟨p.b, j, none⟩ = some v := by
  obtain ⟨o, h3, h4⟩ := ob2_ok h2
  obtain ⟨g, hg, hp⟩ := h.at_ h1 h3
  have key : ∀ (vs : List Value), rdc p.b 0 vs g → ∀ j v, vs[j]? = some v → w.cell? ⟨p.b, j, none⟩ = some v := fun vs k j v hj => by
    obtain ⟨T, fr, c, k1, k2⟩ := k
    have k3 : w.heap[p.b]? = some (.cells c T fr) := hg _ _ k1
    have k4 := k2 j v hj
    rw [Nat.zero_add] at k4
    simp [World.cell?, k3, k4]
  cases o <;> (first | (cases h4; done) | skip)
  · rename_i l n x
    cases h4
    cases x with
    | true =>
      obtain ⟨vs, a, b, c, d⟩ := hp
      exact ⟨c, b, vs, a, key vs (rdc_pt (fun j v hj => by simpa using hj) g d)⟩
    | false =>
      obtain ⟨vs, r, a, b, c, _, _, _, d⟩ := hp
      exact ⟨c, b, vs, a, key vs (rdc_pt (fun j v hj => by rw [Nat.zero_add, List.getElem?_append_left (List.getElem?_eq_some_iff.1 hj).1]; exact hj) g d)⟩
  · cases h4
    obtain ⟨vs, a, b, c, d⟩ := hp
    exact ⟨c, b, vs, a, key vs d⟩
/-- cells of a row -/
theorem Rep.cut {L : Lo} {s : St} {w : World} (h : Rep e R L s w) {i off n : Nat} {p : Lc} {cs : List EV} (h1 : L i = some p) (h2 : cutE s i off n = some cs) :
    cs.length = n ∧ ∃ vs, Reals L cs vs ∧ ∀ j v, vs[j]? = some v → w.cell? ((p.adr off).add j) = some v := by
  obtain ⟨⟨l, m⟩, h3, h4⟩ := ob2_ok h2
  obtain ⟨h5, h4⟩ := cnd_some (show cnd (Nat.ble (Nat.add off n) m) (some (tke (drp l off) n)) none = some cs from h4)
  cases h4
  have h6 := Nat.le_of_ble_eq_true h5
  obtain ⟨ho, hl, vs, hv, hc⟩ := h.row h1 h3
  simp only at hl hv
  have h7 : off + n ≤ m := h6
  refine ⟨by rw [tke_eq, drp_eq]; simp; omega, (vs.drop off).take n, by rw [tke_eq, drp_eq]; exact (hv.drop off).take n, fun j v hj => ?_⟩
  rw [List.getElem?_take] at hj
  split at hj
  · rw [List.getElem?_drop] at hj
    have := hc _ _ hj
    simpa [Lc.adr, ho, Addr.add_lit] using this
  · cases hj
theorem run_loadCells {w : World} {a : Addr} {vs : List Value} (h : ∀ j v, vs[j]? = some v → w.cell? (a.add j) = some v) : (loadCells a vs.length).run P w = .ok vs.toArray w := run_loadCells_list (P := P) w a vs h
theorem load_ok {L : Lo} {s : St} {w : World} (h : Rep e R L s w) {t : TypeId} {y : TI} (ht : ti t = some y) {i off : Nat} {p : Lc} (h1 : L i = some p) {v : EV} (hv : loadE (isAg y) y.size s i off = some v) :
    ∃ x, Real L v x ∧ (Instr.loadAt t (.pointer (some (p.adr off)))).run P w = .ok x w := by
  obtain ⟨ii, d, g1, g2, g3, g4, g5⟩ := ti_spec ht
  cases hg : isAg y with
  | true =>
    rw [hg] at hv
    obtain ⟨cs, h2, hv⟩ := ob2_ok (show ob2 (cutE s i off y.size) (fun cs => some (.agg cs)) = some v from hv)
    cases hv
    obtain ⟨h3, vs, h4, h5⟩ := h.cut h1 h2
    refine ⟨_, .agg h4, ?_⟩
    have hl := run_loadCells h5
    rw [h4.length, h3] at hl
    simp [Instr.loadAt, Instr.sureAddr, loadVar, run_isAg ht, hg, run_sizeOf' g1, g3, hl]
  | false =>
    rw [hg] at hv
    obtain ⟨⟨l, m⟩, h2, hv⟩ := ob2_ok (show ob2 (s.row i) (p2 fun l _ => nth l off) = some v from hv)
    have hv' : nth l off = some v := hv
    rw [nth_eq] at hv'
    obtain ⟨ho, hl, vs, h4, h5⟩ := h.row h1 h2
    obtain ⟨x, h6, h7⟩ := h4.get hv'
    refine ⟨x, h7, ?_⟩
    have h8 := h5 _ _ h6
    have h9 : w.cell? (p.adr off) = some x := by simpa [Lc.adr, ho] using h8
    simp [Instr.loadAt, Instr.sureAddr, loadVar, run_isAg ht, hg, h9]
/-! maps -/
theorem Rep.map {L : Lo} {s : St} {w : World} (h : Rep e R L s w) {i : Nat} {p : Lc} {q : List (EV × EV × Nat) × Nat} (h1 : L i = some p) (h2 : s.mp i = some q) :
    s.obj i = some (.map q.1 q.2) ∧ ∃ r, RealEs L q.1 r ∧ w.heap[p.b]? = some (.map r.toArray q.2) := by
  obtain ⟨o, h3, h4⟩ := ob2_ok h2
  obtain ⟨g, hg, hp⟩ := h.at_ h1 h3
  cases o <;> (first | (cases h4; done) | skip)
  cases h4
  obtain ⟨r, a, b⟩ := hp
  exact ⟨h3, r, a, hg _ _ b⟩
theorem und_kc {t : TypeId} {y : TI} {j : Nat} (h : ti t = some y) (hk : kcC y.d = some j) : (∃ k, y.d = .int k ∧ P.underlying t = some (.int k)) ∨ (y.d = .str ∧ P.underlying t = some .string) ∨ (y.d = .bool ∧ P.underlying t = some .bool) := by
  have hd := dd_of h
  cases hy : y.d <;> rw [hy] at hk hd <;> (first | (cases hk; done) | skip)
  · exact .inl ⟨_, rfl, dd_int hd⟩
  · exact .inr (.inl ⟨rfl, dd_str hd⟩)
  · exact .inr (.inr ⟨rfl, dd_bool hd⟩)
theorem run_checkKey {t : TypeId} {y : TI} {j : Nat} (h : ti t = some y) (hk : kcC y.d = some j) (em : Bool) (v : Value) (w : World) : (Instr.checkKey em 10000 t v).run P w = .ok () w := by
  obtain ⟨n, hn⟩ : ∃ n, n + 1 = 10000 := ⟨9999, rfl⟩
  rw [← hn]
  rcases und_kc h hk with ⟨k, _, hu⟩ | ⟨_, hu⟩ | ⟨_, hu⟩ <;> simp only [Instr.checkKey, Sem.run_bind, run_underlying hu, Result.andThen_ok] <;> rfl
/-- the key's kind -/
def kdOf (d : TypeDesc) (u : EV) : Prop := match d, u with
  | .int _, .int _ _ => True
  | .string, .str _ => True
  | .bool, .bool _ => True
  | _, _ => False
theorem sameNow_some {L : Lo} {d : TypeDesc} {u v : EV} {x y : Value} (hx : Real L u x) (hy : Real L v y) {b : Bool} (h : keyEq u v = some b) (hu : kdOf d u) : Instr.sameNow d x y = some b := by
  unfold keyEq at h
  split at h
  · obtain ⟨h1, h2⟩ := cnd_some h
    have := kEq_ok h1; subst this
    cases h2
    rw [hx.int_inv, hy.int_inv]
    cases d <;> first | exact hu.elim | (simp only [Instr.sameNow, if_true]; rw [ieq_beq])
  · cases h
    obtain ⟨h1, rfl⟩ := hx.str_inv
    obtain ⟨h2, rfl⟩ := hy.str_inv
    rename_i a b'
    have e : (ba (bts a) == ba (bts b')) = eqS a b' := by
      rw [beq_toListBytes, ba_eq, eqS_eq]
      exact decide_eq_decide.2 ⟨fun h => bts_inj h1 h2 (by simpa [ba] using h), fun h => by rw [h]⟩
    cases d <;> first | exact hu.elim | (simp only [Instr.sameNow]; rw [e])
  · cases h
    rw [hx.bool_inv, hy.bool_inv]
    cases d <;> first | exact hu.elim | rfl
  · cases h
theorem findE_ok {L : Lo} {d : TypeDesc} {k : EV} {x : Value} (hx : Real L k x) (hu : kdOf d k) : ∀ {es : List (EV × EV × Nat)} {r : List MapEntry} (i : Nat) {q : Option (Nat × EV)}, RealEs L es r → findE k es i = some q →
    ∃ q', Instr.findNow d x r i = some q' ∧ (q = none ∧ q' = none ∨ ∃ j v z, q = some (i + j, v) ∧ q' = some (i + j, z) ∧ Real L v z ∧ ∃ a b, es[j]? = some (a, v, b) ∧ ∃ y, r[j]? = some ⟨y, z, b⟩ ∧ Real L a y ∧ keyEq k a = some true)
  | [], _, i, q, .nil, h => by cases h; exact ⟨none, rfl, .inl ⟨rfl, rfl⟩⟩
  | (a, v, n) :: es, _, i, q, .cons ha hv t, h => by
    simp only [findE] at h
    cases hk : keyEq k a with
    | none => simp only [hk] at h; cases h
    | some b =>
      have h1 := sameNow_some hx ha hk hu
      cases b with
      | true =>
        simp only [hk] at h
        cases h
        exact ⟨some (i, _), by simp only [Instr.findNow, h1], .inr ⟨0, v, _, rfl, rfl, hv, a, n, rfl, _, rfl, ha, hk⟩⟩
      | false =>
        simp only [hk] at h
        obtain ⟨q', h2, h3⟩ := findE_ok hx hu (i + 1) t h
        refine ⟨q', by simp only [Instr.findNow, h1]; exact h2, ?_⟩
        rcases h3 with h3 | ⟨j, u, z, rfl, rfl, h4, a', b', h5, y, h6, h7⟩
        · exact .inl h3
        · exact .inr ⟨j + 1, u, z, by simp [Nat.add_assoc, Nat.add_comm 1 j], by simp [Nat.add_assoc, Nat.add_comm 1 j], h4, a', b', h5, y, h6, h7⟩
theorem kd_of {k : EV} {t : TypeId} {y : TI} {j : Nat} (h : ti t = some y) (hk : kcC y.d = some j) {es : List (EV × EV × Nat)} {q : Option (Nat × EV)} (hf : findK j k es = some q) :
    ∃ d, P.underlying t = some d ∧ kdOf d k ∧ findE k es 0 = some q := by
  obtain ⟨h1, h2⟩ := cnd_some (show cnd (keyK j k) (findE k es 0) none = some q from hf)
  unfold keyK at h1
  split at h1
  · have h3 := Nat.eq_of_beq_eq_true h1
    rename_i i n
    rcases und_kc h hk with ⟨k', e, hu⟩ | ⟨e, hu⟩ | ⟨e, hu⟩
    · exact ⟨_, hu, trivial, h2⟩
    · rw [e] at hk; cases hk; cases i <;> cases h3
    · rw [e] at hk; cases hk; cases i <;> cases h3
  · have h3 := Nat.eq_of_beq_eq_true h1
    rcases und_kc h hk with ⟨k', e, hu⟩ | ⟨e, hu⟩ | ⟨e, hu⟩
    · rw [e] at hk; cases hk; cases k' <;> cases h3
    · exact ⟨_, hu, trivial, h2⟩
    · rw [e] at hk; cases hk; cases h3
  · have h3 := Nat.eq_of_beq_eq_true h1
    rcases und_kc h hk with ⟨k', e, hu⟩ | ⟨e, hu⟩ | ⟨e, hu⟩
    · rw [e] at hk; cases hk; cases k' <;> cases h3
    · rw [e] at hk; cases hk; cases h3
    · exact ⟨_, hu, trivial, h2⟩
  · cases h1
theorem keyN_ok {t : TypeId} {n : Nat} (h : keyN t = some n) : ∃ k v y, dd t = some (.mp k v) ∧ ti k = some y ∧ kcC y.d = some n := by
  obtain ⟨x, h1, h⟩ := ob2_ok h
  have hd := dd_of h1
  split at h
  · rename_i k v hx
    rw [hx] at hd
    obtain ⟨y, h2, h⟩ := ob2_ok h
    exact ⟨k, v, y, hd, h2, h⟩
  · cases h
theorem mpT_ok {t e : TypeId} (h : mpT t = some e) : ∃ k, dd t = some (.mp k e) := by
  obtain ⟨x, h1, h⟩ := ob2_ok h
  have hd := dd_of h1
  split at h
  · rename_i k v hx
    cases h
    rw [hx] at hd
    exact ⟨k, hd⟩
  · cases h
theorem slT_ok {t e : TypeId} (h : slT t = some e) : dd t = some (.sl e) := by
  obtain ⟨x, h1, h⟩ := ob2_ok h
  have hd := dd_of h1
  split at h
  · rename_i v hx
    cases h
    rw [hx] at hd
    exact hd
  · cases h
theorem slC_ok {t : TypeId} {y : TI} (h : slC t = some y) : ∃ e, dd t = some (.sl e) ∧ ti e = some y := by
  obtain ⟨e, h1, h⟩ := ob2_ok h
  exact ⟨e, slT_ok h1, h⟩
theorem mpC_ok {t : TypeId} {y : TI} (h : mpC t = some y) : ∃ k e, dd t = some (.mp k e) ∧ ti e = some y := by
  obtain ⟨e, h1, h⟩ := ob2_ok h
  obtain ⟨k, h2⟩ := mpT_ok h1
  exact ⟨k, e, h2, h⟩
/-- a type's zero as a value -/
theorem zvl_ok {L : Lo} {t : TypeId} {z : EV} (h : zvl t = some z) : ∃ x, Real L z x ∧ (∀ w, (zeroValue t).run P w = .ok x w) := by
  obtain ⟨i, h1, h⟩ := ob2_ok h
  obtain ⟨v, h2, h⟩ := ob2_ok h
  exact ⟨v, ofV_ok v z h, fun w => run_zero h1 h2 w⟩
theorem lookup_ok {L : Lo} {s : St} {w : World} (h : Rep e R L s w) {t : TypeId} {n : Nat} (hn : keyN t = some n) {z : EV} (hz : ob2 (mpT t) zvl = some z)
    {k m : EV} {es : List (EV × EV × Nat)} (hes : entE m s = some es) {q : Option (Nat × EV)} (hq : findK n k es = some q) (ok : Bool) {x u : Value} (hx : Real L k x) (hu : Real L m u) :
    ∃ v, Real L (lookE ok z q) v ∧ (Instr.lookup t u x ok).run P w = .ok v w := by
  obtain ⟨kt, vt, yk, h1, h2, h3⟩ := keyN_ok hn
  obtain ⟨vt', h6, hz⟩ := ob2_ok hz
  obtain ⟨kt', h7⟩ := mpT_ok h6
  rw [h1] at h7; cases h7
  obtain ⟨zv, h8, h9⟩ := zvl_ok (L := L) hz
  obtain ⟨d, h10, h11, h12⟩ := kd_of h2 h3 hq
  obtain ⟨r, hre, hru⟩ : ∃ r : List MapEntry, RealEs L es r ∧ (Instr.lookup t u x ok).run P w = ((do
      Instr.checkKey r.toArray.isEmpty 10000 kt x
      let (v, ok') ← match ← Instr.findKey kt x r.toArray.toList with
        | some (_, v) => pure (v, true)
        | none => pure (← zeroValue vt, false)
      pure (if ok then .tuple #[v, .bool ok'] else v) : Sem Value)).run P w := by
    unfold entE at hes
    split at hes
    · cases hes
      cases hu
      exact ⟨[], .nil, by simp only [Instr.lookup, Sem.run_bind, run_underlying (dd_mp h1), Result.andThen_ok, Sem.run_pure]; rfl⟩
    · obtain ⟨p, h13, hes⟩ := ob2_ok hes
      cases hes
      obtain ⟨p', h14, rfl⟩ := hu.map_inv
      obtain ⟨h15, r, h16, h17⟩ := h.map h14 h13
      refine ⟨r, h16, ?_⟩
      have hg : (getObj p'.b).run P w = .ok (.map r.toArray p.2) w := by simp [getObj, Sem.run, h17]
      simp only [Instr.lookup, Sem.run_bind, run_underlying (dd_mp h1), Result.andThen_ok, hg, Sem.run_pure]
      rfl
    · cases hes
  rw [hru]
  obtain ⟨q', h18, h19⟩ := findE_ok hx h11 0 hre h12
  have hfk : (Instr.findKey kt x r.toArray.toList).run P w = .ok q' w := by
    simp only [Instr.findKey, Sem.run_bind, run_underlying h10, Result.andThen_ok, h18, Sem.run_pure]
  simp only [Sem.run_bind, run_checkKey h2 h3, Result.andThen_ok, hfk]
  rcases h19 with ⟨rfl, rfl⟩ | ⟨j, v, zz, rfl, rfl, h20, _⟩
  · simp only [Sem.run_bind, h9 w, Result.andThen_ok, Sem.run_pure]
    cases ok with
    | true => exact ⟨_, .tup (.cons h8 (.one (.bool false))), rfl⟩
    | false => exact ⟨_, h8, rfl⟩
  · simp only [Result.andThen_ok, Sem.run_pure]
    cases ok with
    | true => exact ⟨_, .tup (.cons h20 (.one (.bool true))), rfl⟩
    | false => exact ⟨_, h20, rfl⟩
/-- the operation reads 'v' -/
def ReadAt (e : Env) (R : HProp) (L : Lo) (s : St) (ρ : Operand → Value) (o : Oper) (v : EV) : Prop := ∀ w, Rep e R L s w → ∃ x, Real L v x ∧ (execOp ρ o).run P w = .ok (.value x) w
theorem okB_of {l : List EV} {m : List Nat} (h : ofU8 l = some m) : okB m ∧ l = m.map fun (n : Nat) => EV.int .u8 (n : Int) := by
  induction l generalizing m with
  | nil => cases h; exact ⟨fun x hx => (List.not_mem_nil hx).elim, rfl⟩
  | cons v l ih =>
    obtain ⟨b, h1, h⟩ := ob2_ok (show ob2 v.u8? (fun b => ob2 (ofU8 l) fun r => some (b :: r)) = some m from h)
    obtain ⟨r, h2, h⟩ := ob2_ok h
    cases h
    obtain ⟨h3, rfl⟩ := ih h2
    obtain ⟨⟨k, n⟩, h4, h5⟩ := ob2_ok h1
    have h6 := int?_ok h4
    cases k <;> (first | (cases h5; done) | skip)
    cases n with
    | negSucc n => cases h5
    | ofNat n =>
      obtain ⟨h7, h8⟩ := cnd_some (show cnd (blt n 256) (some n) none = some b from h5)
      cases h8
      rw [blt_eq, decide_eq_true_eq] at h7
      refine ⟨fun x hx => ?_, by rw [h6]; rfl⟩
      rcases List.mem_cons.1 hx with rfl | hx
      · exact h7
      · exact h3 x hx
theorem reals_u8 {L : Lo} {m : List Nat} (hm : okB m) {vs : List Value} (h : Reals L (m.map fun (n : Nat) => EV.int .u8 (n : Int)) vs) : vs = u8 (bts m) := by
  induction m generalizing vs with
  | nil => cases h; rfl
  | cons n m ih =>
    cases h with
    | cons h1 h2 =>
      have h3 := hm n List.mem_cons_self
      rw [ih (fun x hx => hm x (List.mem_cons_of_mem _ hx)) h2, h1.int_inv]
      simp only [bts, List.map_cons, u8, UInt8.toNat_ofNat']
      congr 2
      omega
theorem convB_ok {L : Lo} {a b : TypeId} (hk : ckC a b = some .bs) {s : St} {w : World} (h : Rep e R L s w) {u v : EV} (hv : convB s u = some v) {x : Value} (hx : Real L u x) : ∃ z, Real L v z ∧ (convert a b x).run P w = .ok z w := by
  obtain ⟨ya, g1, hk⟩ := ob2_ok hk
  obtain ⟨yb, g2, hk⟩ := ob2_ok hk
  have da := dd_of g1
  have db := dd_of g2
  have : ∃ el, ya.d = .sl el ∧ yb.d = .str ∧ isU8 el = true := by
    split at hk <;> first | (cases hk; done) | (obtain ⟨hu, hk⟩ := cnd_some hk; first | (cases hk; done) | (obtain ⟨_, hk⟩ := cnd_some hk; cases hk; done) | exact ⟨_, ‹_›, ‹_›, hu⟩)
  obtain ⟨el, e1, e2, e3⟩ := this
  rw [e1] at da; rw [e2] at db
  have du : dd el = some (.int .u8) := by
    unfold isU8 at e3
    split at e3
    · rename_i y hy
      have := dd_of hy
      split at e3
      · rename_i hd; rw [hd] at this; exact this
      · cases e3
    · cases e3
  unfold convB at hv
  split at hv
  · cases hv
    cases hx
    refine ⟨_, .str [] (fun x hx => (List.not_mem_nil hx).elim), ?_⟩
    have := run_b2s (e := e) (ctx := []) (l := []) (a := none) (c := 0) da du db (rfl : (u8 [] : List Value) = []) (h.sat.imp fun _ _ => trivial)
    exact this
  · rename_i i off n c xx
    obtain ⟨cs, h1, hv⟩ := ob2_ok hv
    obtain ⟨l, h2, hv⟩ := ob2_ok hv
    cases hv
    obtain ⟨h3, h4⟩ := okB_of h2
    obtain ⟨p, hp, rfl⟩ := hx.slice_inv
    refine ⟨_, .str l h3, ?_⟩
    rw [run_convert_bytes_string w a b el (some (p.adr off)) _ _ (dd_sl da) (dd_int du) (dd_str db)]
    have hcells : ∃ vs, Reals L cs vs ∧ cs.length = n ∧ (loadCells (p.adr off) n).run P w = .ok vs.toArray w := by
      cases h0 : Nat.beq (Nat.mul n 1) 0 with
      | true =>
        have hn : n = 0 := by have := Nat.eq_of_beq_eq_true h0; simpa using this
        have h5 : cnd (Nat.beq (Nat.mul n 1) 0) (some []) (cutE s i off (Nat.mul n 1)) = some cs := h1
        rw [h0] at h5
        cases h5
        subst hn
        exact ⟨[], .nil, rfl, rfl⟩
      | false =>
        have h5 : cnd (Nat.beq (Nat.mul n 1) 0) (some []) (cutE s i off (Nat.mul n 1)) = some cs := h1
        rw [h0] at h5
        obtain ⟨h6, vs, h7, h8⟩ := h.cut hp h5
        have h9 : cs.length = n := by rw [h6]; exact Nat.mul_one n
        have := run_loadCells h8
        rw [h7.length, h9] at this
        exact ⟨vs, h7, h9, this⟩
    obtain ⟨vs, h5, h6, h7⟩ := hcells
    rw [h4] at h5
    have h8 := reals_u8 h3 h5
    subst h8
    have hm : u8 (bts l) = ((bts l).map fun b => (b.toNat : Int)).map (Value.int .u8) := by simp [u8]
    rw [hm] at h7
    rw [run_bytesToString w (p.adr off) n _ _ h7, foldl_push_bytes]
    congr 2
    simp only [ba, ByteArray.empty, ByteArray.emptyWithCapacity]
    congr 1
    apply Array.ext'
    simp only [List.map_map]
    have e0 : ((fun n : Int => UInt8.ofNat n.toNat) ∘ fun b : UInt8 => (b.toNat : Int)) = id := by funext b; simp
    rw [e0, List.map_id]
    simp
    rfl
  · cases hv
/-- WHAT READS. -/
theorem read_op {L : Lo} {gi : Nat → Option Nat} {fr : Fr} {ρ : Operand → Value} {o : Oper} {run : Run} {s s' : St} {v : EV} (hk : kindE o.op = 2) (hc : ∀ c, o.op ≠ .call c) (h : (opC gi o.op).go run fr s = .ok (v, s'))
    (hO : Ops L gi fr ρ o.op) : s' = s ∧ ReadAt e R L s ρ o v := by
  obtain ⟨dst, op, type, pos, after, guard⟩ := o
  simp only at hk hc h hO
  cases op <;> (first | (cases hk; done) | skip)
  case load t a =>
    obtain ⟨y, h1, h⟩ := ost_ok h
    obtain ⟨h2, rfl⟩ := sv_ok h
    obtain ⟨u, h3, h2⟩ := ob2_ok h2
    obtain ⟨⟨i, off⟩, h4, h2⟩ := ob2_ok h2
    have hu := hO a (by simp [Op.operands]) u h3
    rw [ptr?_ok h4] at hu
    obtain ⟨p, hp, hx⟩ := hu.ptr_inv
    refine ⟨rfl, fun w hw => ?_⟩
    obtain ⟨x, h5, h6⟩ := load_ok hw h1 hp h2
    exact ⟨x, h5, run_vS (by rw [hx]; exact h6)⟩
  case convert a b x =>
    obtain ⟨k, h1, h⟩ := ost_ok h
    simp only [kindE, h1] at hk
    cases k <;> (first | (cases hk; done) | skip)
    obtain ⟨h2, rfl⟩ := sv_ok h
    obtain ⟨u, h3, h2⟩ := ob2_ok h2
    refine ⟨rfl, fun w hw => ?_⟩
    obtain ⟨z, h5, h6⟩ := convB_ok h1 hw h2 (hO x (by simp [Op.operands]) u h3)
    exact ⟨z, h5, run_vS h6⟩
  case lookup t x ix ok =>
    obtain ⟨n, h1, h⟩ := ost_ok h
    obtain ⟨z, h2, h⟩ := ost_ok h
    obtain ⟨h3, rfl⟩ := sv_ok h
    obtain ⟨k, h4, h3⟩ := ob2_ok h3
    obtain ⟨m, h5, h3⟩ := ob2_ok h3
    obtain ⟨es, h6, h3⟩ := ob2_ok h3
    obtain ⟨q, h7, h3⟩ := ob2_ok h3
    cases h3
    refine ⟨rfl, fun w hw => ?_⟩
    obtain ⟨z, h8, h9⟩ := lookup_ok hw h1 h2 h6 h7 ok (hO ix (by simp [Op.operands]) k h4) (hO x (by simp [Op.operands]) m h5)
    exact ⟨z, h8, run_vS h9⟩
  case call c => exact absurd rfl (hc c)
end Go.Proofs.YtiabhghlhnnnjaaGreatDoor.Ev
