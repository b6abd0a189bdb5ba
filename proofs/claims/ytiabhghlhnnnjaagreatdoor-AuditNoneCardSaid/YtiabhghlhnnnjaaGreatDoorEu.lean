/-
  THE EVALUATOR IS SOUND (part twenty-two: the order in which it takes a drawn region's operations).
-/
import Derived.Test.YtiabhghlhnnnjaaGreatDoorEt
set_option linter.unusedVariables false
set_option linter.unusedSimpArgs false
set_option maxRecDepth 100000
noncomputable section
namespace Go.Proofs.YtiabhghlhnnnjaaGreatDoor.Ev
open Go Sh Sl
/-! sets of numbers -/
theorem bit_eq (i : Nat) : bit i = 2 ^ i := by show 1 <<< i = 2 ^ i; rw [Nat.one_shiftLeft]
theorem bit_test (i t : Nat) : (bit i).testBit t = decide (i = t) := by rw [bit_eq, Nat.testBit_two_pow]
theorem lor_test (a b t : Nat) : (Nat.lor a b).testBit t = (a.testBit t || b.testBit t) := Nat.testBit_or a b t
theorem land_test (a b t : Nat) : (Nat.land a b).testBit t = (a.testBit t && b.testBit t) := Nat.testBit_and a b t
theorem dj_ok {a b : Nat} : dj a b = true ↔ ∀ t, a.testBit t = true → b.testBit t = true → False := by
  unfold dj
  constructor
  · intro h t h1 h2
    have := congrArg (Nat.testBit · t) (Nat.eq_of_beq_eq_true h)
    simp [land_test, h1, h2] at this
  · intro h
    have : Nat.land a b = 0 := Nat.eq_of_testBit_eq fun t => by
      rw [land_test, Nat.zero_testBit]
      cases h1 : a.testBit t with
      | false => rfl
      | true =>
        cases h2 : b.testBit t with
        | false => rfl
        | true => exact (h t h1 h2).elim
    rw [this]; rfl
theorem hasB_eq (m i : Nat) : hasB m i = m.testBit i := by
  unfold hasB
  rw [bnot_eq]
  cases h : m.testBit i with
  | false =>
    have : dj m (bit i) = true := dj_ok.2 fun t h1 h2 => by
      rw [bit_test, decide_eq_true_eq] at h2
      subst h2; rw [h] at h1; cases h1
    rw [this]; rfl
  | true =>
    cases hd : dj m (bit i) with
    | false => rfl
    | true => exact (dj_ok.1 hd i h (by rw [bit_test]; simp)).elim
theorem bits_test : ∀ (l : List Nat) (t : Nat), (bits l).testBit t = true ↔ t ∈ l
  | [], t => by show (0 : Nat).testBit t = true ↔ _; simp
  | d :: l, t => by
    show (Nat.lor (bit d) (bits l)).testBit t = true ↔ _
    rw [lor_test, bit_test, Bool.or_eq_true, bits_test l t, decide_eq_true_eq, List.mem_cons]
    exact ⟨fun h => h.imp Eq.symm id, fun h => h.imp Eq.symm id⟩
theorem dsL_test (d : Option Tmp) (t : Nat) : (dsL d).testBit t = true ↔ d = some t := by
  cases d with
  | none => show (0 : Nat).testBit t = true ↔ _; simp
  | some x => show (bit x).testBit t = true ↔ _; rw [bit_test]; simp
theorem aftL_mem : ∀ (l : List Edge) (t : Nat), t ∈ aftL l ↔ ∃ e ∈ l, Region.binds .any e = true ∧ e.on = t
  | [], t => by show t ∈ [] ↔ _; simp
  | e :: l, t => by
    show t ∈ cnd (Region.binds .any e) (e.on :: aftL l) (aftL l) ↔ _
    cases h : Region.binds .any e with
    | true =>
      rw [cnd_true, List.mem_cons, aftL_mem l t]
      constructor
      · rintro (rfl | ⟨e', h1, h2⟩)
        · exact ⟨e, List.mem_cons_self, h, rfl⟩
        · exact ⟨e', List.mem_cons_of_mem _ h1, h2⟩
      · rintro ⟨e', h1, h2, h3⟩
        rcases List.mem_cons.1 h1 with rfl | h1
        · exact .inl h3.symm
        · exact .inr ⟨e', h1, h2, h3⟩
    | false =>
      rw [cnd_false, aftL_mem l t]
      constructor
      · rintro ⟨e', h1, h2⟩; exact ⟨e', List.mem_cons_of_mem _ h1, h2⟩
      · rintro ⟨e', h1, h2, h3⟩
        rcases List.mem_cons.1 h1 with rfl | h1
        · rw [h] at h2; cases h2
        · exact ⟨e', h1, h2, h3⟩
/-- what an operation waits for, at whatever remove -/
inductive Wt (ops : Array Oper) : Nat → Nat → Prop
  | one {j : Nat} {o : Oper} {e : Edge} (h : ops[j]? = some o) (he : e ∈ o.after) (hb : Region.binds .any e = true) : Wt ops j e.on
  | far {j x : Nat} {o : Oper} {e : Edge} (h : ops[j]? = some o) (he : e ∈ o.after) (hb : Region.binds .any e = true) (k : Wt ops e.on x) : Wt ops j x
/-- apart from all that are left -/
def Free (ops : Array Oper) (E : List Nat) (i : Nat) (o : Oper) : Prop := ∀ k ok, ops[k]? = some ok → k ∉ E → k ≠ i → (∃ e ∈ ok.after, Region.binds .any e = true ∧ e.on = i) ∨
  ((∀ d, o.dst = some d → d ∉ ok.looksAt ops) ∧ ∀ d, ok.dst = some d → d ∉ o.looksAt ops)
def Aft (E : List Nat) (o : Oper) : Prop := ∀ e ∈ o.after, Region.binds .any e = true → e.on ∈ E
inductive Ord (ops : Array Oper) : List Nat → List Stp → Prop
  | nil {E : List Nat} (h : ∀ i o, ops[i]? = some o → i ∈ E) : Ord ops E []
  | still {E : List Nat} {i : Nat} {o : Oper} {k : Nat} {r : List Stp} (ho : ops[i]? = some o) (hk : kindE o.op = k) (hk0 : k ≠ 0) (hi : i ∉ E) (ha : Aft E o) (hf : Free ops E i o) (hr : Ord ops (i :: E) r) : Ord ops E (.still i o k :: r)
  | act {E : List Nat} {i : Nat} {o : Oper} {cl : Nat} {r : List Stp} (ho : ops[i]? = some o) (hi : i ∉ E) (ha : Aft E o) (honly : ∀ j oj, ops[j]? = some oj → j ∉ E → Aft E oj → j = i) (hcl : ∀ x, hasB cl x = true → Wt ops i x)
      (hr : Ord ops (i :: E) r) : Ord ops E (.act i o cl :: r)
structure OrdI (ops : Array Oper) (m : Nat) (cs : List (Nat × Nat)) (l : List Rc) (E : List Nat) : Prop where
  l1 : ∀ x ∈ l, ∃ i o, ops[i]? = some o ∧ i ∉ E ∧ x = rcC ops i o
  l2 : ∀ i o, ops[i]? = some o → i ∉ E → rcC ops i o ∈ l
  m : ∀ i, m.testBit i = true ↔ i ∈ E
  cs : ∀ p ∈ cs, ∀ x, p.2.testBit x = true → Wt ops p.1 x
section
variable {ops : Array Oper} {m : Nat} {cs : List (Nat × Nat)} {l : List Rc} {E : List Nat}
theorem rcC_eq (i : Nat) (o : Oper) : rcC ops i o = .mk i (bits (aftL o.after.toList)) (bits (o.looksAt ops)) (dsL o.dst) (kindE o.op) o := rfl
theorem aft_test (o : Oper) (t : Nat) : (bits (aftL o.after.toList)).testBit t = true ↔ ∃ e ∈ o.after, Region.binds .any e = true ∧ e.on = t := by
  rw [bits_test, aftL_mem]; simp
theorem aft_ok (h : OrdI ops m cs l E) {o : Oper} : Nat.beq (Nat.land (bits (aftL o.after.toList)) m) (bits (aftL o.after.toList)) = true ↔ Aft E o := by
  constructor
  · intro hb e he hbi
    have h1 := (aft_test o e.on).2 ⟨e, he, hbi, rfl⟩
    have := congrArg (Nat.testBit · e.on) (Nat.eq_of_beq_eq_true hb)
    simp [land_test, h1] at this
    exact (h.m _).1 this
  · intro hA
    have : Nat.land (bits (aftL o.after.toList)) m = bits (aftL o.after.toList) := Nat.eq_of_testBit_eq fun t => by
      rw [land_test]
      cases h1 : (bits (aftL o.after.toList)).testBit t with
      | false => rfl
      | true =>
        obtain ⟨e, he, hb, rfl⟩ := (aft_test o t).1 h1
        rw [(h.m _).2 (hA e he hb)]; rfl
    rw [this, beq_eq]; simp
theorem freeC_ok {i lk ds : Nat} : ∀ {l : List Rc}, freeC i lk ds l = true → ∀ j aft lk' ds' st o, Rc.mk j aft lk' ds' st o ∈ l → j = i ∨ hasB aft i = true ∨ (dj ds (Nat.lor lk' ds') = true ∧ dj ds' lk = true)
  | [], _, _, _, _, _, _, _, h => (List.not_mem_nil h).elim
  | .mk j0 aft0 lk0 ds0 st0 o0 :: l, h, j, aft, lk', ds', st, o, hm => by
    have h : cnd (cnd (Nat.beq j0 i) true (cnd (hasB aft0 i) true (band (dj ds (Nat.lor lk0 ds0)) (dj ds0 lk)))) (freeC i lk ds l) false = true := h
    have h0 : (cnd (Nat.beq j0 i) true (cnd (hasB aft0 i) true (band (dj ds (Nat.lor lk0 ds0)) (dj ds0 lk)))) = true ∧ freeC i lk ds l = true := by
      generalize cnd (Nat.beq j0 i) true (cnd (hasB aft0 i) true (band (dj ds (Nat.lor lk0 ds0)) (dj ds0 lk))) = b at h
      cases b with
      | true => exact ⟨rfl, h⟩
      | false => cases h
    rcases List.mem_cons.1 hm with he | he
    · injection he with e1 e2 e3 e4 e5 e6
      subst e1; subst e2; subst e3; subst e4
      have h1 := h0.1
      cases hb : Nat.beq j i with
      | true => exact .inl (Nat.eq_of_beq_eq_true hb)
      | false =>
        rw [hb] at h1
        cases hb2 : hasB aft i with
        | true => exact .inr (.inl rfl)
        | false =>
          rw [hb2] at h1
          exact .inr (.inr (band_ok h1))
    · exact freeC_ok h0.2 j aft lk' ds' st o he
theorem free_ok (h : OrdI ops m cs l E) {i : Nat} {o : Oper} (hf : freeC i (bits (o.looksAt ops)) (dsL o.dst) l = true) : Free ops E i o := by
  intro k ok hk hkE hki
  rcases freeC_ok hf _ _ _ _ _ _ (rcC_eq (ops := ops) k ok ▸ h.l2 k ok hk hkE) with h1 | h1 | ⟨h1, h2⟩
  · exact absurd h1 hki
  · rw [hasB_eq] at h1
    exact .inl ((aft_test ok i).1 h1)
  · refine .inr ⟨fun d hd hm => dj_ok.1 h1 d ((dsL_test _ _).2 hd) ?_, fun d hd hm => dj_ok.1 h2 d ((dsL_test _ _).2 hd) ((bits_test _ _).2 hm)⟩
    rw [lor_test, (bits_test _ _).2 hm]; rfl
theorem firstC_ok {all : List Rc} : ∀ {l : List Rc} {x : Rc}, firstC m all l = some x → x ∈ l ∧ ∃ i aft lk ds st o, x = .mk i aft lk ds st o ∧ st ≠ 0 ∧ Nat.beq (Nat.land aft m) aft = true ∧ freeC i lk ds all = true
  | [], _, h => by cases h
  | .mk i aft lk ds st o :: l, x, h => by
    have h : cnd (Nat.beq st 0) (firstC m all l) (cnd (band (Nat.beq (Nat.land aft m) aft) (freeC i lk ds all)) (some (.mk i aft lk ds st o)) (firstC m all l)) = some x := h
    have rest : firstC m all l = some x → x ∈ Rc.mk i aft lk ds st o :: l ∧ ∃ i aft lk ds st o, x = .mk i aft lk ds st o ∧ st ≠ 0 ∧ Nat.beq (Nat.land aft m) aft = true ∧ freeC i lk ds all = true := fun h => by
      obtain ⟨h1, h2⟩ := firstC_ok h
      exact ⟨List.mem_cons_of_mem _ h1, h2⟩
    cases hs : Nat.beq st 0 with
    | true => rw [hs] at h; exact rest h
    | false =>
      rw [hs] at h
      cases hb : band (Nat.beq (Nat.land aft m) aft) (freeC i lk ds all) with
      | false => rw [hb] at h; exact rest h
      | true =>
        rw [hb] at h
        cases h
        obtain ⟨h1, h2⟩ := band_ok hb
        exact ⟨List.mem_cons_self, i, aft, lk, ds, st, o, rfl, fun h0 => (by subst h0; cases hs), h1, h2⟩
theorem onlyC_ok {all : List Rc} {x : Rc} (h : onlyC m all = some x) : x ∈ all ∧ (∀ y ∈ all, rdyC m y = true → y = x) ∧ rdyC m x = true ∧ ∃ i aft lk ds st o, x = .mk i aft lk ds st o ∧ freeC i lk ds all = true := by
  unfold onlyC at h
  split at h
  · rename_i i aft lk ds st o hf
    obtain ⟨h1, h2⟩ := cnd_some h
    cases h2
    have hm : Rc.mk i aft lk ds st o ∈ all.filter (rdyC m) := by rw [hf]; simp
    refine ⟨(List.mem_filter.1 hm).1, fun y hy hr => ?_, (List.mem_filter.1 hm).2, i, aft, lk, ds, st, o, rfl, h1⟩
    have : y ∈ all.filter (rdyC m) := List.mem_filter.2 ⟨hy, hr⟩
    rw [hf] at this
    simpa using this
  · cases h
theorem closC_ok (h : ∀ p ∈ cs, ∀ x, p.2.testBit x = true → Wt ops p.1 x) {i : Nat} {o : Oper} (ho : ops[i]? = some o) {x : Nat} (hx : (closC (bits (aftL o.after.toList)) cs).testBit x = true) : Wt ops i x := by
  induction cs with
  | nil =>
    obtain ⟨e, he, hb, rfl⟩ := (aft_test o x).1 hx
    exact .one ho he hb
  | cons p cs ih =>
    have hx : (p2 (fun j c => cnd (hasB (bits (aftL o.after.toList)) j) (Nat.lor c (closC (bits (aftL o.after.toList)) cs)) (closC (bits (aftL o.after.toList)) cs)) p).testBit x = true := hx
    rw [p2_ok] at hx
    have ih := ih fun q hq => h q (List.mem_cons_of_mem _ hq)
    cases hb : hasB (bits (aftL o.after.toList)) p.1 with
    | false => rw [hb] at hx; exact ih hx
    | true =>
      rw [hb] at hx
      rw [cnd_true, lor_test, Bool.or_eq_true] at hx
      rcases hx with hx | hx
      · rw [hasB_eq] at hb
        obtain ⟨e, he, hbb, h1⟩ := (aft_test o p.1).1 hb
        exact .far ho he hbb (by rw [h1]; exact h p List.mem_cons_self x hx)
      · exact ih hx
theorem rmC_mem {i : Nat} : ∀ {l : List Rc} {x : Rc}, x ∈ rmC i l ↔ x ∈ l ∧ ∃ j aft lk ds st o, x = .mk j aft lk ds st o ∧ j ≠ i
  | [], x => by show x ∈ [] ↔ _; simp
  | .mk j aft lk ds st o :: l, x => by
    show x ∈ cnd (Nat.beq j i) (rmC i l) (Rc.mk j aft lk ds st o :: rmC i l) ↔ _
    cases hb : Nat.beq j i with
    | true =>
      have := Nat.eq_of_beq_eq_true hb
      subst this
      rw [cnd_true, rmC_mem (l := l)]
      constructor
      · rintro ⟨h1, h2⟩; exact ⟨List.mem_cons_of_mem _ h1, h2⟩
      · rintro ⟨h1, h2⟩
        rcases List.mem_cons.1 h1 with h1 | h1
        · obtain ⟨j', a, b, c, d, e, h3, h4⟩ := h2
          rw [h3] at h1; cases h1; exact absurd rfl h4
        · exact ⟨h1, h2⟩
    | false =>
      have hne := Nat.ne_of_beq_eq_false hb
      rw [cnd_false, List.mem_cons, rmC_mem (l := l)]
      constructor
      · rintro (rfl | ⟨h1, h2⟩)
        · exact ⟨List.mem_cons_self, j, aft, lk, ds, st, o, rfl, hne⟩
        · exact ⟨List.mem_cons_of_mem _ h1, h2⟩
      · rintro ⟨h1, h2⟩
        rcases List.mem_cons.1 h1 with h1 | h1
        · exact .inl h1
        · exact .inr ⟨h1, h2⟩
theorem OrdI.step (h : OrdI ops m cs l E) {i : Nat} {o : Oper} (ho : ops[i]? = some o) : OrdI ops (Nat.lor m (bit i)) ((i, closC (bits (aftL o.after.toList)) cs) :: cs) (rmC i l) (i :: E) := by
  refine ⟨fun x hx => ?_, fun j oj hj hjE => ?_, fun j => ?_, fun p hp x hx => ?_⟩
  · obtain ⟨h1, j, aft, lk, ds, st, o', rfl, hne⟩ := rmC_mem.1 hx
    obtain ⟨j', oj, h2, h3, h4⟩ := h.l1 _ h1
    have : j = j' := by rw [rcC_eq] at h4; injection h4
    subst this
    exact ⟨j, oj, h2, fun hm => (List.mem_cons.1 hm).elim hne h3, h4⟩
  · rw [List.mem_cons, not_or] at hjE
    exact rmC_mem.2 ⟨h.l2 j oj hj hjE.2, j, _, _, _, _, _, rcC_eq j oj, hjE.1⟩
  · rw [lor_test, bit_test, Bool.or_eq_true, h.m, decide_eq_true_eq, List.mem_cons]
    exact ⟨fun h => h.elim .inr (fun h => .inl h.symm), fun h => h.elim (fun h => .inr h.symm) .inl⟩
  · rcases List.mem_cons.1 hp with rfl | hp
    · exact closC_ok h.cs ho hx
    · exact h.cs p hp x hx
theorem orderC_ok : ∀ (f : Nat) {m : Nat} {cs : List (Nat × Nat)} {l : List Rc} {E : List Nat} {r : List Stp}, orderC f m cs l = some r → OrdI ops m cs l E → Ord ops E r
  | 0, m, cs, l, E, r, h, hI => by
    cases l with
    | nil =>
      cases h
      exact .nil fun i o ho => Classical.byContradiction fun hE => List.not_mem_nil (hI.l2 i o ho hE)
    | cons x l => cases h
  | f + 1, m, cs, l, E, r, h, hI => by
    unfold orderC at h
    have key : ∀ x : Rc, x ∈ l → (match x with | .mk i aft lk ds st o => Nat.beq (Nat.land aft m) aft = true ∧ freeC i lk ds l = true ∧ (st = 0 → ∀ y ∈ l, rdyC m y = true → y = x)) →
        (match x with | .mk i aft _ _ st o => (orderC f (Nat.lor m (bit i)) ((i, closC aft cs) :: cs) (rmC i l)).map (stpC i o st (closC aft cs) :: ·)) = some r → Ord ops E r := by
      intro x hx hk hr
      obtain ⟨i, o, ho, hi, rfl⟩ := hI.l1 x hx
      rw [rcC_eq] at hk hr hx
      obtain ⟨k1, k2, k3⟩ := hk
      simp only at hr
      cases hrest : orderC f (Nat.lor m (bit i)) ((i, closC (bits (aftL o.after.toList)) cs) :: cs) (rmC i l) with
      | none => rw [hrest] at hr; cases hr
      | some r' =>
        rw [hrest] at hr
        cases hr
        have hO := orderC_ok f hrest (hI.step ho)
        have hA := (aft_ok hI).1 k1
        by_cases hst : kindE o.op = 0
        · show Ord ops E (stpC i o (kindE o.op) (closC (bits (aftL o.after.toList)) cs) :: r')
          rw [hst]
          refine .act ho hi hA (fun j oj hj hjE hAj => ?_) (fun x hx => closC_ok hI.cs ho (by rw [← hasB_eq]; exact hx)) hO
          have := k3 hst (rcC ops j oj) (hI.l2 j oj hj hjE) ((aft_ok hI).2 hAj)
          rw [rcC_eq] at this
          injection this
        · show Ord ops E (stpC i o (kindE o.op) (closC (bits (aftL o.after.toList)) cs) :: r')
          have : Nat.beq (kindE o.op) 0 = false := by rw [beq_eq]; simp [hst]
          unfold stpC
          rw [this]
          exact .still ho rfl hst hi hA (free_ok hI k2) hO
    cases hf : firstC m l l with
    | some x =>
      rw [hf] at h
      obtain ⟨h1, i, aft, lk, ds, st, o, rfl, h2, h3, h4⟩ := firstC_ok hf
      exact key _ h1 ⟨h3, h4, fun h0 => absurd h0 h2⟩ h
    | none =>
      rw [hf] at h
      cases ho : onlyC m l with
      | none => simp only [ho] at h; cases h
      | some x =>
        simp only [ho] at h
        obtain ⟨h1, h2, h3, i, aft, lk, ds, st, o, rfl, h4⟩ := onlyC_ok ho
        exact key _ h1 ⟨h3, h4, fun _ => h2⟩ h
theorem rcsC_mem : ∀ (l : List Oper) (k : Nat) (x : Rc), x ∈ rcsC ops l k ↔ ∃ j o, l[j]? = some o ∧ x = rcC ops (k + j) o
  | [], k, x => by show x ∈ [] ↔ _; simp
  | o :: l, k, x => by
    show x ∈ rcC ops k o :: rcsC ops l (k + 1) ↔ _
    rw [List.mem_cons, rcsC_mem l (k + 1) x]
    constructor
    · rintro (rfl | ⟨j, oj, h1, rfl⟩)
      · exact ⟨0, o, rfl, rfl⟩
      · exact ⟨j + 1, oj, by simpa using h1, by congr 1; omega⟩
    · rintro ⟨j, oj, h1, rfl⟩
      cases j with
      | zero => simp at h1; subst h1; exact .inl rfl
      | succ j => exact .inr ⟨j, oj, by simpa using h1, by congr 1; omega⟩
/-- the order is a good one -/
theorem order_ok {r : List Stp} (h : orderC ops.size 0 [] (rcsC ops ops.toList 0) = some r) : Ord ops [] r := by
  refine orderC_ok _ h ⟨fun x hx => ?_, fun i o ho _ => ?_, fun i => by simp, fun p hp => (List.not_mem_nil hp).elim⟩
  · obtain ⟨j, o, h1, rfl⟩ := (rcsC_mem _ _ _).1 hx
    exact ⟨j, o, by simpa using h1, by simp, by simp⟩
  · exact (rcsC_mem _ _ _).2 ⟨i, o, by simpa using ho, by simp⟩
end
/-! the answers agree -/
theorem eqS_ok {a b : List Nat} (h : eqS a b = true) : a = b := by rw [eqS_eq] at h; simpa using h
theorem ieq_ok {a b : Int} (h : ieq a b = true) : a = b := by rw [ieq_eq] at h; simpa using h
theorem nbq {a b : Nat} (h : Nat.beq a b = true) : a = b := Nat.eq_of_beq_eq_true h
mutual
theorem eqV_ok : ∀ (a b : EV), eqV a b = true → a = b
  | .int j x, b, h => by
    cases b <;> simp only [eqV] at h <;> (first | (cases h; done) | skip)
    rename_i k y
    cases hk : kEq j k with
    | false => rw [hk] at h; cases h
    | true => rw [hk] at h; rw [kEq_ok hk, ieq_ok h]
  | .bool x, b, h => by
    cases b <;> simp only [eqV] at h <;> (first | (cases h; done) | skip)
    rw [eq_of_beq h]
  | .str x, b, h => by
    cases b <;> simp only [eqV] at h <;> (first | (cases h; done) | skip)
    rw [eqS_ok h]
  | .nilp, b, h => by cases b <;> simp only [eqV] at h <;> (first | (cases h; done) | rfl)
  | .ptr i o, b, h => by
    cases b <;> simp only [eqV, Bool.and_eq_true] at h <;> (first | (cases h; done) | skip)
    rw [nbq h.1, nbq h.2]
  | .nils, b, h => by cases b <;> simp only [eqV] at h <;> (first | (cases h; done) | rfl)
  | .slice i o n c x, b, h => by
    cases b <;> simp only [eqV, Bool.and_eq_true] at h <;> (first | (cases h; done) | skip)
    rw [nbq h.1, nbq h.2.1, nbq h.2.2.1, nbq h.2.2.2.1, eq_of_beq h.2.2.2.2]
  | .nilm, b, h => by cases b <;> simp only [eqV] at h <;> (first | (cases h; done) | rfl)
  | .map i, b, h => by
    cases b <;> simp only [eqV] at h <;> (first | (cases h; done) | skip)
    rw [nbq h]
  | .fn f x y, b, h => by
    cases b <;> simp only [eqV, Bool.and_eq_true] at h <;> (first | (cases h; done) | skip)
    rw [nbq h.1, eqVs_ok _ _ h.2.1, eqVs_ok _ _ h.2.2]
  | .nilf, b, h => by cases b <;> simp only [eqV] at h <;> (first | (cases h; done) | rfl)
  | .iface t v, b, h => by
    cases b <;> simp only [eqV, Bool.and_eq_true] at h <;> (first | (cases h; done) | skip)
    rw [nbq h.1, eqV_ok _ _ h.2]
  | .nili, b, h => by cases b <;> simp only [eqV] at h <;> (first | (cases h; done) | rfl)
  | .agg l, b, h => by
    cases b <;> simp only [eqV] at h <;> (first | (cases h; done) | skip)
    rw [eqVs_ok _ _ h]
  | .tup l, b, h => by
    cases b <;> simp only [eqV] at h <;> (first | (cases h; done) | skip)
    rw [eqVs_ok _ _ h]
  | .undef, b, h => by cases b <;> simp only [eqV] at h <;> (first | (cases h; done) | rfl)
  | .flt x, b, h => by
    cases b <;> simp only [eqV] at h <;> (first | (cases h; done) | skip)
    rw [nbq h]
  | .cpx x y, b, h => by
    cases b <;> simp only [eqV, Bool.and_eq_true] at h <;> (first | (cases h; done) | skip)
    rw [nbq h.1, nbq h.2]
  | .yld x, b, h => by
    cases b <;> simp only [eqV] at h <;> (first | (cases h; done) | skip)
    rw [nbq h]
theorem eqVs_ok : ∀ (a b : List EV), eqVs a b = true → a = b
  | [], [], _ => rfl
  | [], _ :: _, h => by simp only [eqVs] at h; cases h
  | _ :: _, [], h => by simp only [eqVs] at h; cases h
  | x :: l, y :: r, h => by
    simp only [eqVs, Bool.and_eq_true] at h
    rw [eqV_ok _ _ h.1, eqVs_ok _ _ h.2]
end
end Go.Proofs.YtiabhghlhnnnjaaGreatDoor.Ev
