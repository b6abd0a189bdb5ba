/-
  THE EVALUATOR IS SOUND (fourth part: sums, comparisons).
-/
import Derived.Test.YtiabhghlhnnnjaaGreatDoorEy
import Derived.Laws.FloatArith
set_option linter.unusedVariables false
set_option maxRecDepth 100000
set_option linter.unusedSimpArgs false
set_option maxHeartbeats 0
noncomputable section
namespace Go.Proofs.YtiabhghlhnnnjaaGreatDoor.Ev
open Go Sh Sl
/-! two numbers of a kind -/
/-- the operation gives 'x' out of 'a' and 'b', in every world -/
def BinAt (op : BinOp) (t : TypeId) (a b x : Value) : Prop := ∀ X Y : Operand, Pu (bS op t X Y a b) x
theorem inat_ok {n : Int} {m : Nat} (h : inat n = some m) : n = (m : Int) := by
  cases n with
  | ofNat k => cases h; rfl
  | negSucc k => cases h
theorem mdE_eq (k : IntKind) : mdE k = 2 ^ k.bits := by cases k <;> rfl
theorem btE_eq (k : IntKind) : btE k = k.bits := by cases k <;> rfl
theorem ofInt_nat (w n : Nat) : (BitVec.ofInt w (n : Int)).toNat = n % 2 ^ w := by simp [BitVec.toNat_ofInt]
theorem ieq_beq (a b : Int) : ieq a b = (a == b) := by rw [ieq_eq]; by_cases h : a = b <;> simp [h]
theorem not_le_lt (a b : Int) : (!decide (b ≤ a)) = decide (a < b) := by by_cases h : a < b <;> simp [h] <;> omega
theorem sub_add_neg (a b : Int) : iadd a (ineg b) = a - b := by rw [iadd_eq, ineg_eq]; omega
theorem arE_ok {op : BinOp} {f : IntKind → Int → Int → Option EV} (hf : arE op = some f) {k : IntKind} {a b : Int} {v : EV} (h : f k a b = some v) (L : Lo) (t : TypeId) :
    ∃ x, Real L v x ∧ BinAt op t (.int k a) (.int k b) x := by
  have g : ∀ X Y w, (eqGuard op t X Y (.int k a) (.int k b)).run P w = .ok () w := fun X Y w => guard_int _ _ _ _ _ _ _ _ _
  cases op <;> (first | (cases hf; done) | skip) <;> simp only [arE, Option.some.injEq] at hf <;> subst hf <;> dsimp only at h
  case add => cases h; refine ⟨_, .int _ _, fun X Y => still_bS (g X Y) fun w => ?_⟩; simp [binOp, Op.intArith, wrapE_eq, iadd_eq]
  case sub => cases h; refine ⟨_, .int _ _, fun X Y => still_bS (g X Y) fun w => ?_⟩; simp [binOp, Op.intArith, wrapE_eq, sub_add_neg]
  case mul => cases h; refine ⟨_, .int _ _, fun X Y => still_bS (g X Y) fun w => ?_⟩; simp [binOp, Op.intArith, wrapE_eq]
  case quo =>
    cases hb : ieq b 0 with
    | true => rw [hb] at h; cases h
    | false =>
      rw [hb] at h; cases h
      rw [ieq_eq, decide_eq_false_iff_not] at hb
      refine ⟨_, .int _ _, fun X Y => still_bS (g X Y) fun w => ?_⟩; simp [binOp, Op.intDiv, wrapE_eq, hb]
  case rem =>
    cases hb : ieq b 0 with
    | true => rw [hb] at h; cases h
    | false =>
      rw [hb] at h; cases h
      rw [ieq_eq, decide_eq_false_iff_not] at hb
      refine ⟨_, .int _ _, fun X Y => still_bS (g X Y) fun w => ?_⟩; simp [binOp, Op.intDiv, hb]
  case and =>
    obtain ⟨m, h1, h⟩ := ob2_ok h
    obtain ⟨n, h2, h⟩ := ob2_ok h
    cases h
    rw [inat_ok h1, inat_ok h2]
    refine ⟨_, .int _ _, fun X Y => ?_⟩
    have := st_and (t := t) (X := X) (Y := Y) (k := k) (a := (m : Int)) (b := (n : Int))
    rw [BitVec.toNat_and, ofInt_nat, ofInt_nat] at this
    rw [wrapE_eq, mdE_eq]; exact this
  case or =>
    obtain ⟨m, h1, h⟩ := ob2_ok h
    obtain ⟨n, h2, h⟩ := ob2_ok h
    cases h
    rw [inat_ok h1, inat_ok h2]
    refine ⟨_, .int _ _, fun X Y => ?_⟩
    have := st_or (t := t) (X := X) (Y := Y) (k := k) (a := (m : Int)) (b := (n : Int))
    rw [BitVec.toNat_or, ofInt_nat, ofInt_nat] at this
    rw [wrapE_eq, mdE_eq]; exact this
  case xor =>
    obtain ⟨m, h1, h⟩ := ob2_ok h
    obtain ⟨n, h2, h⟩ := ob2_ok h
    cases h
    rw [inat_ok h1, inat_ok h2]
    refine ⟨_, .int _ _, fun X Y => ?_⟩
    have := st_xor (t := t) (X := X) (Y := Y) (k := k) (a := (m : Int)) (b := (n : Int))
    rw [BitVec.toNat_xor, ofInt_nat, ofInt_nat] at this
    rw [wrapE_eq, mdE_eq]; exact this
  case eql => cases h; refine ⟨_, .bool _, fun X Y => still_bS (g X Y) fun w => ?_⟩; simp [binOp, Op.intCmp, ieq_beq]
  case neq => cases h; refine ⟨_, .bool _, fun X Y => still_bS (g X Y) fun w => ?_⟩; simp [binOp, Op.intCmp, ieq_beq, bnot_eq, bne]
  case lss => cases h; refine ⟨_, .bool _, fun X Y => still_bS (g X Y) fun w => ?_⟩; simp only [binOp, Op.intCmp, ile_eq, bnot_eq, not_le_lt, ne_eq, not_true_eq_false, if_false, Sem.run_pure]; try rfl
  case leq => cases h; refine ⟨_, .bool _, fun X Y => still_bS (g X Y) fun w => ?_⟩; simp [binOp, Op.intCmp, ile_eq]
  case gtr => cases h; refine ⟨_, .bool _, fun X Y => still_bS (g X Y) fun w => ?_⟩; simp only [binOp, Op.intCmp, ile_eq, bnot_eq, not_le_lt, ne_eq, not_true_eq_false, if_false, Sem.run_pure]; try rfl
  case geq => cases h; refine ⟨_, .bool _, fun X Y => still_bS (g X Y) fun w => ?_⟩; simp [binOp, Op.intCmp, ile_eq]
theorem shE_ok {op : BinOp} {f : IntKind → Int → Int → Option EV} (hf : shE op = some f) {k j : IntKind} {a b : Int} {v : EV} (h : f k a b = some v) (L : Lo) (t : TypeId) :
    ∃ x, Real L v x ∧ BinAt op t (.int k a) (.int j b) x := by
  have g : ∀ X Y w, (eqGuard op t X Y (.int k a) (.int j b)).run P w = .ok () w := fun X Y w => guard_int _ _ _ _ _ _ _ _ _
  cases op <;> (first | (cases hf; done) | skip) <;> simp only [shE, Option.some.injEq] at hf <;> subst hf <;> dsimp only at h
  all_goals
    obtain ⟨n, h1, h⟩ := ob2_ok h
    obtain ⟨h2, h⟩ := cnd_some h
    cases h
    have h3 := Nat.le_of_ble_eq_true h2
    rw [btE_eq] at h3
    rw [inat_ok h1]
    refine ⟨_, .int _ _, fun X Y => still_bS (g X Y) fun w => ?_⟩
    have h4 : ¬ ((n : Int) < 0) := by omega
    have h5 : min (n : Int).toNat k.bits = n := by rw [Int.toNat_natCast]; exact Nat.min_eq_left h3
    have h6 : ((2 ^ n : Nat) : Int) = (2 : Int) ^ n := by simp
  · simp only [binOp, Op.shift, if_neg h4, h5, Sem.run_pure, wrapE_eq, ← h6]; rfl
  · simp only [binOp, Op.shift, if_neg h4, h5, Sem.run_pure, ← h6]
    rw [Int.fdiv_eq_ediv_of_nonneg _ (Int.natCast_nonneg _)]; rfl
/-! strings -/
theorem eqS_eq : ∀ (a b : List Nat), eqS a b = decide (a = b)
  | [], [] => rfl
  | [], _ :: _ => by simp [eqS]
  | _ :: _, [] => by simp [eqS]
  | x :: a, y :: b => by
    simp only [eqS]
    rw [beq_eq]
    by_cases h : x = y
    · subst h
      rw [decide_eq_true rfl]
      simp only [eqS_eq a b, List.cons.injEq, true_and]
    · rw [decide_eq_false h]
      simp [h]
theorem bts_inj {a b : List Nat} (ha : okB a) (hb : okB b) (h : bts a = bts b) : a = b := by
  induction a generalizing b with
  | nil => cases b with
    | nil => rfl
    | cons y b => simp [bts] at h
  | cons x a ih => cases b with
    | nil => simp [bts] at h
    | cons y b =>
      simp only [bts, List.map_cons, List.cons.injEq] at h
      have hx := ha x List.mem_cons_self
      have hy := hb y List.mem_cons_self
      have h1 : (UInt8.ofNat x).toNat = (UInt8.ofNat y).toNat := by rw [h.1]
      simp only [UInt8.toNat_ofNat'] at h1
      have h2 : x = y := by omega
      rw [h2, ih (fun z hz => ha z (List.mem_cons_of_mem _ hz)) (fun z hz => hb z (List.mem_cons_of_mem _ hz)) h.2]
theorem okB_app {a b : List Nat} (ha : okB a) (hb : okB b) : okB (a ++ b) := fun x hx => (List.mem_append.1 hx).elim (ha x) (hb x)
theorem bts_app (a b : List Nat) : bts (a ++ b) = bts a ++ bts b := List.map_append ..
theorem bts_len (a : List Nat) : (bts a).length = a.length := List.length_map ..
theorem ba_app (a b : List UInt8) : ba a ++ ba b = ba (a ++ b) := by
  apply ByteArray.ext
  simp [ba]
theorem stE_ok {op : BinOp} {f : List Nat → List Nat → Option EV} (hf : stE op = some f) {a b : List Nat} (ha : okB a) (hb : okB b) {v : EV} (h : f a b = some v) (L : Lo) (t : TypeId) :
    ∃ x, Real L v x ∧ BinAt op t (.string (ba (bts a))) (.string (ba (bts b))) x := by
  have hd : decide (ba (bts a) = ba (bts b)) = eqS a b := by
    rw [eqS_eq]
    exact decide_eq_decide.2 ⟨fun h => bts_inj ha hb (by simpa [ba] using h), fun h => by rw [h]⟩
  cases op <;> (first | (cases hf; done) | skip) <;> simp only [stE, Option.some.injEq] at hf <;> subst hf <;> dsimp only at h
  case add =>
    obtain ⟨h2, h⟩ := cnd_some h
    cases h
    have h3 := Nat.le_of_ble_eq_true h2
    simp only [len_eq, Nat.add_eq] at h3
    refine ⟨_, .str _ (by rw [app_eq]; exact okB_app ha hb), fun X Y => ?_⟩
    have := st_addS (t := t) (X := X) (Y := Y) (a := ba (bts a)) (b := ba (bts b)) (by simp only [ba, ByteArray.size, List.size_toArray, bts_len]; omega)
    rw [ba_app, ← bts_app] at this
    rw [app_eq]; exact this
  case eql =>
    cases h
    exact ⟨_, .bool _, fun X Y => by rw [← hd]; exact st_eqS⟩
  case neq =>
    cases h
    exact ⟨_, .bool _, fun X Y => by rw [bnot_eq, ← hd]; exact st_neS⟩
/-! floats -/
theorem fsome_ok {x : Option Nat} {v : EV} (h : fsome x = some v) : ∃ z, x = some z ∧ v = .flt z := by
  obtain ⟨z, h1, h⟩ := ob2_ok h
  cases h; exact ⟨z, h1, rfl⟩
theorem ordB_ok {op : BinOp} {o : Ordering} {b : Bool} (h : ordB op o = some b) : (op = .eql ∧ b = (o == .eq)) ∨ (op = .neq ∧ b = (o != .eq)) ∨ (op = .lss ∧ b = (o == .lt)) ∨ (op = .leq ∧ b = (o == .lt || o == .eq)) ∨ (op = .gtr ∧ b = (o == .gt)) ∨ (op = .geq ∧ b = (o == .gt || o == .eq)) := by
  cases op <;> first | (cases h; done) | (cases o <;> cases h <;> simp <;> decide)
theorem flE_ok {op : BinOp} {a b : Nat} {v : EV} (h : flE op a b = some v) (L : Lo) (t : TypeId) : ∃ x, Real L v x ∧ BinAt op t (.float .f64 a) (.float .f64 b) x := by
  have g : ∀ X Y w, (eqGuard op t X Y (.float .f64 a) (.float .f64 b)).run P w = .ok () w := fun X Y w => guard_flt _ _ _ _ _ _ _ _ _
  have cmp : ∀ o c, Ieee.double.order a b = some o → ordB op o = some c → ∃ x, Real L (.bool c) x ∧ BinAt op t (.float .f64 a) (.float .f64 b) x := fun o c ho hc => by
    have ho' : FloatKind.f64.format.order a b = some o := ho
    refine ⟨_, .bool _, fun X Y => still_bS (g X Y) fun w => ?_⟩
    rcases ordB_ok hc with ⟨rfl, rfl⟩ | ⟨rfl, rfl⟩ | ⟨rfl, rfl⟩ | ⟨rfl, rfl⟩ | ⟨rfl, rfl⟩ | ⟨rfl, rfl⟩ <;>
      simp only [binOp, Op.floatCmp, ho', ne_eq, not_true_eq_false, if_false, Sem.run_pure] <;> cases o <;> rfl
  have ari : ∀ z, (∀ X Y w, (binOp op t (.float .f64 a) (.float .f64 b)).run P w = .ok (.float .f64 z) w) → ∃ x, Real L (.flt z) x ∧ BinAt op t (.float .f64 a) (.float .f64 b) x := fun z hz =>
    ⟨_, .flt _, fun X Y => still_bS (g X Y) fun w => hz X Y w⟩
  have rest : (flE op = fun a b => ob2 (Ieee.double.order a b) fun o => ob2 (ordB op o) fun t => some (.bool t)) → ∃ x, Real L v x ∧ BinAt op t (.float .f64 a) (.float .f64 b) x := fun e => by
    rw [e] at h
    obtain ⟨o, h1, h⟩ := ob2_ok h
    obtain ⟨c, h2, h⟩ := ob2_ok h
    cases h
    exact cmp o c h1 h2
  cases op
  case add => obtain ⟨z, h1, rfl⟩ := fsome_ok h; exact ari z fun X Y w => run_float_arith w _ _ _ _ _ _ h1
  case sub => obtain ⟨z, h1, rfl⟩ := fsome_ok h; exact ari z fun X Y w => run_float_arith w _ _ _ _ _ _ h1
  case mul => obtain ⟨z, h1, rfl⟩ := fsome_ok h; exact ari z fun X Y w => run_float_arith w _ _ _ _ _ _ h1
  case quo => obtain ⟨z, h1, rfl⟩ := fsome_ok h; exact ari z fun X Y w => run_float_arith w _ _ _ _ _ _ h1
  all_goals exact rest rfl
theorem cpE_ok {op : BinOp} {p q : Nat × Nat} {v : EV} (h : cpE op p q = some v) (L : Lo) (t : TypeId) : ∃ x, Real L v x ∧ BinAt op t (.complex .f64 p.1 p.2) (.complex .f64 q.1 q.2) x := by
  have g : ∀ X Y w, (eqGuard op t X Y (.complex .f64 p.1 p.2) (.complex .f64 q.1 q.2)).run P w = .ok () w := fun X Y w => guard_cpl _ _ _ _ _ _ _ _ _ _ _
  cases op <;> (first | (cases h; done) | skip)
  case add =>
    obtain ⟨x, h1, h⟩ := ob2_ok h
    obtain ⟨y, h2, h⟩ := ob2_ok h
    cases h
    have e1 : FloatKind.f64.format.add p.1 q.1 = some x := h1
    have e2 : FloatKind.f64.format.add p.2 q.2 = some y := h2
    exact ⟨_, .cpx _ _, fun X Y => still_bS (g X Y) fun w => by simp [binOp, Op.complexOp, Op.Complex.arith, Op.floatArith, e1, e2]⟩
  case sub =>
    obtain ⟨x, h1, h⟩ := ob2_ok h
    obtain ⟨y, h2, h⟩ := ob2_ok h
    cases h
    have e1 : FloatKind.f64.format.sub p.1 q.1 = some x := h1
    have e2 : FloatKind.f64.format.sub p.2 q.2 = some y := h2
    exact ⟨_, .cpx _ _, fun X Y => still_bS (g X Y) fun w => by simp [binOp, Op.complexOp, Op.Complex.arith, Op.floatArith, e1, e2]⟩
end Go.Proofs.YtiabhghlhnnnjaaGreatDoor.Ev
