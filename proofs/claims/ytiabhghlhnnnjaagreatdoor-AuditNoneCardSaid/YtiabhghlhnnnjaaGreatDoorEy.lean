/-
  THE EVALUATOR IS SOUND (third part: operations that reckon).
-/
import Derived.Test.YtiabhghlhnnnjaaGreatDoorEx
import Derived.Test.YtiabhghlhnnnjaaGreatDoorOm
set_option linter.unusedVariables false
set_option maxRecDepth 100000
set_option linter.unusedSimpArgs false
set_option maxHeartbeats 0
noncomputable section
namespace Go.Proofs.YtiabhghlhnnnjaaGreatDoor.Ev
open Go Sh Sl
/-! what is seen of a value -/
theorem ptr?_ok {v : EV} {p : Nat × Nat} (h : v.ptr? = some p) : v = .ptr p.1 p.2 := by cases v <;> first | (cases h; done) | (cases h; rfl)
theorem bool?_ok {v : EV} {b : Bool} (h : v.bool? = some b) : v = .bool b := by cases v <;> first | (cases h; done) | (cases h; rfl)
theorem agg?_ok {v : EV} {b : List EV} (h : v.agg? = some b) : v = .agg b := by cases v <;> first | (cases h; done) | (cases h; rfl)
theorem tup?_ok {v : EV} {b : List EV} (h : v.tup? = some b) : v = .tup b := by cases v <;> first | (cases h; done) | (cases h; rfl)
theorem int?_ok {v : EV} {b : IntKind × Int} (h : v.int? = some b) : v = .int b.1 b.2 := by cases v <;> first | (cases h; done) | (cases h; rfl)
theorem map?_ok {v : EV} {b : Nat} (h : v.map? = some b) : v = .map b := by cases v <;> first | (cases h; done) | (cases h; rfl)
theorem str?_ok {v : EV} {b : List Nat} (h : v.str? = some b) : v = .str b := by cases v <;> first | (cases h; done) | (cases h; rfl)
theorem flt?_ok {v : EV} {b : Nat} (h : v.flt? = some b) : v = .flt b := by cases v <;> first | (cases h; done) | (cases h; rfl)
theorem cpx?_ok {v : EV} {b : Nat × Nat} (h : v.cpx? = some b) : v = .cpx b.1 b.2 := by cases v <;> first | (cases h; done) | (cases h; rfl)
theorem sl?_ok {v : EV} {b : Sli} (h : v.sl? = some b) : v = .slice b.i b.off b.n b.c b.x := by cases v <;> first | (cases h; done) | (cases h; rfl)
theorem fn?_ok {v : EV} {b : FuncId × List EV × List EV} (h : v.fn? = some b) : v = .fn b.1 b.2.1 b.2.2 := by cases v <;> first | (cases h; done) | (cases h; rfl)
theorem if?_ok {v : EV} {b : TypeId × EV} (h : v.if? = some b) : v = .iface b.1 b.2 := by cases v <;> first | (cases h; done) | (cases h; rfl)
theorem yld?_ok {v : EV} {b : Nat} (h : v.yld? = some b) : v = .yld b := by cases v <;> first | (cases h; done) | (cases h; rfl)
theorem nat?_ok {v : EV} {n : Nat} (h : v.nat? = some n) : ∃ k, v = .int k (n : Int) := by
  cases v <;> try (cases h; done)
  rename_i k m
  cases m with
  | ofNat m => cases h; exact ⟨k, rfl⟩
  | negSucc m => cases h
theorem p2_ok {α β γ : Type} (f : α → β → γ) (p : α × β) : p2 f p = f p.1 p.2 := by cases p; rfl
/-! what stands for what -/
section
variable {L : Lo} {x : Value}
theorem Real.ptr_inv {i off : Nat} (h : Real L (.ptr i off) x) : ∃ p, L i = some p ∧ x = .pointer (some (p.adr off)) := by cases h; exact ⟨_, ‹_›, rfl⟩
theorem Real.int_inv {k : IntKind} {n : Int} (h : Real L (.int k n) x) : x = .int k n := by cases h; rfl
theorem Real.bool_inv {b : Bool} (h : Real L (.bool b) x) : x = .bool b := by cases h; rfl
theorem Real.str_inv {l : List Nat} (h : Real L (.str l) x) : okB l ∧ x = .string (ba (bts l)) := by cases h; exact ⟨‹_›, rfl⟩
theorem Real.agg_inv {l : List EV} (h : Real L (.agg l) x) : ∃ vs, Reals L l vs ∧ x = .agg vs.toArray := by cases h; exact ⟨_, ‹_›, rfl⟩
theorem Real.tup_inv {l : List EV} (h : Real L (.tup l) x) : ∃ vs, Reals L l vs ∧ x = .tuple vs.toArray := by cases h; exact ⟨_, ‹_›, rfl⟩
theorem Real.iface_inv {t : TypeId} {v : EV} (h : Real L (.iface t v) x) : ∃ y, Real L v y ∧ x = .iface t y := by cases h; exact ⟨_, ‹_›, rfl⟩
theorem Real.flt_inv {b : Nat} (h : Real L (.flt b) x) : x = .float .f64 b := by cases h; rfl
theorem Real.cpx_inv {a b : Nat} (h : Real L (.cpx a b) x) : x = .complex .f64 a b := by cases h; rfl
theorem Real.map_inv {i : Nat} (h : Real L (.map i) x) : ∃ p, L i = some p ∧ x = .map (some p.b) := by cases h; exact ⟨_, ‹_›, rfl⟩
theorem Real.slice_inv {i off n c : Nat} {b : Bool} (h : Real L (.slice i off n c b) x) : ∃ p, L i = some p ∧ x = .slice (some (p.adr off)) n (if b = true then c else p.cap off) := by
  cases h with
  | slice h => exact ⟨_, h, by simp⟩
  | slicx h hz hn => exact ⟨_, h, by simp⟩
theorem Real.slicx_inv {i off n c : Nat} (h : Real L (.slice i off n c false) x) : ∃ p, L i = some p ∧ x = .slice (some (p.adr off)) n (p.cap off) ∧ p.z = c ∧ n ≤ p.cap off := by
  cases h with
  | slicx h hz hn => exact ⟨_, h, rfl, hz, hn⟩
theorem Real.fn_inv {f : FuncId} {a b : List EV} (h : Real L (.fn f a b) x) : ∃ u v, Reals L a u ∧ Reals L b v ∧ x = .func (.func f) u.toArray v.toArray := by cases h; exact ⟨_, _, ‹_›, ‹_›, rfl⟩
theorem Real.yld_inv {i : Nat} (h : Real L (.yld i) x) : ∃ p, L i = some p ∧ x = .func (.yield p.b) #[] #[] := by cases h; exact ⟨_, ‹_›, rfl⟩
end
/-! operands -/
/-- a frame's operands stand for those of a run -/
def Ops (L : Lo) (gi : Nat → Option Nat) (fr : Fr) (ρ : Operand → Value) (o : Op) : Prop := ∀ q ∈ o.operands, ∀ v, (oqC gi q).get fr = some v → Real L v (ρ q)
theorem Ops.le {L M : Lo} (hl : Lo.le L M) {gi : Nat → Option Nat} {fr : Fr} {ρ : Operand → Value} {o : Op} (h : Ops L gi fr ρ o) : Ops M gi fr ρ o := fun q hq v hv => (h q hq v hv).le hl
section
variable {L : Lo} {gi : Nat → Option Nat} {fr : Fr} {ρ : Operand → Value}
/-- several operands -/
theorem getL_ok {l : List Operand} {vs : List EV} (h : getL (l.map (oqC gi)) fr = some vs) (hr : ∀ q ∈ l, ∀ v, (oqC gi q).get fr = some v → Real L v (ρ q)) : Reals L vs (l.map ρ) := by
  induction l generalizing vs with
  | nil => cases h; exact .nil
  | cons q l ih =>
    obtain ⟨v, h1, h⟩ := ob2_ok h
    obtain ⟨r, h2, h⟩ := ob2_ok h
    cases h
    exact .cons (hr q List.mem_cons_self v h1) (ih h2 fun q' hq => hr q' (List.mem_cons_of_mem _ hq))
end
/-! answers -/
theorem pv_ok {f : Fr → Option EV} {w : Nat} {run : Run} {fr : Fr} {s s' : St} {v : EV} (h : (pv f w).go run fr s = .ok (v, s')) : f fr = some v ∧ s' = s := by
  obtain ⟨a, h1, h2⟩ := bo_ok (show bo w (f fr) (fun v => .ok (v, s)) = .ok (v, s') from h)
  cases h2; exact ⟨h1, rfl⟩
theorem sv_ok {f : Fr → St → Option EV} {w : Nat} {run : Run} {fr : Fr} {s s' : St} {v : EV} (h : (sv f w).go run fr s = .ok (v, s')) : f fr s = some v ∧ s' = s := by
  obtain ⟨a, h1, h2⟩ := bo_ok (show bo w (f fr s) (fun v => .ok (v, s)) = .ok (v, s') from h)
  cases h2; exact ⟨h1, rfl⟩
theorem cv_ok {f : Fr → St → Option (EV × St)} {w : Nat} {run : Run} {fr : Fr} {s s' : St} {v : EV} (h : (cv f w).go run fr s = .ok (v, s')) : f fr s = some (v, s') := by
  obtain ⟨a, h1, h2⟩ := bo_ok (show bo w (f fr s) .ok = .ok (v, s') from h)
  cases h2; exact h1
theorem ost_ok {α : Type} {w : Nat} {x : Option α} {f : α → Bo} {run : Run} {fr : Fr} {s s' : St} {v : EV} (h : (ost w x f).go run fr s = .ok (v, s')) : ∃ a, x = some a ∧ (f a).go run fr s = .ok (v, s') := by
  cases x with
  | none => cases h
  | some a => exact ⟨a, rfl, h⟩
theorem q1_ok {q : Oq} {f : EV → Option EV} {fr : Fr} {v : EV} (h : q1 q f fr = some v) : ∃ u, q.get fr = some u ∧ f u = some v := ob2_ok h
theorem q2_ok {a b : Oq} {f : EV → EV → Option EV} {fr : Fr} {v : EV} (h : q2 a b f fr = some v) : ∃ x y, a.get fr = some x ∧ b.get fr = some y ∧ f x y = some v := by
  obtain ⟨x, h1, h⟩ := ob2_ok h
  obtain ⟨y, h2, h⟩ := ob2_ok h
  exact ⟨x, y, h1, h2, h⟩
/-- the operation reckons 'v' out of its operands -/
def PureAt (L : Lo) (ρ : Operand → Value) (o : Oper) (v : EV) : Prop := ∃ x, Real L v x ∧ ∀ w, (execOp ρ o).run P w = .ok (.value x) w
theorem PureAt.of_pu {L : Lo} {ρ : Operand → Value} {o : Oper} {v : EV} {x : Value} {s : Sem Next} (he : execOp ρ o = s) (hr : Real L v x) (h : Pu s x) : PureAt L ρ o v := ⟨x, hr, fun w => by rw [he]; exact h w⟩
/-! whole numbers -/
theorem iadd_eq (a b : Int) : iadd a b = a + b := by cases a <;> cases b <;> rfl
theorem ineg_eq (a : Int) : ineg a = -a := by
  cases a with
  | ofNat n => rfl
  | negSucc n => rfl
theorem beq_eq (a b : Nat) : Nat.beq a b = decide (a = b) := by
  by_cases h : a = b
  · subst h; simp
  · have : Nat.beq a b = false := by
      cases e : Nat.beq a b with
      | false => rfl
      | true => exact absurd (Nat.eq_of_beq_eq_true e) h
    simp [h, this]
theorem ble_eq (a b : Nat) : Nat.ble a b = decide (a ≤ b) := by
  by_cases h : a ≤ b
  · rw [Nat.ble_eq_true_of_le h]; simp [h]
  · have : Nat.ble a b = false := by
      cases e : Nat.ble a b with
      | false => rfl
      | true => exact absurd (Nat.le_of_ble_eq_true e) h
    simp [h, this]
theorem blt_eq (a b : Nat) : blt a b = decide (a < b) := ble_eq (a + 1) b
theorem ieq_eq (a b : Int) : ieq a b = decide (a = b) := by
  cases a <;> cases b
  · rename_i a b
    show Nat.beq a b = _
    rw [beq_eq]; exact decide_eq_decide.2 ⟨fun h => by rw [h], fun h => by injection h⟩
  · rfl
  · rfl
  · rename_i a b
    show Nat.beq a b = _
    rw [beq_eq]; exact decide_eq_decide.2 ⟨fun h => by rw [h], fun h => by injection h⟩
theorem ile_eq (a b : Int) : ile a b = decide (a ≤ b) := by
  cases a <;> cases b
  · rename_i a b
    show Nat.ble a b = _
    rw [ble_eq]; exact decide_eq_decide.2 (by simp)
  · rename_i a b
    show false = _
    exact (decide_eq_false (by simp only [Int.ofNat_eq_natCast]; omega)).symm
  · rename_i a b
    show true = _
    exact (decide_eq_true (by simp only [Int.ofNat_eq_natCast]; omega)).symm
  · rename_i a b
    show Nat.ble b a = _
    rw [ble_eq]; exact decide_eq_decide.2 (by omega)
theorem kn_inj {a b : IntKind} (h : kn a = kn b) : a = b := by cases a <;> cases b <;> first | rfl | (exact absurd h (by decide))
theorem kEq_ok {a b : IntKind} (h : kEq a b = true) : a = b := kn_inj (Nat.eq_of_beq_eq_true h)
theorem bnot_eq (b : Bool) : bnot b = !b := by cases b <;> rfl
theorem subNatNat_eq (m n : Nat) : Int.subNatNat m n = (m : Int) - n := by
  rw [Int.subNatNat_eq_coe]
theorem wrapS_eq (k : IntKind) (m : Nat) (hk : k.signed = true) (hm : (2 ^ (k.bits - 1) : Int) = m) (h2 : (2 ^ k.bits : Int) = 2 * m) (h0 : 0 < m) (n : Int) : wrS m n = k.wrap n := by
  unfold IntKind.wrap
  simp only [hk, hm, h2, Bool.true_and, ge_iff_le, decide_eq_true_eq]
  cases n with
  | ofNat n =>
    show cnd (Nat.ble m n) (Int.subNatNat (Nat.mod (Nat.add n m) (Nat.mul 2 m)) m) (.ofNat n) = _
    rw [ble_eq]
    have e1 : Nat.mod (Nat.add n m) (Nat.mul 2 m) = (n + m) % (2 * m) := rfl
    rw [e1, subNatNat_eq]
    simp only [Int.ofNat_eq_natCast]
    by_cases h : m ≤ n
    · rw [decide_eq_true h, cnd_true]
      have e2 : (((n + m) % (2 * m) : Nat) : Int) = ((n : Int) + m) % (2 * m) := by simp
      rw [e2]
      have a1 := Int.emod_nonneg (n : Int) (by omega : (2 * (m : Int)) ≠ 0)
      have a2 := Int.emod_lt_of_pos (n : Int) (by omega : (0 : Int) < 2 * (m : Int))
      have a3 := Int.emod_add_emod (n : Int) (2 * (m : Int)) m
      split
      · rename_i h1
        have : ((n : Int) + m) % (2 * m) = (n : Int) % (2 * m) + m - 2 * m := by
          rw [← a3]
          rw [← Int.sub_emod_right ((n : Int) % (2 * m) + m) (2 * m), Int.emod_eq_of_lt (by omega) (by omega)]
        omega
      · rename_i h1
        have : ((n : Int) + m) % (2 * m) = (n : Int) % (2 * m) + m := by
          rw [← a3, Int.emod_eq_of_lt (by omega) (by omega)]
        omega
    · rw [decide_eq_false h, cnd_false]
      have : (n : Int) % (2 * m) = n := Int.emod_eq_of_lt (by omega) (by omega)
      rw [this, if_neg (by omega)]
  | negSucc n =>
    show cnd (Nat.ble m n) (Int.subNatNat (Nat.sub (Nat.sub (Nat.mul 2 m) 1) (Nat.mod (Nat.sub n m) (Nat.mul 2 m))) m) (.negSucc n) = _
    rw [ble_eq]
    have e1 : Nat.sub (Nat.sub (Nat.mul 2 m) 1) (Nat.mod (Nat.sub n m) (Nat.mul 2 m)) = 2 * m - 1 - (n - m) % (2 * m) := rfl
    rw [e1, subNatNat_eq]
    have hb := Nat.mod_lt (n - m) (by omega : 0 < 2 * m)
    have hx : (Int.negSucc n) % (2 * (m : Int)) = 2 * m - 1 - ((n % (2 * m) : Nat) : Int) := by
      have : (Int.negSucc n) = -((n : Int) + 1) := Int.negSucc_eq n
      rw [this]
      have hb2 := Nat.mod_lt n (by omega : 0 < 2 * m)
      have e2 : -((n : Int) + 1) = (2 * m - 1 - ((n % (2 * m) : Nat) : Int)) + (2 * m) * (-((n / (2 * m) : Nat) : Int) - 1) := by
        have := Nat.div_add_mod n (2 * m)
        have h3 : (n : Int) = ((2 * m : Nat) : Int) * ((n / (2 * m) : Nat) : Int) + ((n % (2 * m) : Nat) : Int) := by exact_mod_cast this.symm
        rw [Int.mul_sub, Int.mul_neg]
        simp only [Int.natCast_mul, Int.cast_ofNat_Int] at h3 ⊢
        omega
      rw [e2, Int.add_mul_emod_self_left, Int.emod_eq_of_lt (by omega) (by omega)]
    rw [hx]
    by_cases h : m ≤ n
    · rw [decide_eq_true h, cnd_true]
      have hb2 := Nat.mod_lt n (by omega : 0 < 2 * m)
      have key : (n - m) % (2 * m) = if m ≤ n % (2 * m) then n % (2 * m) - m else n % (2 * m) + m := by
        have hd := Nat.div_add_mod n (2 * m)
        obtain ⟨q, hq⟩ : ∃ q, q = n / (2 * m) := ⟨_, rfl⟩
        obtain ⟨r, hr⟩ : ∃ r, r = n % (2 * m) := ⟨_, rfl⟩
        rw [← hq, ← hr] at hd
        rw [← hr] at hb2 ⊢
        split
        · rename_i h3
          have : n - m = (r - m) + (2 * m) * q := by omega
          rw [this, Nat.add_mul_mod_self_left, Nat.mod_eq_of_lt (by omega)]
        · rename_i h3
          have hq0 : q ≠ 0 := by
            intro e; subst e; simp at hd; omega
          obtain ⟨q', rfl⟩ := Nat.exists_eq_succ_of_ne_zero hq0
          have : n - m = (r + m) + (2 * m) * q' := by rw [Nat.mul_succ] at hd; omega
          rw [this, Nat.add_mul_mod_self_left, Nat.mod_eq_of_lt (by omega)]
      rw [key]
      by_cases h3 : m ≤ n % (2 * m)
      · rw [if_pos h3, if_neg (by omega)]; omega
      · rw [if_neg h3, if_pos (by omega)]; omega
    · rw [decide_eq_false h, cnd_false]
      have : n % (2 * m) = n := Nat.mod_eq_of_lt (by omega)
      rw [this, if_pos (by omega), Int.negSucc_eq]; omega
theorem wrapU_eq (k : IntKind) (m : Nat) (hk : k.signed = false) (h2 : (2 ^ k.bits : Int) = m) (h0 : 0 < m) (n : Int) : wrU m n = k.wrap n := by
  unfold IntKind.wrap
  simp only [hk, h2, Bool.false_and, Bool.false_eq_true, if_false]
  cases n with
  | ofNat n =>
    show Int.ofNat (Nat.mod n m) = _
    have : Nat.mod n m = n % m := rfl
    rw [this]; simp
  | negSucc n =>
    show Int.ofNat (Nat.sub (Nat.sub m 1) (Nat.mod n m)) = _
    have e1 : Nat.sub (Nat.sub m 1) (Nat.mod n m) = m - 1 - n % m := rfl
    rw [e1, Int.negSucc_eq]
    have hb := Nat.mod_lt n h0
    have e2 : -((n : Int) + 1) = (m - 1 - ((n % m : Nat) : Int)) + m * (-((n / m : Nat) : Int) - 1) := by
      have := Nat.div_add_mod n m
      have h3 : (n : Int) = (m : Int) * ((n / m : Nat) : Int) + ((n % m : Nat) : Int) := by exact_mod_cast this.symm
      rw [Int.mul_sub, Int.mul_neg]
      omega
    rw [e2, Int.add_mul_emod_self_left, Int.emod_eq_of_lt (by omega) (by omega)]
    simp only [Int.ofNat_eq_natCast]
    omega
theorem wrapE_eq (k : IntKind) (n : Int) : wrapE k n = k.wrap n := by
  cases k
  · exact wrapS_eq .i8 128 rfl (by decide) (by decide) (by decide) n
  · exact wrapS_eq .i16 32768 rfl (by decide) (by decide) (by decide) n
  · exact wrapS_eq .i32 2147483648 rfl (by decide) (by decide) (by decide) n
  · exact wrapS_eq .i64 9223372036854775808 rfl (by decide) (by decide) (by decide) n
  · exact wrapU_eq .u8 256 rfl (by decide) (by decide) n
  · exact wrapU_eq .u16 65536 rfl (by decide) (by decide) n
  · exact wrapU_eq .u32 4294967296 rfl (by decide) (by decide) n
  · exact wrapU_eq .u64 18446744073709551616 rfl (by decide) (by decide) n
end Go.Proofs.YtiabhghlhnnnjaaGreatDoor.Ev
