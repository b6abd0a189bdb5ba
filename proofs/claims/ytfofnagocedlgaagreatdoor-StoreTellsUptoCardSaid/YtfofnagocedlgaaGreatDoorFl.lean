/-
  FLOATS THAT HOLD WHOLE NUMBERS: sums, products and comparisons of numbers below 2^53 are exact.
-/
import Derived.Test.YtfofnagocedlgaaGreatDoorOp3
import Derived.Laws.FloatArith
set_option linter.unusedVariables false
set_option linter.unusedSimpArgs false
set_option maxHeartbeats 2000000
namespace Go.Proofs.YtfofnagocedlgaaGreatDoor.Fl
open Go Ieee
/-- the word of a whole number below 2^53, read -/
def canon (n : Nat) : Nat := n * 2 ^ (52 - n.log2)
theorem log2_lt {c : Nat} (hc : c ≠ 0) (h : c < 2 ^ 53) : c.log2 ≤ 52 := by
  have := (Nat.log2_lt hc).2 h
  omega
theorem canon_ge {c : Nat} (hc : c ≠ 0) (h : c < 2 ^ 53) : 2 ^ 52 ≤ canon c ∧ canon c < 2 ^ 53 := by
  have hl := log2_lt hc h
  have h1 := Nat.log2_self_le hc
  have h2 := Nat.lt_log2_self (n := c)
  unfold canon
  constructor
  · calc 2 ^ 52 = 2 ^ c.log2 * 2 ^ (52 - c.log2) := by rw [← Nat.pow_add]; congr 1; omega
      _ ≤ c * 2 ^ (52 - c.log2) := Nat.mul_le_mul_right _ h1
  · calc c * 2 ^ (52 - c.log2) < 2 ^ (c.log2 + 1) * 2 ^ (52 - c.log2) := Nat.mul_lt_mul_of_pos_right h2 (Nat.two_pow_pos _)
      _ = 2 ^ 53 := by rw [← Nat.pow_add]; congr 1; omega
theorem log2_shift {c k : Nat} (hc : c ≠ 0) : (c * 2 ^ k).log2 = c.log2 + k := by
  have hne : c * 2 ^ k ≠ 0 := by
    have := Nat.two_pow_pos k
    exact Nat.mul_ne_zero hc (by omega)
  apply (Nat.log2_eq_iff hne).2
  have h1 := Nat.log2_self_le hc
  have h2 := Nat.lt_log2_self (n := c)
  constructor
  · rw [Nat.pow_add]; exact Nat.mul_le_mul_right _ h1
  · have : 2 ^ (c.log2 + k + 1) = 2 ^ (c.log2 + 1) * 2 ^ k := by rw [← Nat.pow_add]; congr 1; omega
    rw [this]; exact Nat.mul_lt_mul_of_pos_right h2 (Nat.two_pow_pos _)
theorem cut_exact {neg : Bool} {n d : Nat} (hd : d ≤ n.log2) (hdv : 2 ^ d ∣ n) : Toward.even.cut neg n d = n / 2 ^ d := by
  unfold Toward.cut
  have e1 : 1 <<< min d (n.log2 + 2) = 2 ^ d := by rw [Nat.min_eq_left (by omega), Nat.one_shiftLeft]
  rw [e1]
  have e2 : n % 2 ^ d = 0 := Nat.mod_eq_zero_of_dvd hdv
  have := Nat.two_pow_pos d
  simp [e2]
/-- a word by its sign, its significand and its place -/
theorem read_word {neg : Bool} {m r : Nat} (h1 : 2 ^ 52 ≤ m) (h2 : m < 2 ^ 53) (h3 : r ≤ 2000) : double.read (double.word neg (min (r * double.binade + m) double.infRung)) = .number neg m (double.leastPlace + (r : Int)) := by
  have hb : double.binade = 4503599627370496 := by decide
  have hi : double.infRung = 9218868437227405312 := by decide
  have hs : double.signWeight = 9223372036854775808 := by decide
  have e1 : min (r * double.binade + m) double.infRung = r * 4503599627370496 + m := by rw [hb, hi]; omega
  rw [e1]
  have e2 : double.word neg (r * 4503599627370496 + m) = (if neg then 9223372036854775808 else 0) + (r * 4503599627370496 + m) := by unfold Format.word; rw [hs]; split <;> omega
  unfold Format.read
  rw [e2, hs, hb, hi]
  have e3 : (if neg then 9223372036854775808 else 0) + (r * 4503599627370496 + m) = (if neg = true then 1 else 0) * 9223372036854775808 + (r * 4503599627370496 + m) := by split <;> omega
  rw [e3]
  have lt : r * 4503599627370496 + m < 9223372036854775808 := by omega
  have e4 : ((if neg = true then 1 else 0) * 9223372036854775808 + (r * 4503599627370496 + m)) / 9223372036854775808 = if neg = true then 1 else 0 := by omega
  have e5 : ((if neg = true then 1 else 0) * 9223372036854775808 + (r * 4503599627370496 + m)) % 9223372036854775808 = r * 4503599627370496 + m := by omega
  rw [e4, e5]
  have e6 : ((if neg = true then 1 else 0) % 2 == 1) = neg := by cases neg <;> rfl
  simp only [e6]
  rw [if_neg (by omega), if_pos (by omega)]
  have e7 : 4503599627370496 + (r * 4503599627370496 + m) % 4503599627370496 = m := by omega
  have e8 : (r * 4503599627370496 + m) / 4503599627370496 - 1 = r := by omega
  rw [e7, e8]
theorem read_nearest {neg : Bool} {c k : Nat} (hc : c ≠ 0) (h : c < 2 ^ 53) : double.read (double.nearest neg (c * 2 ^ k) (-(k : Int))) = .number neg (canon c) ((c.log2 : Int) - 52) := by
  have hl := log2_lt hc h
  have hlp : double.leastPlace = -1074 := by decide
  have hf : double.fractionBits = 52 := rfl
  have hne : c * 2 ^ k ≠ 0 := Nat.mul_ne_zero hc (by have := Nat.two_pow_pos k; omega)
  unfold Format.nearest
  rw [if_neg hne]
  simp only [log2_shift hc, hlp, hf]
  have e1 : max (-(k : Int) + ((c.log2 + k : Nat) : Int) - ((52 : Nat) : Int)) (-1074) = (c.log2 : Int) - 52 := by omega
  rw [e1]
  have hcg := canon_ge hc h
  have e2 : Toward.even.cut neg ((c * 2 ^ k) <<< (-(k : Int) - ((c.log2 : Int) - 52)).toNat) (((c.log2 : Int) - 52) - -(k : Int)).toNat = canon c := by
    by_cases hk : c.log2 + k ≤ 52
    · have a1 : (-(k : Int) - ((c.log2 : Int) - 52)).toNat = 52 - c.log2 - k := by omega
      have a2 : (((c.log2 : Int) - 52) - -(k : Int)).toNat = 0 := by omega
      rw [a1, a2, cut_exact (Nat.zero_le _) (by simp)]
      rw [Nat.shiftLeft_eq, Nat.mul_assoc, ← Nat.pow_add]
      unfold canon
      simp only [Nat.pow_zero, Nat.div_one]
      congr 2; omega
    · have a1 : (-(k : Int) - ((c.log2 : Int) - 52)).toNat = 0 := by omega
      have a2 : (((c.log2 : Int) - 52) - -(k : Int)).toNat = c.log2 + k - 52 := by omega
      rw [a1, a2, Nat.shiftLeft_zero]
      have a3 : c * 2 ^ k = canon c * 2 ^ (c.log2 + k - 52) := by
        unfold canon
        rw [Nat.mul_assoc, ← Nat.pow_add]
        congr 2; omega
      rw [cut_exact (by rw [log2_shift hc]; omega) (by rw [a3]; exact Nat.dvd_mul_left _ _), a3, Nat.mul_div_cancel _ (Nat.two_pow_pos _)]
  rw [e2]
  have e3 : ((c.log2 : Int) - 52 - -1074).toNat = c.log2 + 1022 := by omega
  have e4 : (-1074 : Int) + ((c.log2 + 1022 : Nat) : Int) = (c.log2 : Int) - 52 := by omega
  rw [e3, read_word hcg.1 hcg.2 (by omega), hlp, e4]
/-- the word 'w' stands for the whole number 'n' -/
def FV (w : Nat) (n : Int) : Prop := n.natAbs < 2 ^ 53 ∧ ((n = 0 ∧ ∃ s, double.read w = .number s 0 (-1074)) ∨ (n ≠ 0 ∧ double.read w = .number (decide (n < 0)) (canon n.natAbs) ((n.natAbs.log2 : Int) - 52)))
theorem zz (k : Nat) : (0 : Nat) = (0 : Int).natAbs * 2 ^ k := by simp
/-- it is some multiple -/
theorem FV.num {w : Nat} {n : Int} (h : FV w n) : ∃ (s : Bool) (m k : Nat), double.read w = .number s m (-(k : Int)) ∧ m = n.natAbs * 2 ^ k ∧ (n ≠ 0 → s = decide (n < 0)) ∧ k ≤ 1074 := by
  obtain ⟨h0, ⟨rfl, s, h⟩ | ⟨hn, h⟩⟩ := h
  · exact ⟨s, 0, 1074, h, zz 1074, fun h => absurd rfl h, by omega⟩
  · have hl := log2_lt (by omega : n.natAbs ≠ 0) h0
    refine ⟨_, _, 52 - n.natAbs.log2, ?_, rfl, fun _ => rfl, by omega⟩
    have e1 : (n.natAbs.log2 : Int) - 52 = -((52 - n.natAbs.log2 : Nat) : Int) := by omega
    rw [h, e1]
    rfl
theorem FV.signed {w : Nat} {n : Int} (h : FV w n) : ∃ (s : Bool) (m k : Nat), double.read w = .number s m (-(k : Int)) ∧ k ≤ 1074 ∧ ∀ j, signed s m j = n * ((2 ^ (k + j) : Nat) : Int) := by
  obtain ⟨s, m, k, h1, h2, h3, h4⟩ := h.num
  refine ⟨s, m, k, h1, h4, fun j => ?_⟩
  unfold Ieee.signed
  rw [h2, Nat.shiftLeft_eq, Nat.mul_assoc, ← Nat.pow_add]
  by_cases hn : n = 0
  · subst hn; simp
  · rw [h3 hn]
    by_cases hneg : n < 0
    · simp only [hneg, decide_true, if_true]
      rw [Int.natCast_mul, ← Int.neg_mul]
      congr 1; omega
    · simp only [hneg, decide_false, Bool.false_eq_true, if_false]
      rw [Int.natCast_mul]
      congr 1; omega
/-- a number that is written -/
theorem FV.write {s : Bool} {n : Int} {k : Nat} (h : n.natAbs < 2 ^ 53) (hs : n ≠ 0 → s = decide (n < 0)) : FV (double.write (.number s (n.natAbs * 2 ^ k) (-(k : Int)))) n := by
  refine ⟨h, ?_⟩
  by_cases hn : n = 0
  · subst hn
    refine .inl ⟨rfl, s, ?_⟩
    simp only [Format.write, Format.nearest, Int.natAbs_zero, Nat.zero_mul, if_true]
    cases s <;> decide
  · refine .inr ⟨hn, ?_⟩
    have := read_nearest (neg := s) (c := n.natAbs) (k := k) (by omega) h
    rw [← hs hn]
    exact this
theorem FV.neg {y : Nat} {b : Int} (hy : FV y b) : ∃ (s : Bool) (m k : Nat), (double.read y).opposite = .number s m (-(k : Int)) ∧ k ≤ 1074 ∧ ∀ j, Ieee.signed s m j = -b * ((2 ^ (k + j) : Nat) : Int) := by
  obtain ⟨s, m, k, h1, h2, h3⟩ := hy.signed
  refine ⟨!s, m, k, by rw [h1]; rfl, h2, fun j => ?_⟩
  have : Ieee.signed (!s) m j = -Ieee.signed s m j := by unfold Ieee.signed; cases s <;> simp
  rw [this, h3, Int.neg_mul]
theorem sum_of {s t : Bool} {m i n j : Nat} {a b : Int} (h3 : ∀ q, Ieee.signed s m q = a * ((2 ^ (i + q) : Nat) : Int)) (g3 : ∀ q, Ieee.signed t n q = b * ((2 ^ (j + q) : Nat) : Int)) (h : (a + b).natAbs < 2 ^ 53) :
    ∃ z, ((Datum.number s m (-(i : Int))).sum (.number t n (-(j : Int)))).map double.write = some z ∧ FV z (a + b) := by
  simp only [Datum.sum, Option.map_some]
  refine ⟨_, rfl, ?_⟩
  have e0 : min (-(i : Int)) (-(j : Int)) = -((max i j : Nat) : Int) := by omega
  rw [e0, h3, g3]
  have e1 : i + (-(i : Int) - -((max i j : Nat) : Int)).toNat = max i j := by omega
  have e2 : j + (-(j : Int) - -((max i j : Nat) : Int)).toNat = max i j := by omega
  rw [e1, e2, ← Int.add_mul]
  have e3 : ((a + b) * ((2 ^ max i j : Nat) : Int)).natAbs = (a + b).natAbs * 2 ^ max i j := by rw [Int.natAbs_mul, Int.natAbs_natCast]
  rw [e3]
  have hp := Nat.two_pow_pos (max i j)
  refine FV.write h fun hne => ?_
  have hne2 : (a + b) * ((2 ^ max i j : Nat) : Int) ≠ 0 := Int.mul_ne_zero hne (by omega)
  rw [if_neg hne2]
  by_cases hneg : a + b < 0
  · have : (a + b) * ((2 ^ max i j : Nat) : Int) < 0 := Int.mul_neg_of_neg_of_pos hneg (by omega)
    rw [decide_eq_true hneg]
    exact decide_eq_true this
  · have : ¬ (a + b) * ((2 ^ max i j : Nat) : Int) < 0 := by
      have := Int.mul_nonneg (by omega : 0 ≤ a + b) (by omega : 0 ≤ ((2 ^ max i j : Nat) : Int))
      omega
    simp only [hneg, this]
theorem FV.add {x y : Nat} {a b : Int} (hx : FV x a) (hy : FV y b) (h : (a + b).natAbs < 2 ^ 53) : ∃ z, double.add x y = some z ∧ FV z (a + b) := by
  obtain ⟨s, m, i, h1, h2, h3⟩ := hx.signed
  obtain ⟨t, n, j, g1, g2, g3⟩ := hy.signed
  unfold Format.add
  rw [h1, g1]
  exact sum_of h3 g3 h
theorem FV.sub {x y : Nat} {a b : Int} (hx : FV x a) (hy : FV y b) (h : (a - b).natAbs < 2 ^ 53) : ∃ z, double.sub x y = some z ∧ FV z (a - b) := by
  obtain ⟨s, m, i, h1, h2, h3⟩ := hx.signed
  obtain ⟨t, n, j, g1, g2, g3⟩ := hy.neg
  unfold Format.sub
  rw [h1, g1]
  have := sum_of h3 g3 (by rw [← Int.sub_eq_add_neg]; exact h)
  rw [← Int.sub_eq_add_neg] at this
  exact this
theorem FV.mul {x y : Nat} {a b : Int} (hx : FV x a) (hy : FV y b) (h : (a * b).natAbs < 2 ^ 53) : ∃ z, double.mul x y = some z ∧ FV z (a * b) := by
  obtain ⟨s, m, i, h1, h2, h3, h4⟩ := hx.num
  obtain ⟨t, n, j, g1, g2, g3, g4⟩ := hy.num
  unfold Format.mul
  rw [h1, g1]
  simp only [Datum.product, Option.map_some]
  refine ⟨_, rfl, ?_⟩
  have e0 : -(i : Int) + -(j : Int) = -((i + j : Nat) : Int) := by omega
  have e1 : m * n = (a * b).natAbs * 2 ^ (i + j) := by
    rw [h2, g2, Int.natAbs_mul, Nat.pow_add]
    simp only [Nat.mul_assoc, Nat.mul_left_comm]
  rw [e0, e1]
  refine FV.write h fun hne => ?_
  have ha : a ≠ 0 := fun h => hne (by rw [h, Int.zero_mul])
  have hb : b ≠ 0 := fun h => hne (by rw [h, Int.mul_zero])
  rw [h3 ha, g3 hb]
  by_cases p : a < 0 <;> by_cases q : b < 0
  · have : ¬ a * b < 0 := by have := Int.mul_pos_of_neg_of_neg p q; omega
    simp [p, q, this]
  · have : a * b < 0 := Int.mul_neg_of_neg_of_pos p (by omega)
    simp [p, q, this]
  · have : a * b < 0 := Int.mul_neg_of_pos_of_neg (by omega) q
    simp [p, q, this]
  · have : ¬ a * b < 0 := by have := Int.mul_nonneg (by omega : 0 ≤ a) (by omega : 0 ≤ b); omega
    simp [p, q, this]
theorem FV.order {x y : Nat} {a b : Int} (hx : FV x a) (hy : FV y b) : double.order x y = some (compare a b) := by
  obtain ⟨s, m, i, h1, h2, h3⟩ := hx.signed
  obtain ⟨t, n, j, g1, g2, g3⟩ := hy.signed
  unfold Format.order
  rw [h1, g1]
  simp only [Datum.order]
  have e0 : min (-(i : Int)) (-(j : Int)) = -((max i j : Nat) : Int) := by omega
  rw [e0, h3, g3]
  have e1 : i + (-(i : Int) - -((max i j : Nat) : Int)).toNat = max i j := by omega
  have e2 : j + (-(j : Int) - -((max i j : Nat) : Int)).toNat = max i j := by omega
  rw [e1, e2]
  have hp := Nat.two_pow_pos (max i j)
  have hp' : (0 : Int) < ((2 ^ max i j : Nat) : Int) := by omega
  congr 1
  simp only [compare, compareOfLessAndEq]
  have l1 : a * ((2 ^ max i j : Nat) : Int) < b * ((2 ^ max i j : Nat) : Int) ↔ a < b := Int.mul_lt_mul_right hp'
  have l2 : a * ((2 ^ max i j : Nat) : Int) = b * ((2 ^ max i j : Nat) : Int) ↔ a = b := Int.mul_eq_mul_right_iff (by omega)
  simp only [l1, l2]
theorem FV.ofInt {n : Int} (h : n.natAbs < 2 ^ 53) : FV (FloatKind.f64.nearest n) n := by
  have := FV.write (s := decide (n < 0)) (n := n) (k := 0) h (fun _ => rfl)
  have h2 : FV (double.write (.number (decide (n < 0)) n.natAbs 0)) n := by simpa using this
  exact h2
theorem cut_zero {n d : Nat} : Toward.zero.cut false n d = n / 2 ^ d := by
  unfold Toward.cut
  have e1 : 1 <<< min d (n.log2 + 2) = 2 ^ min d (n.log2 + 2) := by rw [Nat.one_shiftLeft]
  simp only [e1, Bool.toNat_false, Nat.add_zero]
  by_cases h : d ≤ n.log2 + 2
  · rw [Nat.min_eq_left h]
  · rw [Nat.min_eq_right (by omega)]
    have h1 := Nat.lt_log2_self (n := n)
    have h2 : 2 ^ (n.log2 + 1) ≤ 2 ^ (n.log2 + 2) := Nat.pow_le_pow_right (by omega) (by omega)
    have h3 : 2 ^ (n.log2 + 2) ≤ 2 ^ d := Nat.pow_le_pow_right (by omega) (by omega)
    rw [Nat.div_eq_of_lt (by omega), Nat.div_eq_of_lt (by omega)]
theorem toInt_pos {m k : Nat} : (Datum.number false m (-(k : Int))).toInt .zero = some ((m / 2 ^ k : Nat) : Int) := by
  unfold Datum.toInt
  simp only [Datum.integral]
  have e1 : (-(k : Int)).toNat = 0 := by omega
  have e2 : (-(-(k : Int))).toNat = k := by omega
  rw [e1, e2, Nat.shiftLeft_zero, cut_zero]
  simp [Ieee.signed]
theorem FV.div {x : Nat} {a : Nat} (hx : FV x a) (h : a < 2097152) : ∃ z, double.div x 4652007308841189376 = some z ∧ (double.read z).toInt .zero = some ((a / 1000 : Nat) : Int) := by
  have hc : double.read 4652007308841189376 = .number false (1000 * 2 ^ 43) (-43) := by decide +kernel
  obtain ⟨h0, ⟨ha, s, hr⟩ | ⟨hn, hr⟩⟩ := hx
  · have ha0 : a = 0 := by omega
    subst ha0
    unfold Format.div
    rw [hr, hc]
    refine ⟨_, rfl, ?_⟩
    cases s <;> decide +kernel
  · have hneg : decide ((a : Int) < 0) = false := decide_eq_false (by omega)
    rw [hneg] at hr
    simp only [Int.natAbs_natCast] at hr h0
    have ha : a ≠ 0 := by omega
    obtain ⟨L, hL⟩ : ∃ L, L = a.log2 := ⟨_, rfl⟩
    have hL20 : L ≤ 20 := by
      have := (Nat.log2_lt ha (k := 21)).2 (by omega)
      omega
    have g1 := Nat.log2_self_le ha
    have g2 := Nat.lt_log2_self (n := a)
    rw [← hL] at hr g1 g2
    obtain ⟨V, hV⟩ : ∃ V, V = 2 ^ (61 - L) := ⟨_, rfl⟩
    have hV1 : 2 ^ 41 ≤ V := by rw [hV]; exact Nat.pow_le_pow_right (by omega) (by omega)
    have hcan : canon a = a * 2 ^ (52 - L) := by unfold canon; rw [← hL]
    have hcl : (canon a).log2 = 52 := by rw [hcan, log2_shift ha, ← hL]; omega
    have hnl : (1000 * 2 ^ 43).log2 = 52 := by decide +kernel
    have hX1 : 2 ^ 63 ≤ a * (4 * V) := by
      have : 2 ^ 63 = 2 ^ L * (4 * V) := by
        rw [hV, show (4 : Nat) = 2 ^ 2 from rfl, ← Nat.pow_add, ← Nat.pow_add]; congr 1; omega
      rw [this]; exact Nat.mul_le_mul_right _ g1
    have hX2 : a * (4 * V) < 2 ^ 64 := by
      have : 2 ^ 64 = 2 ^ (L + 1) * (4 * V) := by
        rw [hV, show (4 : Nat) = 2 ^ 2 from rfl, ← Nat.pow_add, ← Nat.pow_add]; congr 1; omega
      rw [this]; exact Nat.mul_lt_mul_of_pos_right g2 (by omega)
    have hdv : canon a <<< 54 = a * (4 * V) * 2 ^ 43 := by
      rw [hcan, Nat.shiftLeft_eq, hV, show (4 : Nat) = 2 ^ 2 from rfl, Nat.mul_assoc, Nat.mul_assoc, ← Nat.pow_add, Nat.mul_assoc, ← Nat.pow_add, ← Nat.pow_add]
      congr 2; omega
    have hq : (canon a <<< 54) / (1000 * 2 ^ 43) = a * (4 * V) / 1000 := by rw [hdv]; exact Nat.mul_div_mul_right _ _ (by omega)
    obtain ⟨bit, hbit⟩ : ∃ bit, bit = ((canon a <<< 54) % (1000 * 2 ^ 43) != 0).toNat := ⟨_, rfl⟩
    have hb1 : bit ≤ 1 := by rw [hbit]; cases ((canon a <<< 54) % (1000 * 2 ^ 43) != 0) <;> decide
    obtain ⟨q, hqq⟩ : ∃ q, q = a * (4 * V) / 1000 := ⟨_, rfl⟩
    obtain ⟨M, hM⟩ : ∃ M, M = 2 * q + bit := ⟨_, rfl⟩
    have hdiv : double.div x 4652007308841189376 = some (double.nearest false M ((L : Int) - 64)) := by
      unfold Format.div
      rw [hr, hc]
      simp only [Datum.quotient, Option.map_some]
      have hne : ¬ 1000 * 2 ^ 43 = 0 := by decide
      have hm : double.fractionBits + 2 + (1000 * 2 ^ 43).log2 - (canon a).log2 = 54 := by rw [hnl, hcl]; rfl
      rw [if_neg hne, hm, hq, ← hbit, ← hqq, ← hM]
      have e1 : (L : Int) - 52 - -43 - ((54 : Nat) : Int) - 1 = (L : Int) - 64 := by omega
      rw [e1]
      rfl
    refine ⟨_, hdiv, ?_⟩
    have hq1 : 1000 * q ≤ a * (4 * V) ∧ a * (4 * V) < 1000 * q + 1000 := by omega
    have hM1 : 18446744073709550 ≤ M := by omega
    have hM2 : M ≤ 36893488147419103 := by omega
    -- what is asked of the significand
    obtain ⟨k, hk⟩ : ∃ k, k = a / 1000 := ⟨_, rfl⟩
    obtain ⟨r, hr'⟩ : ∃ r, r = a % 1000 := ⟨_, rfl⟩
    have hakr : a = 1000 * k + r := by omega
    have hXe : a * (4 * V) = 4000 * (k * V) + 4 * (r * V) := by rw [hakr, Nat.add_mul]; simp only [Nat.mul_assoc, Nat.mul_left_comm k, Nat.mul_left_comm r]; omega
    have hrV : r * V ≤ 999 * V := Nat.mul_le_mul_right _ (by omega)
    have key : ∀ kept g : Nat, (g = 4 ∨ g = 8) → M / g ≤ kept → kept ≤ M / g + 1 → kept / ((8 / g) * V) = k := by
      intro kept g hg l1 l2
      have hkV : k * (2 * V) = 2 * (k * V) := by rw [Nat.mul_left_comm]
      have hlo : k * ((8 / g) * V) ≤ kept ∧ kept < k * ((8 / g) * V) + (8 / g) * V := by
        rcases hg with rfl | rfl
        · simp only [show 8 / 4 = 2 from rfl]; rw [hkV]; omega
        · simp only [show 8 / 8 = 1 from rfl, Nat.one_mul]; omega
      have hpos : 0 < (8 / g) * V := by rcases hg with rfl | rfl <;> simp only [show 8 / 4 = 2 from rfl, show 8 / 8 = 1 from rfl] <;> omega
      refine Nat.div_eq_of_lt_le hlo.1 ?_
      rw [Nat.add_mul, Nat.one_mul]; exact hlo.2
    have hM0 : M ≠ 0 := by omega
    have hlp : double.leastPlace = -1074 := by decide
    have hf : double.fractionBits = 52 := rfl
    have fin : ∀ (D : Nat), (D = 2 ∨ D = 3) → M.log2 = 52 + D → (double.read (double.nearest false M ((L : Int) - 64))).toInt .zero = some ((k : Nat) : Int) := by
      intro D hD hlog
      unfold Format.nearest
      rw [if_neg hM0]
      simp only [hlog, hlp, hf]
      have e1 : max ((L : Int) - 64 + ((52 + D : Nat) : Int) - ((52 : Nat) : Int)) (-1074) = (L : Int) - 64 + D := by omega
      rw [e1]
      have e2 : ((L : Int) - 64 - ((L : Int) - 64 + D)).toNat = 0 := by omega
      have e3 : ((L : Int) - 64 + D - ((L : Int) - 64)).toNat = D := by omega
      have e4 : ((L : Int) - 64 + D - -1074).toNat = L + D + 1010 := by omega
      rw [e2, e3, e4, Nat.shiftLeft_zero]
      obtain ⟨kept, hkept⟩ : ∃ kept, kept = Toward.even.cut false M D := ⟨_, rfl⟩
      rw [← hkept]
      have hgap : 1 <<< min D (M.log2 + 2) = 2 ^ D := by rw [Nat.min_eq_left (by omega), Nat.one_shiftLeft]
      have hkb : M / 2 ^ D ≤ kept ∧ kept ≤ M / 2 ^ D + 1 := by
        rw [hkept]
        unfold Toward.cut
        rw [hgap]
        simp only
        generalize (decide (2 ^ D < 2 * (M % 2 ^ D)) || (2 ^ D == 2 * (M % 2 ^ D) && M / 2 ^ D % 2 == 1)) = bb
        cases bb <;> simp
      have hk2 := key kept (2 ^ D) (by rcases hD with rfl | rfl <;> simp) hkb.1 hkb.2
      have hlog1 := Nat.log2_self_le hM0
      have hlog2 := Nat.lt_log2_self (n := M)
      rw [hlog] at hlog1 hlog2
      have hkr : 2 ^ 52 ≤ kept ∧ kept ≤ 2 ^ 53 := by rcases hD with rfl | rfl <;> simp only [Nat.reducePow, Nat.reduceAdd] at hlog1 hlog2 hkb ⊢ <;> omega
      have hVD : 8 / 2 ^ D * V = 2 ^ (64 - L - D) := by
        rw [hV]
        rcases hD with rfl | rfl
        · have u1 : (8 / 2 ^ 2 : Nat) = 2 ^ 1 := by decide
          have u2 : 1 + (61 - L) = 64 - L - 2 := by omega
          rw [u1, ← Nat.pow_add, u2]
        · have u1 : (8 / 2 ^ 3 : Nat) = 2 ^ 0 := by decide
          have u2 : 0 + (61 - L) = 64 - L - 3 := by omega
          rw [u1, ← Nat.pow_add, u2]
      rw [hVD] at hk2
      by_cases hcar : kept < 2 ^ 53
      · rw [read_word hkr.1 hcar (by omega), hlp]
        have e5 : (-1074 : Int) + ((L + D + 1010 : Nat) : Int) = -((64 - L - D : Nat) : Int) := by omega
        rw [e5, toInt_pos, hk2]
      · have hke : kept = 2 ^ 53 := by omega
        have e6 : (L + D + 1010) * double.binade + kept = (L + D + 1010 + 1) * double.binade + 2 ^ 52 := by
          have hb : double.binade = 4503599627370496 := by decide
          rw [hb, hke]; omega
        rw [e6, read_word (Nat.le_refl _) (by omega) (by omega), hlp]
        have e5 : (-1074 : Int) + ((L + D + 1010 + 1 : Nat) : Int) = -((64 - L - D - 1 : Nat) : Int) := by omega
        rw [e5, toInt_pos]
        rw [← hk2, hke]
        have e7 : 2 ^ (64 - L - D) = 2 ^ (64 - L - D - 1) * 2 := by
          have u3 : 64 - L - D = (64 - L - D - 1) + 1 := by omega
          exact (congrArg (2 ^ ·) u3).trans (Nat.pow_succ ..)
        have e8 : (9007199254740992 : Nat) / 2 = 4503599627370496 := by decide
        rw [e7, Nat.mul_comm _ 2, ← Nat.div_div_eq_div_mul]
    have hMl : M.log2 = 54 ∨ M.log2 = 55 := by
      have l1 : ¬ M.log2 < 54 := fun h => by have := (Nat.log2_lt hM0).1 h; omega
      have l2 : M.log2 < 56 := (Nat.log2_lt hM0).2 (by omega)
      omega
    rw [← hk]
    rcases hMl with h | h
    · exact fin 2 (.inl rfl) h
    · exact fin 3 (.inr rfl) h
/-! the operations -/
open Sh Sl
section
theorem guard_flt (op : BinOp) (t : TypeId) (x y : Operand) (k k' : FloatKind) (a b : Nat) (w : World) : (eqGuard op t x y (.float k a) (.float k' b)).run P w = .ok () w := by
  unfold eqGuard; split <;> rfl
theorem guard_cpl (op : BinOp) (t : TypeId) (x y : Operand) (k k' : FloatKind) (a b c d : Nat) (w : World) : (eqGuard op t x y (.complex k a b) (.complex k' c d)).run P w = .ok () w := by
  unfold eqGuard; split <;> rfl
variable {t : TypeId} {X Y : Operand}
theorem st_fmul {x y : Nat} {a b : Int} (hx : FV x a) (hy : FV y b) (h : (a * b).natAbs < 2 ^ 53) : ∃ z, FV z (a * b) ∧ Pu (bS .mul t X Y (.float .f64 x) (.float .f64 y)) (.float .f64 z) := by
  obtain ⟨z, h1, h2⟩ := hx.mul hy h
  exact ⟨z, h2, still_bS (guard_flt _ _ _ _ _ _ _ _) fun w => run_float_arith w _ _ _ _ _ _ h1⟩
theorem st_fadd {x y : Nat} {a b : Int} (hx : FV x a) (hy : FV y b) (h : (a + b).natAbs < 2 ^ 53) : ∃ z, FV z (a + b) ∧ Pu (bS .add t X Y (.float .f64 x) (.float .f64 y)) (.float .f64 z) := by
  obtain ⟨z, h1, h2⟩ := hx.add hy h
  exact ⟨z, h2, still_bS (guard_flt _ _ _ _ _ _ _ _) fun w => run_float_arith w _ _ _ _ _ _ h1⟩
theorem st_fsub {x y : Nat} {a b : Int} (hx : FV x a) (hy : FV y b) (h : (a - b).natAbs < 2 ^ 53) : ∃ z, FV z (a - b) ∧ Pu (bS .sub t X Y (.float .f64 x) (.float .f64 y)) (.float .f64 z) := by
  obtain ⟨z, h1, h2⟩ := hx.sub hy h
  exact ⟨z, h2, still_bS (guard_flt _ _ _ _ _ _ _ _) fun w => run_float_arith w _ _ _ _ _ _ h1⟩
theorem st_fquo {x : Nat} {a : Nat} (hx : FV x a) (h : a < 2097152) : ∃ z, (double.read z).toInt .zero = some ((a / 1000 : Nat) : Int) ∧ Pu (bS .quo t X Y (.float .f64 x) (.float .f64 4652007308841189376)) (.float .f64 z) := by
  obtain ⟨z, h1, h2⟩ := FV.div hx h
  exact ⟨z, h2, still_bS (guard_flt _ _ _ _ _ _ _ _) fun w => run_float_arith w _ _ _ _ _ _ h1⟩
theorem st_fint {s d : TypeId} {z : Nat} {n : Int} (hs : dd s = some (.flt .f64)) (hd : dd d = some (.int .i64)) (h : (double.read z).toInt .zero = some n) (hr : inR .i64 n) : Pu (vS (convert s d (.float .f64 z))) (.int .i64 n) :=
  Still.of_run fun w => run_convert_float_int w _ _ _ _ _ _ (by rw [dd_flt hs]; rfl) (dd_int hd) (by
    have h' : (FloatKind.f64.decode z).toInt .zero = some n := h
    unfold floatToIntVal
    rw [h']
    exact if_pos hr)
theorem st_tofl {s d : TypeId} {k : IntKind} {n : Int} (hs : dd s = some (.int k)) (hd : dd d = some (.flt .f64)) (h : n.natAbs < 2 ^ 53) : ∃ z, FV z n ∧ Pu (vS (convert s d (.int k n))) (.float .f64 z) :=
  ⟨_, FV.ofInt h, Still.of_run fun w => by simp [convert, run_underlying (dd_int hs), run_underlying (dd_flt hd), Conv.intToFloat]⟩
theorem ord {x y : Nat} {a b : Int} (hx : FV x a) (hy : FV y b) : FloatKind.f64.format.order x y = some (compare a b) := hx.order hy
theorem st_fleq {x y : Nat} {a b : Int} (hx : FV x a) (hy : FV y b) : Pu (bS .leq t X Y (.float .f64 x) (.float .f64 y)) (.bool (decide (a ≤ b))) :=
  still_bS (guard_flt _ _ _ _ _ _ _ _) fun w => by
    simp only [binOp, Op.floatCmp, ord hx hy, ne_eq, not_true_eq_false, if_false, Sem.run_pure]
    congr 2
    simp only [compare, compareOfLessAndEq]
    by_cases h1 : a < b
    · simp [h1]; omega
    · by_cases h2 : a = b
      · simp [h2]
      · simp [h1, h2]; omega
theorem st_flss {x y : Nat} {a b : Int} (hx : FV x a) (hy : FV y b) : Pu (bS .lss t X Y (.float .f64 x) (.float .f64 y)) (.bool (decide (a < b))) :=
  still_bS (guard_flt _ _ _ _ _ _ _ _) fun w => by
    simp only [binOp, Op.floatCmp, ord hx hy, ne_eq, not_true_eq_false, if_false, Sem.run_pure]
    congr 2
    simp only [compare, compareOfLessAndEq]
    by_cases h1 : a < b
    · simp [h1]
    · by_cases h2 : a = b
      · simp [h2]
      · simp [h1, h2]
theorem st_feq {x y : Nat} {a b : Int} (hx : FV x a) (hy : FV y b) : Pu (bS .eql t X Y (.float .f64 x) (.float .f64 y)) (.bool (decide (a = b))) :=
  still_bS (guard_flt _ _ _ _ _ _ _ _) fun w => by
    simp only [binOp, Op.floatCmp, ord hx hy, ne_eq, not_true_eq_false, if_false, Sem.run_pure]
    congr 2
    simp only [compare, compareOfLessAndEq]
    by_cases h1 : a < b
    · simp [h1]; omega
    · by_cases h2 : a = b
      · simp [h2]
      · simp [h1, h2]
theorem st_fmin {x y : Nat} {a b : Int} {u v : TypeId} (hx : FV x a) (hy : FV y b) : ∃ z, FV z (min a b) ∧ Pu (vS (Builtin.min_ #[u, v] t #[.float .f64 x, .float .f64 y])) (.float .f64 z) := by
  have ho := ord hx hy
  by_cases h1 : a < b
  · refine ⟨x, by rw [Int.min_eq_left (by omega)]; exact hx, Still.of_run fun w => ?_⟩
    have : compare a b = .lt := by simp [compare, compareOfLessAndEq, h1]
    rw [this] at ho
    simp [Builtin.min_, Builtin.min2, ho]
  · by_cases h2 : a = b
    · refine ⟨if (FloatKind.f64.decode x).neg then x else y, ?_, Still.of_run fun w => ?_⟩
      · subst h2
        rw [Int.min_self]
        split <;> assumption
      · have : compare a b = .eq := by simp [compare, compareOfLessAndEq, h2]
        rw [this] at ho
        simp [Builtin.min_, Builtin.min2, ho]
    · refine ⟨y, by rw [Int.min_eq_right (by omega)]; exact hy, Still.of_run fun w => ?_⟩
      have : compare a b = .gt := by simp [compare, compareOfLessAndEq, h1, h2]
      rw [this] at ho
      simp [Builtin.min_, Builtin.min2, ho]
theorem st_cplx {x y : Nat} {u v : TypeId} : Pu (vS (Builtin.complex_ #[u, v] t #[.float .f64 x, .float .f64 y])) (.complex .f64 x y) := Still.of_run fun w => rfl
theorem st_real {x y : Nat} {u : TypeId} : Pu (vS (Builtin.real_ #[u] t #[.complex .f64 x y])) (.float .f64 x) := Still.of_run fun w => rfl
theorem st_imag {x y : Nat} {u : TypeId} : Pu (vS (Builtin.imag_ #[u] t #[.complex .f64 x y])) (.float .f64 y) := Still.of_run fun w => rfl
theorem st_csub {x y x' y' : Nat} {a b a' b' : Int} (hx : FV x a) (hy : FV y b) (hx' : FV x' a') (hy' : FV y' b') (h1 : (a - a').natAbs < 2 ^ 53) (h2 : (b - b').natAbs < 2 ^ 53) :
    ∃ z z', FV z (a - a') ∧ FV z' (b - b') ∧ Pu (bS .sub t X Y (.complex .f64 x y) (.complex .f64 x' y')) (.complex .f64 z z') := by
  obtain ⟨z, g1, g2⟩ := hx.sub hx' h1
  obtain ⟨z', g3, g4⟩ := hy.sub hy' h2
  refine ⟨z, z', g2, g4, still_bS (guard_cpl _ _ _ _ _ _ _ _ _ _) fun w => ?_⟩
  have e1 : FloatKind.f64.format.sub x x' = some z := g1
  have e2 : FloatKind.f64.format.sub y y' = some z' := g3
  simp [binOp, Op.complexOp, Op.Complex.arith, Op.floatArith, e1, e2]
theorem fv0 : FV 0 0 := ⟨by decide, .inl ⟨rfl, false, by decide +kernel⟩⟩
theorem fv1000 : FV 4652007308841189376 1000 := ⟨by decide, .inr ⟨by decide, by decide +kernel⟩⟩
end
end Go.Proofs.YtfofnagocedlgaaGreatDoor.Fl
