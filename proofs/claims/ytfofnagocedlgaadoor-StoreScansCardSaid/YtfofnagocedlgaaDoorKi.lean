/- The texts Fl Lr Ls Lv Lw Lx, laid together. -/
import Derived.Laws.FloatArith
import Derived.Test.YtfofnagocedlgaaDoorKc
import Derived.Test.YtfofnagocedlgaaDoorKh
section
/-
  FLOATS THAT HOLD WHOLE NUMBERS: sums, products and comparisons of numbers below 2^53 are exact.
-/
set_option linter.unusedVariables false
set_option linter.unusedSimpArgs false
set_option maxHeartbeats 2000000
namespace Go.Proofs.YtfofnagocedlgaaDoor.Fl
open Go Ieee
/-- the word of a whole number below 2^53, read -/
def canon (n : Nat) : Nat := n * 2 ^ (52 - n.log2)
theorem log2_lt {c : Nat} (hc : c ≠ 0) (h : c < 2 ^ 53) : c.log2 ≤ 52 := by
  have := (Nat.log2_lt hc).2 h
  omega
theorem canon_ge {c : Nat} (hc : c ≠ 0) (h : c < 2 ^ 53) : 2 ^ 52 ≤ canon c ∧ canon c < 2 ^ 53 := by
  have hl := log2_lt hc h
  have h1 := Nat.log2_self_le hc
  have h2 := Nat.lt_log2_self (n := c)
  unfold canon
  constructor
  · calc 2 ^ 52 = 2 ^ c.log2 * 2 ^ (52 - c.log2) := by rw [← Nat.pow_add]; congr 1; omega
      _ ≤ c * 2 ^ (52 - c.log2) := Nat.mul_le_mul_right _ h1
  · calc c * 2 ^ (52 - c.log2) < 2 ^ (c.log2 + 1) * 2 ^ (52 - c.log2) := Nat.mul_lt_mul_of_pos_right h2 (Nat.two_pow_pos _)
      _ = 2 ^ 53 := by rw [← Nat.pow_add]; congr 1; omega
theorem log2_shift {c k : Nat} (hc : c ≠ 0) : (c * 2 ^ k).log2 = c.log2 + k := by
  have hne : c * 2 ^ k ≠ 0 := by
    have := Nat.two_pow_pos k
    exact Nat.mul_ne_zero hc (by omega)
  apply (Nat.log2_eq_iff hne).2
  have h1 := Nat.log2_self_le hc
  have h2 := Nat.lt_log2_self (n := c)
  constructor
  · rw [Nat.pow_add]; exact Nat.mul_le_mul_right _ h1
  · have : 2 ^ (c.log2 + k + 1) = 2 ^ (c.log2 + 1) * 2 ^ k := by rw [← Nat.pow_add]; congr 1; omega
    rw [this]; exact Nat.mul_lt_mul_of_pos_right h2 (Nat.two_pow_pos _)
theorem cut_exact {neg : Bool} {n d : Nat} (hd : d ≤ n.log2) (hdv : 2 ^ d ∣ n) : Toward.even.cut neg n d = n / 2 ^ d := by
  unfold Toward.cut
  have e1 : 1 <<< min d (n.log2 + 2) = 2 ^ d := by rw [Nat.min_eq_left (by omega), Nat.one_shiftLeft]
  rw [e1]
  have e2 : n % 2 ^ d = 0 := Nat.mod_eq_zero_of_dvd hdv
  have := Nat.two_pow_pos d
  simp [e2]
/-- a word by its sign, its significand and its place -/
theorem read_word {neg : Bool} {m r : Nat} (h1 : 2 ^ 52 ≤ m) (h2 : m < 2 ^ 53) (h3 : r ≤ 2000) : double.read (double.word neg (min (r * double.binade + m) double.infRung)) = .number neg m (double.leastPlace + (r : Int)) := by
  have hb : double.binade = 4503599627370496 := by decide
  have hi : double.infRung = 9218868437227405312 := by decide
  have hs : double.signWeight = 9223372036854775808 := by decide
  have e1 : min (r * double.binade + m) double.infRung = r * 4503599627370496 + m := by rw [hb, hi]; omega
  rw [e1]
  have e2 : double.word neg (r * 4503599627370496 + m) = (if neg then 9223372036854775808 else 0) + (r * 4503599627370496 + m) := by unfold Format.word; rw [hs]; split <;> omega
  unfold Format.read
  rw [e2, hs, hb, hi]
  have e3 : (if neg then 9223372036854775808 else 0) + (r * 4503599627370496 + m) = (if neg = true then 1 else 0) * 9223372036854775808 + (r * 4503599627370496 + m) := by split <;> omega
  rw [e3]
  have lt : r * 4503599627370496 + m < 9223372036854775808 := by omega
  have e4 : ((if neg = true then 1 else 0) * 9223372036854775808 + (r * 4503599627370496 + m)) / 9223372036854775808 = if neg = true then 1 else 0 := by omega
  have e5 : ((if neg = true then 1 else 0) * 9223372036854775808 + (r * 4503599627370496 + m)) % 9223372036854775808 = r * 4503599627370496 + m := by omega
  rw [e4, e5]
  have e6 : ((if neg = true then 1 else 0) % 2 == 1) = neg := by cases neg <;> rfl
  simp only [e6]
  rw [if_neg (by omega), if_pos (by omega)]
  have e7 : 4503599627370496 + (r * 4503599627370496 + m) % 4503599627370496 = m := by omega
  have e8 : (r * 4503599627370496 + m) / 4503599627370496 - 1 = r := by omega
  rw [e7, e8]
theorem read_nearest {neg : Bool} {c k : Nat} (hc : c ≠ 0) (h : c < 2 ^ 53) : double.read (double.nearest neg (c * 2 ^ k) (-(k : Int))) = .number neg (canon c) ((c.log2 : Int) - 52) := by
  have hl := log2_lt hc h
  have hlp : double.leastPlace = -1074 := by decide
  have hf : double.fractionBits = 52 := rfl
  have hne : c * 2 ^ k ≠ 0 := Nat.mul_ne_zero hc (by have := Nat.two_pow_pos k; omega)
  unfold Format.nearest
  rw [if_neg hne]
  simp only [log2_shift hc, hlp, hf]
  have e1 : max (-(k : Int) + ((c.log2 + k : Nat) : Int) - ((52 : Nat) : Int)) (-1074) = (c.log2 : Int) - 52 := by omega
  rw [e1]
  have hcg := canon_ge hc h
  have e2 : Toward.even.cut neg ((c * 2 ^ k) <<< (-(k : Int) - ((c.log2 : Int) - 52)).toNat) (((c.log2 : Int) - 52) - -(k : Int)).toNat = canon c := by
    by_cases hk : c.log2 + k ≤ 52
    · have a1 : (-(k : Int) - ((c.log2 : Int) - 52)).toNat = 52 - c.log2 - k := by omega
      have a2 : (((c.log2 : Int) - 52) - -(k : Int)).toNat = 0 := by omega
      rw [a1, a2, cut_exact (Nat.zero_le _) (by simp)]
      rw [Nat.shiftLeft_eq, Nat.mul_assoc, ← Nat.pow_add]
      unfold canon
      simp only [Nat.pow_zero, Nat.div_one]
      congr 2; omega
    · have a1 : (-(k : Int) - ((c.log2 : Int) - 52)).toNat = 0 := by omega
      have a2 : (((c.log2 : Int) - 52) - -(k : Int)).toNat = c.log2 + k - 52 := by omega
      rw [a1, a2, Nat.shiftLeft_zero]
      have a3 : c * 2 ^ k = canon c * 2 ^ (c.log2 + k - 52) := by
        unfold canon
        rw [Nat.mul_assoc, ← Nat.pow_add]
        congr 2; omega
      rw [cut_exact (by rw [log2_shift hc]; omega) (by rw [a3]; exact Nat.dvd_mul_left _ _), a3, Nat.mul_div_cancel _ (Nat.two_pow_pos _)]
  rw [e2]
  have e3 : ((c.log2 : Int) - 52 - -1074).toNat = c.log2 + 1022 := by omega
  have e4 : (-1074 : Int) + ((c.log2 + 1022 : Nat) : Int) = (c.log2 : Int) - 52 := by omega
  rw [e3, read_word hcg.1 hcg.2 (by omega), hlp, e4]
/-- the word 'w' stands for the whole number 'n' -/
def FV (w : Nat) (n : Int) : Prop := n.natAbs < 2 ^ 53 ∧ ((n = 0 ∧ ∃ s, double.read w = .number s 0 (-1074)) ∨ (n ≠ 0 ∧ double.read w = .number (decide (n < 0)) (canon n.natAbs) ((n.natAbs.log2 : Int) - 52)))
theorem zz (k : Nat) : (0 : Nat) = (0 : Int).natAbs * 2 ^ k := by simp
/-- it is some multiple -/
theorem FV.num {w : Nat} {n : Int} (h : FV w n) : ∃ (s : Bool) (m k : Nat), double.read w = .number s m (-(k : Int)) ∧ m = n.natAbs * 2 ^ k ∧ (n ≠ 0 → s = decide (n < 0)) ∧ k ≤ 1074 := by
  obtain ⟨h0, ⟨rfl, s, h⟩ | ⟨hn, h⟩⟩ := h
  · exact ⟨s, 0, 1074, h, zz 1074, fun h => absurd rfl h, by omega⟩
  · have hl := log2_lt (by omega : n.natAbs ≠ 0) h0
    refine ⟨_, _, 52 - n.natAbs.log2, ?_, rfl, fun _ => rfl, by omega⟩
    have e1 : (n.natAbs.log2 : Int) - 52 = -((52 - n.natAbs.log2 : Nat) : Int) := by omega
    rw [h, e1]
    rfl
theorem FV.signed {w : Nat} {n : Int} (h : FV w n) : ∃ (s : Bool) (m k : Nat), double.read w = .number s m (-(k : Int)) ∧ k ≤ 1074 ∧ ∀ j, signed s m j = n * ((2 ^ (k + j) : Nat) : Int) := by
  obtain ⟨s, m, k, h1, h2, h3, h4⟩ := h.num
  refine ⟨s, m, k, h1, h4, fun j => ?_⟩
  unfold Ieee.signed
  rw [h2, Nat.shiftLeft_eq, Nat.mul_assoc, ← Nat.pow_add]
  by_cases hn : n = 0
  · subst hn; simp
  · rw [h3 hn]
    by_cases hneg : n < 0
    · simp only [hneg, decide_true, if_true]
      rw [Int.natCast_mul, ← Int.neg_mul]
      congr 1; omega
    · simp only [hneg, decide_false, Bool.false_eq_true, if_false]
      rw [Int.natCast_mul]
      congr 1; omega
/-- a number that is written -/
theorem FV.write {s : Bool} {n : Int} {k : Nat} (h : n.natAbs < 2 ^ 53) (hs : n ≠ 0 → s = decide (n < 0)) : FV (double.write (.number s (n.natAbs * 2 ^ k) (-(k : Int)))) n := by
  refine ⟨h, ?_⟩
  by_cases hn : n = 0
  · subst hn
    refine .inl ⟨rfl, s, ?_⟩
    simp only [Format.write, Format.nearest, Int.natAbs_zero, Nat.zero_mul, if_true]
    cases s <;> decide
  · refine .inr ⟨hn, ?_⟩
    have := read_nearest (neg := s) (c := n.natAbs) (k := k) (by omega) h
    rw [← hs hn]
    exact this
theorem FV.neg {y : Nat} {b : Int} (hy : FV y b) : ∃ (s : Bool) (m k : Nat), (double.read y).opposite = .number s m (-(k : Int)) ∧ k ≤ 1074 ∧ ∀ j, Ieee.signed s m j = -b * ((2 ^ (k + j) : Nat) : Int) := by
  obtain ⟨s, m, k, h1, h2, h3⟩ := hy.signed
  refine ⟨!s, m, k, by rw [h1]; rfl, h2, fun j => ?_⟩
  have : Ieee.signed (!s) m j = -Ieee.signed s m j := by unfold Ieee.signed; cases s <;> simp
  rw [this, h3, Int.neg_mul]
theorem sum_of {s t : Bool} {m i n j : Nat} {a b : Int} (h3 : ∀ q, Ieee.signed s m q = a * ((2 ^ (i + q) : Nat) : Int)) (g3 : ∀ q, Ieee.signed t n q = b * ((2 ^ (j + q) : Nat) : Int)) (h : (a + b).natAbs < 2 ^ 53) :
    ∃ z, ((Datum.number s m (-(i : Int))).sum (.number t n (-(j : Int)))).map double.write = some z ∧ FV z (a + b) := by
  simp only [Datum.sum, Option.map_some]
  refine ⟨_, rfl, ?_⟩
  have e0 : min (-(i : Int)) (-(j : Int)) = -((max i j : Nat) : Int) := by omega
  rw [e0, h3, g3]
  have e1 : i + (-(i : Int) - -((max i j : Nat) : Int)).toNat = max i j := by omega
  have e2 : j + (-(j : Int) - -((max i j : Nat) : Int)).toNat = max i j := by omega
  rw [e1, e2, ← Int.add_mul]
  have e3 : ((a + b) * ((2 ^ max i j : Nat) : Int)).natAbs = (a + b).natAbs * 2 ^ max i j := by rw [Int.natAbs_mul, Int.natAbs_natCast]
  rw [e3]
  have hp := Nat.two_pow_pos (max i j)
  refine FV.write h fun hne => ?_
  have hne2 : (a + b) * ((2 ^ max i j : Nat) : Int) ≠ 0 := Int.mul_ne_zero hne (by omega)
  rw [if_neg hne2]
  by_cases hneg : a + b < 0
  · have : (a + b) * ((2 ^ max i j : Nat) : Int) < 0 := Int.mul_neg_of_neg_of_pos hneg (by omega)
    rw [decide_eq_true hneg]
    exact decide_eq_true this
  · have : ¬ (a + b) * ((2 ^ max i j : Nat) : Int) < 0 := by
      have := Int.mul_nonneg (by omega : 0 ≤ a + b) (by omega : 0 ≤ ((2 ^ max i j : Nat) : Int))
      omega
    simp only [hneg, this]
theorem FV.add {x y : Nat} {a b : Int} (hx : FV x a) (hy : FV y b) (h : (a + b).natAbs < 2 ^ 53) : ∃ z, double.add x y = some z ∧ FV z (a + b) := by
  obtain ⟨s, m, i, h1, h2, h3⟩ := hx.signed
  obtain ⟨t, n, j, g1, g2, g3⟩ := hy.signed
  unfold Format.add
  rw [h1, g1]
  exact sum_of h3 g3 h
theorem FV.sub {x y : Nat} {a b : Int} (hx : FV x a) (hy : FV y b) (h : (a - b).natAbs < 2 ^ 53) : ∃ z, double.sub x y = some z ∧ FV z (a - b) := by
  obtain ⟨s, m, i, h1, h2, h3⟩ := hx.signed
  obtain ⟨t, n, j, g1, g2, g3⟩ := hy.neg
  unfold Format.sub
  rw [h1, g1]
  have := sum_of h3 g3 (by rw [← Int.sub_eq_add_neg]; exact h)
  rw [← Int.sub_eq_add_neg] at this
  exact this
theorem FV.mul {x y : Nat} {a b : Int} (hx : FV x a) (hy : FV y b) (h : (a * b).natAbs < 2 ^ 53) : ∃ z, double.mul x y = some z ∧ FV z (a * b) := by
  obtain ⟨s, m, i, h1, h2, h3, h4⟩ := hx.num
  obtain ⟨t, n, j, g1, g2, g3, g4⟩ := hy.num
  unfold Format.mul
  rw [h1, g1]
  simp only [Datum.product, Option.map_some]
  refine ⟨_, rfl, ?_⟩
  have e0 : -(i : Int) + -(j : Int) = -((i + j : Nat) : Int) := by omega
  have e1 : m * n = (a * b).natAbs * 2 ^ (i + j) := by
    rw [h2, g2, Int.natAbs_mul, Nat.pow_add]
    simp only [Nat.mul_assoc, Nat.mul_left_comm]
  rw [e0, e1]
  refine FV.write h fun hne => ?_
  have ha : a ≠ 0 := fun h => hne (by rw [h, Int.zero_mul])
  have hb : b ≠ 0 := fun h => hne (by rw [h, Int.mul_zero])
  rw [h3 ha, g3 hb]
  by_cases p : a < 0 <;> by_cases q : b < 0
  · have : ¬ a * b < 0 := by have := Int.mul_pos_of_neg_of_neg p q; omega
    simp [p, q, this]
  · have : a * b < 0 := Int.mul_neg_of_neg_of_pos p (by omega)
    simp [p, q, this]
  · have : a * b < 0 := Int.mul_neg_of_pos_of_neg (by omega) q
    simp [p, q, this]
  · have : ¬ a * b < 0 := by have := Int.mul_nonneg (by omega : 0 ≤ a) (by omega : 0 ≤ b); omega
    simp [p, q, this]
theorem FV.order {x y : Nat} {a b : Int} (hx : FV x a) (hy : FV y b) : double.order x y = some (compare a b) := by
  obtain ⟨s, m, i, h1, h2, h3⟩ := hx.signed
  obtain ⟨t, n, j, g1, g2, g3⟩ := hy.signed
  unfold Format.order
  rw [h1, g1]
  simp only [Datum.order]
  have e0 : min (-(i : Int)) (-(j : Int)) = -((max i j : Nat) : Int) := by omega
  rw [e0, h3, g3]
  have e1 : i + (-(i : Int) - -((max i j : Nat) : Int)).toNat = max i j := by omega
  have e2 : j + (-(j : Int) - -((max i j : Nat) : Int)).toNat = max i j := by omega
  rw [e1, e2]
  have hp := Nat.two_pow_pos (max i j)
  have hp' : (0 : Int) < ((2 ^ max i j : Nat) : Int) := by omega
  congr 1
  simp only [compare, compareOfLessAndEq]
  have l1 : a * ((2 ^ max i j : Nat) : Int) < b * ((2 ^ max i j : Nat) : Int) ↔ a < b := Int.mul_lt_mul_right hp'
  have l2 : a * ((2 ^ max i j : Nat) : Int) = b * ((2 ^ max i j : Nat) : Int) ↔ a = b := Int.mul_eq_mul_right_iff (by omega)
  simp only [l1, l2]
theorem FV.ofInt {n : Int} (h : n.natAbs < 2 ^ 53) : FV (FloatKind.f64.nearest n) n := by
  have := FV.write (s := decide (n < 0)) (n := n) (k := 0) h (fun _ => rfl)
  have h2 : FV (double.write (.number (decide (n < 0)) n.natAbs 0)) n := by simpa using this
  exact h2
theorem cut_zero {n d : Nat} : Toward.zero.cut false n d = n / 2 ^ d := by
  unfold Toward.cut
  have e1 : 1 <<< min d (n.log2 + 2) = 2 ^ min d (n.log2 + 2) := by rw [Nat.one_shiftLeft]
  simp only [e1, Bool.toNat_false, Nat.add_zero]
  by_cases h : d ≤ n.log2 + 2
  · rw [Nat.min_eq_left h]
  · rw [Nat.min_eq_right (by omega)]
    have h1 := Nat.lt_log2_self (n := n)
    have h2 : 2 ^ (n.log2 + 1) ≤ 2 ^ (n.log2 + 2) := Nat.pow_le_pow_right (by omega) (by omega)
    have h3 : 2 ^ (n.log2 + 2) ≤ 2 ^ d := Nat.pow_le_pow_right (by omega) (by omega)
    rw [Nat.div_eq_of_lt (by omega), Nat.div_eq_of_lt (by omega)]
theorem toInt_pos {m k : Nat} : (Datum.number false m (-(k : Int))).toInt .zero = some ((m / 2 ^ k : Nat) : Int) := by
  unfold Datum.toInt
  simp only [Datum.integral]
  have e1 : (-(k : Int)).toNat = 0 := by omega
  have e2 : (-(-(k : Int))).toNat = k := by omega
  rw [e1, e2, Nat.shiftLeft_zero, cut_zero]
  simp [Ieee.signed]
theorem FV.div {x : Nat} {a : Nat} (hx : FV x a) (h : a < 2097152) : ∃ z, double.div x 4652007308841189376 = some z ∧ (double.read z).toInt .zero = some ((a / 1000 : Nat) : Int) := by
  have hc : double.read 4652007308841189376 = .number false (1000 * 2 ^ 43) (-43) := by decide +kernel
  obtain ⟨h0, ⟨ha, s, hr⟩ | ⟨hn, hr⟩⟩ := hx
  · have ha0 : a = 0 := by omega
    subst ha0
    unfold Format.div
    rw [hr, hc]
    refine ⟨_, rfl, ?_⟩
    cases s <;> decide +kernel
  · have hneg : decide ((a : Int) < 0) = false := decide_eq_false (by omega)
    rw [hneg] at hr
    simp only [Int.natAbs_natCast] at hr h0
    have ha : a ≠ 0 := by omega
    obtain ⟨L, hL⟩ : ∃ L, L = a.log2 := ⟨_, rfl⟩
    have hL20 : L ≤ 20 := by
      have := (Nat.log2_lt ha (k := 21)).2 (by omega)
      omega
    have g1 := Nat.log2_self_le ha
    have g2 := Nat.lt_log2_self (n := a)
    rw [← hL] at hr g1 g2
    obtain ⟨V, hV⟩ : ∃ V, V = 2 ^ (61 - L) := ⟨_, rfl⟩
    have hV1 : 2 ^ 41 ≤ V := by rw [hV]; exact Nat.pow_le_pow_right (by omega) (by omega)
    have hcan : canon a = a * 2 ^ (52 - L) := by unfold canon; rw [← hL]
    have hcl : (canon a).log2 = 52 := by rw [hcan, log2_shift ha, ← hL]; omega
    have hnl : (1000 * 2 ^ 43).log2 = 52 := by decide +kernel
    have hX1 : 2 ^ 63 ≤ a * (4 * V) := by
      have : 2 ^ 63 = 2 ^ L * (4 * V) := by
        rw [hV, show (4 : Nat) = 2 ^ 2 from rfl, ← Nat.pow_add, ← Nat.pow_add]; congr 1; omega
      rw [this]; exact Nat.mul_le_mul_right _ g1
    have hX2 : a * (4 * V) < 2 ^ 64 := by
      have : 2 ^ 64 = 2 ^ (L + 1) * (4 * V) := by
        rw [hV, show (4 : Nat) = 2 ^ 2 from rfl, ← Nat.pow_add, ← Nat.pow_add]; congr 1; omega
      rw [this]; exact Nat.mul_lt_mul_of_pos_right g2 (by omega)
    have hdv : canon a <<< 54 = a * (4 * V) * 2 ^ 43 := by
      rw [hcan, Nat.shiftLeft_eq, hV, show (4 : Nat) = 2 ^ 2 from rfl, Nat.mul_assoc, Nat.mul_assoc, ← Nat.pow_add, Nat.mul_assoc, ← Nat.pow_add, ← Nat.pow_add]
      congr 2; omega
    have hq : (canon a <<< 54) / (1000 * 2 ^ 43) = a * (4 * V) / 1000 := by rw [hdv]; exact Nat.mul_div_mul_right _ _ (by omega)
    obtain ⟨bit, hbit⟩ : ∃ bit, bit = ((canon a <<< 54) % (1000 * 2 ^ 43) != 0).toNat := ⟨_, rfl⟩
    have hb1 : bit ≤ 1 := by rw [hbit]; cases ((canon a <<< 54) % (1000 * 2 ^ 43) != 0) <;> decide
    obtain ⟨q, hqq⟩ : ∃ q, q = a * (4 * V) / 1000 := ⟨_, rfl⟩
    obtain ⟨M, hM⟩ : ∃ M, M = 2 * q + bit := ⟨_, rfl⟩
    have hdiv : double.div x 4652007308841189376 = some (double.nearest false M ((L : Int) - 64)) := by
      unfold Format.div
      rw [hr, hc]
      simp only [Datum.quotient, Option.map_some]
      have hne : ¬ 1000 * 2 ^ 43 = 0 := by decide
      have hm : double.fractionBits + 2 + (1000 * 2 ^ 43).log2 - (canon a).log2 = 54 := by rw [hnl, hcl]; rfl
      rw [if_neg hne, hm, hq, ← hbit, ← hqq, ← hM]
      have e1 : (L : Int) - 52 - -43 - ((54 : Nat) : Int) - 1 = (L : Int) - 64 := by omega
      rw [e1]
      rfl
    refine ⟨_, hdiv, ?_⟩
    have hq1 : 1000 * q ≤ a * (4 * V) ∧ a * (4 * V) < 1000 * q + 1000 := by omega
    have hM1 : 18446744073709550 ≤ M := by omega
    have hM2 : M ≤ 36893488147419103 := by omega
    -- what is asked of the significand
    obtain ⟨k, hk⟩ : ∃ k, k = a / 1000 := ⟨_, rfl⟩
    obtain ⟨r, hr'⟩ : ∃ r, r = a % 1000 := ⟨_, rfl⟩
    have hakr : a = 1000 * k + r := by omega
    have hXe : a * (4 * V) = 4000 * (k * V) + 4 * (r * V) := by rw [hakr, Nat.add_mul]; simp only [Nat.mul_assoc, Nat.mul_left_comm k, Nat.mul_left_comm r]; omega
    have hrV : r * V ≤ 999 * V := Nat.mul_le_mul_right _ (by omega)
    have key : ∀ kept g : Nat, (g = 4 ∨ g = 8) → M / g ≤ kept → kept ≤ M / g + 1 → kept / ((8 / g) * V) = k := by
      intro kept g hg l1 l2
      have hkV : k * (2 * V) = 2 * (k * V) := by rw [Nat.mul_left_comm]
      have hlo : k * ((8 / g) * V) ≤ kept ∧ kept < k * ((8 / g) * V) + (8 / g) * V := by
        rcases hg with rfl | rfl
        · simp only [show 8 / 4 = 2 from rfl]; rw [hkV]; omega
        · simp only [show 8 / 8 = 1 from rfl, Nat.one_mul]; omega
      have hpos : 0 < (8 / g) * V := by rcases hg with rfl | rfl <;> simp only [show 8 / 4 = 2 from rfl, show 8 / 8 = 1 from rfl] <;> omega
      refine Nat.div_eq_of_lt_le hlo.1 ?_
      rw [Nat.add_mul, Nat.one_mul]; exact hlo.2
    have hM0 : M ≠ 0 := by omega
    have hlp : double.leastPlace = -1074 := by decide
    have hf : double.fractionBits = 52 := rfl
    have fin : ∀ (D : Nat), (D = 2 ∨ D = 3) → M.log2 = 52 + D → (double.read (double.nearest false M ((L : Int) - 64))).toInt .zero = some ((k : Nat) : Int) := by
      intro D hD hlog
      unfold Format.nearest
      rw [if_neg hM0]
      simp only [hlog, hlp, hf]
      have e1 : max ((L : Int) - 64 + ((52 + D : Nat) : Int) - ((52 : Nat) : Int)) (-1074) = (L : Int) - 64 + D := by omega
      rw [e1]
      have e2 : ((L : Int) - 64 - ((L : Int) - 64 + D)).toNat = 0 := by omega
      have e3 : ((L : Int) - 64 + D - ((L : Int) - 64)).toNat = D := by omega
      have e4 : ((L : Int) - 64 + D - -1074).toNat = L + D + 1010 := by omega
      rw [e2, e3, e4, Nat.shiftLeft_zero]
      obtain ⟨kept, hkept⟩ : ∃ kept, kept = Toward.even.cut false M D := ⟨_, rfl⟩
      rw [← hkept]
      have hgap : 1 <<< min D (M.log2 + 2) = 2 ^ D := by rw [Nat.min_eq_left (by omega), Nat.one_shiftLeft]
      have hkb : M / 2 ^ D ≤ kept ∧ kept ≤ M / 2 ^ D + 1 := by
        rw [hkept]
        unfold Toward.cut
        rw [hgap]
        simp only
        generalize (decide (2 ^ D < 2 * (M % 2 ^ D)) || (2 ^ D == 2 * (M % 2 ^ D) && M / 2 ^ D % 2 == 1)) = bb
        cases bb <;> simp
      have hk2 := key kept (2 ^ D) (by rcases hD with rfl | rfl <;> simp) hkb.1 hkb.2
      have hlog1 := Nat.log2_self_le hM0
      have hlog2 := Nat.lt_log2_self (n := M)
      rw [hlog] at hlog1 hlog2
      have hkr : 2 ^ 52 ≤ kept ∧ kept ≤ 2 ^ 53 := by rcases hD with rfl | rfl <;> simp only [Nat.reducePow, Nat.reduceAdd] at hlog1 hlog2 hkb ⊢ <;> omega
      have hVD : 8 / 2 ^ D * V = 2 ^ (64 - L - D) := by
        rw [hV]
        rcases hD with rfl | rfl
        · have u1 : (8 / 2 ^ 2 : Nat) = 2 ^ 1 := by decide
          have u2 : 1 + (61 - L) = 64 - L - 2 := by omega
          rw [u1, ← Nat.pow_add, u2]
        · have u1 : (8 / 2 ^ 3 : Nat) = 2 ^ 0 := by decide
          have u2 : 0 + (61 - L) = 64 - L - 3 := by omega
          rw [u1, ← Nat.pow_add, u2]
      rw [hVD] at hk2
      by_cases hcar : kept < 2 ^ 53
      · rw [read_word hkr.1 hcar (by omega), hlp]
        have e5 : (-1074 : Int) + ((L + D + 1010 : Nat) : Int) = -((64 - L - D : Nat) : Int) := by omega
        rw [e5, toInt_pos, hk2]
      · have hke : kept = 2 ^ 53 := by omega
        have e6 : (L + D + 1010) * double.binade + kept = (L + D + 1010 + 1) * double.binade + 2 ^ 52 := by
          have hb : double.binade = 4503599627370496 := by decide
          rw [hb, hke]; omega
        rw [e6, read_word (Nat.le_refl _) (by omega) (by omega), hlp]
        have e5 : (-1074 : Int) + ((L + D + 1010 + 1 : Nat) : Int) = -((64 - L - D - 1 : Nat) : Int) := by omega
        rw [e5, toInt_pos]
        rw [← hk2, hke]
        have e7 : 2 ^ (64 - L - D) = 2 ^ (64 - L - D - 1) * 2 := by
          have u3 : 64 - L - D = (64 - L - D - 1) + 1 := by omega
          exact (congrArg (2 ^ ·) u3).trans (Nat.pow_succ ..)
        have e8 : (9007199254740992 : Nat) / 2 = 4503599627370496 := by decide
        rw [e7, Nat.mul_comm _ 2, ← Nat.div_div_eq_div_mul]
    have hMl : M.log2 = 54 ∨ M.log2 = 55 := by
      have l1 : ¬ M.log2 < 54 := fun h => by have := (Nat.log2_lt hM0).1 h; omega
      have l2 : M.log2 < 56 := (Nat.log2_lt hM0).2 (by omega)
      omega
    rw [← hk]
    rcases hMl with h | h
    · exact fin 2 (.inl rfl) h
    · exact fin 3 (.inr rfl) h
/-! the operations -/
open Sh Sl
section
theorem guard_flt (op : BinOp) (t : TypeId) (x y : Operand) (k k' : FloatKind) (a b : Nat) (w : World) : (eqGuard op t x y (.float k a) (.float k' b)).run P w = .ok () w := by
  unfold eqGuard; split <;> rfl
theorem guard_cpl (op : BinOp) (t : TypeId) (x y : Operand) (k k' : FloatKind) (a b c d : Nat) (w : World) : (eqGuard op t x y (.complex k a b) (.complex k' c d)).run P w = .ok () w := by
  unfold eqGuard; split <;> rfl
variable {t : TypeId} {X Y : Operand}
theorem st_fmul {x y : Nat} {a b : Int} (hx : FV x a) (hy : FV y b) (h : (a * b).natAbs < 2 ^ 53) : ∃ z, FV z (a * b) ∧ Pu (bS .mul t X Y (.float .f64 x) (.float .f64 y)) (.float .f64 z) := by
  obtain ⟨z, h1, h2⟩ := hx.mul hy h
  exact ⟨z, h2, still_bS (guard_flt _ _ _ _ _ _ _ _) fun w => run_float_arith w _ _ _ _ _ _ h1⟩
theorem st_fadd {x y : Nat} {a b : Int} (hx : FV x a) (hy : FV y b) (h : (a + b).natAbs < 2 ^ 53) : ∃ z, FV z (a + b) ∧ Pu (bS .add t X Y (.float .f64 x) (.float .f64 y)) (.float .f64 z) := by
  obtain ⟨z, h1, h2⟩ := hx.add hy h
  exact ⟨z, h2, still_bS (guard_flt _ _ _ _ _ _ _ _) fun w => run_float_arith w _ _ _ _ _ _ h1⟩
theorem st_fsub {x y : Nat} {a b : Int} (hx : FV x a) (hy : FV y b) (h : (a - b).natAbs < 2 ^ 53) : ∃ z, FV z (a - b) ∧ Pu (bS .sub t X Y (.float .f64 x) (.float .f64 y)) (.float .f64 z) := by
  obtain ⟨z, h1, h2⟩ := hx.sub hy h
  exact ⟨z, h2, still_bS (guard_flt _ _ _ _ _ _ _ _) fun w => run_float_arith w _ _ _ _ _ _ h1⟩
theorem st_fquo {x : Nat} {a : Nat} (hx : FV x a) (h : a < 2097152) : ∃ z, (double.read z).toInt .zero = some ((a / 1000 : Nat) : Int) ∧ Pu (bS .quo t X Y (.float .f64 x) (.float .f64 4652007308841189376)) (.float .f64 z) := by
  obtain ⟨z, h1, h2⟩ := FV.div hx h
  exact ⟨z, h2, still_bS (guard_flt _ _ _ _ _ _ _ _) fun w => run_float_arith w _ _ _ _ _ _ h1⟩
theorem st_fint {s d : TypeId} {z : Nat} {n : Int} (hs : dd s = some (.flt .f64)) (hd : dd d = some (.int .i64)) (h : (double.read z).toInt .zero = some n) (hr : inR .i64 n) : Pu (vS (convert s d (.float .f64 z))) (.int .i64 n) :=
  Still.of_run fun w => run_convert_float_int w _ _ _ _ _ _ (by rw [dd_flt hs]; rfl) (dd_int hd) (by
    have h' : (FloatKind.f64.decode z).toInt .zero = some n := h
    unfold floatToIntVal
    rw [h']
    exact if_pos hr)
theorem st_tofl {s d : TypeId} {k : IntKind} {n : Int} (hs : dd s = some (.int k)) (hd : dd d = some (.flt .f64)) (h : n.natAbs < 2 ^ 53) : ∃ z, FV z n ∧ Pu (vS (convert s d (.int k n))) (.float .f64 z) :=
  ⟨_, FV.ofInt h, Still.of_run fun w => by simp [convert, run_underlying (dd_int hs), run_underlying (dd_flt hd), Conv.intToFloat]⟩
theorem ord {x y : Nat} {a b : Int} (hx : FV x a) (hy : FV y b) : FloatKind.f64.format.order x y = some (compare a b) := hx.order hy
theorem st_fleq {x y : Nat} {a b : Int} (hx : FV x a) (hy : FV y b) : Pu (bS .leq t X Y (.float .f64 x) (.float .f64 y)) (.bool (decide (a ≤ b))) :=
  still_bS (guard_flt _ _ _ _ _ _ _ _) fun w => by
    simp only [binOp, Op.floatCmp, ord hx hy, ne_eq, not_true_eq_false, if_false, Sem.run_pure]
    congr 2
    simp only [compare, compareOfLessAndEq]
    by_cases h1 : a < b
    · simp [h1]; omega
    · by_cases h2 : a = b
      · simp [h2]
      · simp [h1, h2]; omega
theorem st_flss {x y : Nat} {a b : Int} (hx : FV x a) (hy : FV y b) : Pu (bS .lss t X Y (.float .f64 x) (.float .f64 y)) (.bool (decide (a < b))) :=
  still_bS (guard_flt _ _ _ _ _ _ _ _) fun w => by
    simp only [binOp, Op.floatCmp, ord hx hy, ne_eq, not_true_eq_false, if_false, Sem.run_pure]
    congr 2
    simp only [compare, compareOfLessAndEq]
    by_cases h1 : a < b
    · simp [h1]
    · by_cases h2 : a = b
      · simp [h2]
      · simp [h1, h2]
theorem st_feq {x y : Nat} {a b : Int} (hx : FV x a) (hy : FV y b) : Pu (bS .eql t X Y (.float .f64 x) (.float .f64 y)) (.bool (decide (a = b))) :=
  still_bS (guard_flt _ _ _ _ _ _ _ _) fun w => by
    simp only [binOp, Op.floatCmp, ord hx hy, ne_eq, not_true_eq_false, if_false, Sem.run_pure]
    congr 2
    simp only [compare, compareOfLessAndEq]
    by_cases h1 : a < b
    · simp [h1]; omega
    · by_cases h2 : a = b
      · simp [h2]
      · simp [h1, h2]
theorem st_fmin {x y : Nat} {a b : Int} {u v : TypeId} (hx : FV x a) (hy : FV y b) : ∃ z, FV z (min a b) ∧ Pu (vS (Builtin.min_ #[u, v] t #[.float .f64 x, .float .f64 y])) (.float .f64 z) := by
  have ho := ord hx hy
  by_cases h1 : a < b
  · refine ⟨x, by rw [Int.min_eq_left (by omega)]; exact hx, Still.of_run fun w => ?_⟩
    have : compare a b = .lt := by simp [compare, compareOfLessAndEq, h1]
    rw [this] at ho
    simp [Builtin.min_, Builtin.min2, ho]
  · by_cases h2 : a = b
    · refine ⟨if (FloatKind.f64.decode x).neg then x else y, ?_, Still.of_run fun w => ?_⟩
      · subst h2
        rw [Int.min_self]
        split <;> assumption
      · have : compare a b = .eq := by simp [compare, compareOfLessAndEq, h2]
        rw [this] at ho
        simp [Builtin.min_, Builtin.min2, ho]
    · refine ⟨y, by rw [Int.min_eq_right (by omega)]; exact hy, Still.of_run fun w => ?_⟩
      have : compare a b = .gt := by simp [compare, compareOfLessAndEq, h1, h2]
      rw [this] at ho
      simp [Builtin.min_, Builtin.min2, ho]
theorem st_cplx {x y : Nat} {u v : TypeId} : Pu (vS (Builtin.complex_ #[u, v] t #[.float .f64 x, .float .f64 y])) (.complex .f64 x y) := Still.of_run fun w => rfl
theorem st_real {x y : Nat} {u : TypeId} : Pu (vS (Builtin.real_ #[u] t #[.complex .f64 x y])) (.float .f64 x) := Still.of_run fun w => rfl
theorem st_imag {x y : Nat} {u : TypeId} : Pu (vS (Builtin.imag_ #[u] t #[.complex .f64 x y])) (.float .f64 y) := Still.of_run fun w => rfl
theorem st_csub {x y x' y' : Nat} {a b a' b' : Int} (hx : FV x a) (hy : FV y b) (hx' : FV x' a') (hy' : FV y' b') (h1 : (a - a').natAbs < 2 ^ 53) (h2 : (b - b').natAbs < 2 ^ 53) :
    ∃ z z', FV z (a - a') ∧ FV z' (b - b') ∧ Pu (bS .sub t X Y (.complex .f64 x y) (.complex .f64 x' y')) (.complex .f64 z z') := by
  obtain ⟨z, g1, g2⟩ := hx.sub hx' h1
  obtain ⟨z', g3, g4⟩ := hy.sub hy' h2
  refine ⟨z, z', g2, g4, still_bS (guard_cpl _ _ _ _ _ _ _ _ _ _) fun w => ?_⟩
  have e1 : FloatKind.f64.format.sub x x' = some z := g1
  have e2 : FloatKind.f64.format.sub y y' = some z' := g3
  simp [binOp, Op.complexOp, Op.Complex.arith, Op.floatArith, e1, e2]
theorem fv0 : FV 0 0 := ⟨by decide, .inl ⟨rfl, false, by decide +kernel⟩⟩
theorem fv1000 : FV 4652007308841189376 1000 := ⟨by decide, .inr ⟨by decide, by decide +kernel⟩⟩
end
end Go.Proofs.YtfofnagocedlgaaDoor.Fl
end
section
/-
  THE LRU LIST (layer 20): what its functions do to the tried ones and the kept ones.
-/
set_option maxRecDepth 100000
set_option linter.unusedVariables false
set_option linter.unusedSectionVars false
set_option linter.unusedSimpArgs false
set_option maxHeartbeats 0
namespace Go.Proofs.YtfofnagocedlgaaDoor.Lr
open Go Sh Sl Fl
attribute [local irreducible] condK ArK NilK OpK FnK StK joinK loopK DrawK andK PuK NxK EnK vS uS bS callS invokeS
/-- a place: the words of its turn and of its segment -/
abbrev cv (p : Nat × Nat) : Value := .complex .f64 p.1 p.2
structure LOk (m : List (Int × Nat × Nat)) (tr kp : List Int) (t : Nat) : Prop where
  ids : ∀ x, x ∈ tr ++ kp → 0 ≤ x ∧ x < 64
  nd : (tr ++ kp).Nodup
  keys : ∀ x, x ∈ tr ++ kp ↔ ∃ p, mfind x m = some p
  kn : (m.map (·.1)).Nodup
  g : ∃ g : Int → Nat, (∀ x, x ∈ tr ++ kp → g x ≤ t) ∧ (∀ x p, mfind x m = some p → FV p.1 (g x) ∧ FV p.2 (if x ∈ kp then 1 else 0)) ∧ tr.Pairwise (fun a b => g b < g a) ∧ kp.Pairwise (fun a b => g b < g a)
def LRep (b : Nat) (tr kp : List Int) (most n : Nat) : HProp := exs fun (x : Nat × Nat × Nat × List (Int × Nat × Nat)) =>
  sepL [pur (LOk x.2.2.2 tr kp x.2.2.1 ∧ FV x.2.1 (x.2.2.1 : Nat) ∧ x.2.2.1 ≤ n ∧ most ≤ 64), pt b [.map (some x.1), .float .f64 x.2.1, .int .i64 most], Mp (intK .i64) cv x.1 x.2.2.2]
theorem mem_mfind {α β : Type} [DecidableEq α] {m : List (α × β)} (hn : (m.map (·.1)).Nodup) {a : α} {b : β} (h : (a, b) ∈ m) : mfind a m = some b := by
  induction m with
  | nil => cases h
  | cons p m ih =>
    simp only [List.map_cons, List.nodup_cons] at hn
    simp only [mfind]
    rcases List.mem_cons.1 h with rfl | h
    · simp
    · rw [if_neg, ih hn.2 h]
      intro e
      exact hn.1 (e ▸ List.mem_map.2 ⟨_, h, rfl⟩)
theorem mfind_set {α β : Type} [DecidableEq α] (a x : α) (b : β) : ∀ m : List (α × β), mfind x (mset a b m) = if x = a then some b else mfind x m
  | [] => by simp only [mset, mfind]; split <;> split <;> simp_all
  | p :: m => by
    simp only [mset]
    split
    · rename_i h
      subst h
      simp only [mfind]
      by_cases hx : x = p.1
      · rw [if_pos hx.symm, if_pos hx]
      · rw [if_neg (Ne.symm hx), if_neg hx, if_neg (Ne.symm hx)]
    · rename_i h
      simp only [mfind, mfind_set a x b m]
      by_cases hx : p.1 = x
      · rw [if_pos hx, if_pos hx, if_neg (by rw [← hx]; exact h)]
      · rw [if_neg hx, if_neg hx]
theorem keys_set {α β : Type} [DecidableEq α] (a : α) (b : β) : ∀ m : List (α × β), (m.map (·.1)).Nodup → ((mset a b m).map (·.1)).Nodup ∧ ∀ x, x ∈ (mset a b m).map (·.1) → x = a ∨ x ∈ m.map (·.1)
  | [], _ => ⟨by simp [mset], fun x h => by simpa [mset] using h⟩
  | p :: m, hn => by
    simp only [List.map_cons, List.nodup_cons] at hn
    obtain ⟨h1, h2⟩ := keys_set a b m hn.2
    simp only [mset]
    split
    · rename_i h
      exact ⟨by simpa using hn, fun x hx => .inr hx⟩
    · rename_i h
      refine ⟨?_, fun x hx => ?_⟩
      · simp only [List.map_cons, List.nodup_cons]
        refine ⟨fun hx => ?_, h1⟩
        rcases h2 _ hx with e | e
        · exact h e
        · exact hn.1 e
      · simp only [List.map_cons, List.mem_cons] at hx ⊢
        rcases hx with rfl | hx
        · exact .inr (.inl rfl)
        · rcases h2 _ hx with e | e
          · exact .inl e
          · exact .inr (.inr e)
theorem mdel_spec {α β : Type} [DecidableEq α] (a : α) : ∀ m : List (α × β), (m.map (·.1)).Nodup → ((mdel a m).map (·.1)).Nodup ∧ (∀ x, x ∈ (mdel a m).map (·.1) → x ∈ m.map (·.1)) ∧ ∀ x, mfind x (mdel a m) = if x = a then none else mfind x m
  | [], _ => ⟨by simp [mdel], fun x h => by simp [mdel] at h, fun x => by simp [mdel, mfind]⟩
  | p :: m, hn => by
    simp only [List.map_cons, List.nodup_cons] at hn
    obtain ⟨h1, h2, h3⟩ := mdel_spec a m hn.2
    simp only [mdel]
    split
    · rename_i h
      subst h
      refine ⟨hn.2, fun x hx => by simp [hx], fun x => ?_⟩
      simp only [mfind]
      by_cases hx : x = p.1
      · rw [if_pos hx]
        cases hm : mfind x m with
        | none => rfl
        | some b => exact absurd (List.mem_map.2 ⟨_, mfind_mem hm, rfl⟩) (by rw [hx]; exact hn.1)
      · rw [if_neg hx, if_neg (Ne.symm hx)]
    · rename_i h
      refine ⟨?_, fun x hx => ?_, fun x => ?_⟩
      · simp only [List.map_cons, List.nodup_cons]
        exact ⟨fun hx => hn.1 (h2 _ hx), h1⟩
      · simp only [List.map_cons, List.mem_cons] at hx ⊢
        rcases hx with rfl | hx
        · exact .inl rfl
        · exact .inr (h2 _ hx)
      · simp only [mfind, h3]
        by_cases hx : p.1 = x
        · rw [if_pos hx, if_pos hx, if_neg (by rw [← hx]; exact h)]
        · rw [if_neg hx, if_neg hx]
abbrev out (l : List Int) (x : Int) : List Int := l.filter (· ≠ x)
theorem mem_out {l : List Int} {x y : Int} : y ∈ out l x ↔ y ∈ l ∧ y ≠ x := by simp [out]
theorem nodup_app {a b : List Int} : (a ++ b).Nodup ↔ a.Nodup ∧ b.Nodup ∧ ∀ x, x ∈ a → x ∉ b := by
  rw [List.nodup_append]
  constructor
  · rintro ⟨h1, h2, h3⟩; exact ⟨h1, h2, fun x hx hb => h3 x hx x hb rfl⟩
  · rintro ⟨h1, h2, h3⟩; exact ⟨h1, h2, fun x hx y hy e => h3 x hx (e ▸ hy)⟩
theorem LOk.empty : LOk [] [] [] 0 := ⟨by simp, by simp, by simp [mfind], by simp, fun _ => 0, by simp, by simp [mfind], by simp, by simp⟩
/-- put first into the tried ones, or into the kept ones -/
theorem LOk.put {m : List (Int × Nat × Nat)} {tr kp : List Int} {t : Nat} {x : Int} {w v : Nat} {s : Bool} (h : LOk m tr kp t) (hx : 0 ≤ x ∧ x < 64) (hw : FV w ((t + 1 : Nat) : Int)) (hv : FV v (if s then 1 else 0)) :
    LOk (mset x (w, v) m) (if s then out tr x else x :: out tr x) (if s then x :: out kp x else out kp x) (t + 1) := by
  obtain ⟨h1, h2, h3, h4, g, g1, g2, g3, g4⟩ := h
  have hmem : ∀ y, y ∈ (if s then out tr x else x :: out tr x) ++ (if s then x :: out kp x else out kp x) ↔ y = x ∨ y ∈ tr ++ kp := by
    intro y
    cases s <;> simp only [List.mem_append, mem_out, List.mem_cons, if_true, Bool.false_eq_true, if_false] <;> by_cases e : y = x <;> simp [e]
  have hkp : ∀ y, y ≠ x → (y ∈ (if s then x :: out kp x else out kp x) ↔ y ∈ kp) := by
    intro y hy
    cases s <;> simp [mem_out, hy]
  obtain ⟨n1, n2, n3⟩ := nodup_app.1 h2
  refine ⟨fun y hy => ?_, ?_, fun y => ?_, (keys_set x (w, v) m h4).1, fun y => if y = x then t + 1 else g y, fun y hy => ?_, fun y p hp => ?_, ?_, ?_⟩
  · rcases (hmem y).1 hy with rfl | hy
    · exact hx
    · exact h1 y hy
  · have o1 : (out tr x).Nodup := n1.filter _
    have o2 : (out kp x).Nodup := n2.filter _
    rw [nodup_app]
    cases s <;> simp only [Bool.false_eq_true, if_false, if_true, List.nodup_cons]
    · exact ⟨⟨by simp [mem_out], o1⟩, o2, fun y hy hk => by
        rw [mem_out] at hk
        rcases List.mem_cons.1 hy with rfl | hy
        · exact hk.2 rfl
        · exact n3 y (mem_out.1 hy).1 hk.1⟩
    · exact ⟨o1, ⟨by simp [mem_out], o2⟩, fun y hy hk => by
        rw [mem_out] at hy
        rcases List.mem_cons.1 hk with rfl | hk
        · exact hy.2 rfl
        · exact n3 y hy.1 (mem_out.1 hk).1⟩
  · rw [hmem, mfind_set]
    by_cases e : y = x
    · simp [e]
    · rw [if_neg e, ← h3]; simp [e]
  · dsimp only
    rcases (hmem y).1 hy with rfl | hy
    · simp
    · split
      · omega
      · have := g1 y hy; omega
  · dsimp only
    rw [mfind_set] at hp
    by_cases e : y = x
    · subst e
      simp only [if_true, Option.some.injEq] at hp ⊢
      subst hp
      refine ⟨hw, ?_⟩
      cases s <;> simpa [mem_out] using hv
    · rw [if_neg e] at hp
      have := g2 y p hp
      rw [if_neg e]
      refine ⟨this.1, ?_⟩
      have hk := hkp y e
      by_cases hy : y ∈ kp
      · rw [if_pos (hk.2 hy)]; rw [if_pos hy] at this; exact this.2
      · rw [if_neg (fun q => hy (hk.1 q))]; rw [if_neg hy] at this; exact this.2
  · have base : (out tr x).Pairwise (fun a b => (if b = x then t + 1 else g b) < if a = x then t + 1 else g a) := by
      refine (g3.filter _).imp_of_mem fun {a b} ha hb hab => ?_
      rw [if_neg (mem_out.1 ha).2, if_neg (mem_out.1 hb).2]; exact hab
    cases s <;> simp only [Bool.false_eq_true, if_false, if_true]
    · refine List.pairwise_cons.2 ⟨fun y hy => ?_, base⟩
      rw [if_neg (mem_out.1 hy).2]
      have := g1 y (List.mem_append_left _ (mem_out.1 hy).1)
      simp; omega
    · exact base
  · have base : (out kp x).Pairwise (fun a b => (if b = x then t + 1 else g b) < if a = x then t + 1 else g a) := by
      refine (g4.filter _).imp_of_mem fun {a b} ha hb hab => ?_
      rw [if_neg (mem_out.1 ha).2, if_neg (mem_out.1 hb).2]; exact hab
    cases s <;> simp only [Bool.false_eq_true, if_false, if_true]
    · exact base
    · refine List.pairwise_cons.2 ⟨fun y hy => ?_, base⟩
      rw [if_neg (mem_out.1 hy).2]
      have := g1 y (List.mem_append_right _ (mem_out.1 hy).1)
      simp; omega
theorem LOk.rem {m : List (Int × Nat × Nat)} {tr kp : List Int} {t : Nat} {x : Int} (h : LOk m tr kp t) : LOk (mdel x m) (out tr x) (out kp x) t := by
  obtain ⟨h1, h2, h3, h4, g, g1, g2, g3, g4⟩ := h
  obtain ⟨d1, d2, d3⟩ := mdel_spec x m h4
  obtain ⟨n1, n2, n3⟩ := nodup_app.1 h2
  have hmem : ∀ y, y ∈ out tr x ++ out kp x ↔ y ∈ tr ++ kp ∧ y ≠ x := by
    intro y
    simp only [List.mem_append, mem_out]
    constructor
    · rintro (⟨a, b⟩ | ⟨a, b⟩)
      · exact ⟨.inl a, b⟩
      · exact ⟨.inr a, b⟩
    · rintro ⟨a | a, b⟩
      · exact .inl ⟨a, b⟩
      · exact .inr ⟨a, b⟩
  refine ⟨fun y hy => h1 y ((hmem y).1 hy).1, ?_, fun y => ?_, d1, g, fun y hy => g1 y ((hmem y).1 hy).1, fun y p hp => ?_, g3.filter _, g4.filter _⟩
  · exact nodup_app.2 ⟨n1.filter _, n2.filter _, fun y hy hk => n3 y (mem_out.1 hy).1 (mem_out.1 hk).1⟩
  · rw [hmem, d3]
    by_cases e : y = x
    · simp [e]
    · rw [if_neg e, ← h3]; simp [e]
  · rw [d3] at hp
    by_cases e : y = x
    · rw [if_pos e] at hp; cases hp
    · rw [if_neg e] at hp
      have := g2 y p hp
      refine ⟨this.1, ?_⟩
      have hk : y ∈ out kp x ↔ y ∈ kp := by simp [mem_out, e]
      by_cases hy : y ∈ kp
      · rw [if_pos (hk.2 hy)]; rw [if_pos hy] at this; exact this.2
      · rw [if_neg (fun q => hy (hk.1 q))]; rw [if_neg hy] at this; exact this.2
section
variable {e : Env} {rest ctx : List HProp} {tr kp : List Int} {most n : Nat}
theorem LRep.open {b : Nat} {c : WP} (h : ∀ r tw t m, LOk m tr kp t → FV tw (t : Nat) → t ≤ n → most ≤ 64 → Ent e (pt b [.map (some r), .float .f64 tw, .int .i64 most] :: Mp (intK .i64) cv r m :: rest) c) : Ent e (LRep b tr kp most n :: rest) c :=
  Ent.exs fun ⟨r, tw, t, m⟩ => Ent.g3 (Ent.pur fun ⟨h1, h2, h3, h4⟩ => h r tw t m h1 h2 h3 h4)
theorem LRep.imp {b r tw t : Nat} {m : List (Int × Nat × Nat)} (h1 : LOk m tr kp t) (h2 : FV tw (t : Nat)) (h3 : t ≤ n) (h4 : most ≤ 64) :
    Imp (pt b [.map (some r), .float .f64 tw, .int .i64 most] :: Mp (intK .i64) cv r m :: rest) (LRep b tr kp most n :: rest) :=
  Imp.exs (r, tw, t, m) (Imp.g3 (Imp.pur ⟨h1, h2, h3, h4⟩ (Imp.refl _)))
theorem LRep.fold {b r tw t : Nat} {m : List (Int × Nat × Nat)} {c : WP} (h1 : LOk m tr kp t) (h2 : FV tw (t : Nat)) (h3 : t ≤ n) (h4 : most ≤ 64) (h : Ent e (LRep b tr kp most n :: rest) c) :
    Ent e (pt b [.map (some r), .float .f64 tw, .int .i64 most] :: Mp (intK .i64) cv r m :: rest) c := h.imp (LRep.imp h1 h2 h3 h4)
theorem new_spec {K : Value → Int → WP} {kept : Int} (hbad : ¬ (0 ≤ kept ∧ kept ≤ 64) → Ent e rest (K (.pointer none) 1))
    (hok : ∀ b, 0 ≤ kept → kept ≤ 64 → Ent e (LRep b [] [] kept.toNat 0 :: rest) (K (.pointer (some ⟨b, 0, none⟩)) 0)) : Ent e rest (lru_New kept K) := by
  (refine Ent.fn lru_New_ok ?_; unfold lru_New_sh)
  refine Ent.condD (fun h => hbad (by omega)) fun h1 => ?_
  refine Ent.condD (fun h => hbad (by omega)) fun h2 => ?_
  refine Ent.mmake (intK .i64) cv fun r => ?_
  (refine Ent.go ?_)
  refine Ent.box' fun b => ?_
  obtain ⟨k, rfl⟩ := Int.eq_ofNat_of_zero_le (by omega : 0 ≤ kept)
  have := hok b (by omega) (by omega)
  rw [Int.toNat_natCast] at this
  exact LRep.fold LOk.empty fv0 (Nat.le_refl _) (by omega) this
theorem ready_spec {K : Int → WP} {b : Nat} {id : Int} {there : Bool} (h : Ent e (LRep b tr kp most n :: rest) (K (if id < 0 ∨ 64 ≤ id then 1 else if id ∈ tr ++ kp then (if there then 0 else 9) else (if there then 6 else 0)))) :
    Ent e (LRep b tr kp most n :: rest) (lru_List_ready (.pointer (some ⟨b, 0, none⟩)) id there K) := by
  (refine Ent.fn lru_List_ready_ok ?_; unfold lru_List_ready_sh)
  refine LRep.open fun r tw t m h1 h2 h3 h4 => ?_
  refine Ent.join ?_
  (refine Ent.go ?_)
  refine Ent.join ?_
  by_cases c1 : id < 0
  · rw [if_pos (.inl c1)] at h
    (refine Ent.go ?_)
    exact LRep.fold h1 h2 h3 h4 h
  by_cases c2 : 64 ≤ id
  · rw [if_pos (.inr c2)] at h
    (refine Ent.go ?_)
    exact LRep.fold h1 h2 h3 h4 h
  rw [if_neg (by omega)] at h
  (refine Ent.go ?_)
  refine Ent.mget2 (K := intK .i64) (vf := cv) (by (repeat (first | exact Has.hd | apply Has.tl))) rfl (dd_int rfl) (by kernel_rfl : zv 84 = some (.complex .f64 0 0)) (fun p hp => ?_) (fun hp => ?_)
  · rw [if_pos ((h1.keys id).2 ⟨p, hp⟩)] at h
    cases there <;> (refine Ent.go ?_; exact LRep.fold h1 h2 h3 h4 h)
  · rw [if_neg (fun hk => by obtain ⟨p, hq⟩ := (h1.keys id).1 hk; rw [hp] at hq; cases hq)] at h
    cases there <;> (refine Ent.go ?_; exact LRep.fold h1 h2 h3 h4 h)
theorem fv1 : FV 4607182418800017408 1 := ⟨by decide, .inr ⟨by decide, by decide +kernel⟩⟩
theorem st_cadd {t : TypeId} {X Y : Operand} {x y x' y' : Nat} {a b a' b' : Int} (hx : FV x a) (hy : FV y b) (hx' : FV x' a') (hy' : FV y' b') (h1 : (a + a').natAbs < 2 ^ 53) (h2 : (b + b').natAbs < 2 ^ 53) :
    ∃ z z', FV z (a + a') ∧ FV z' (b + b') ∧ Pu (bS .add t X Y (.complex .f64 x y) (.complex .f64 x' y')) (.complex .f64 z z') := by
  obtain ⟨z, g1, g2⟩ := hx.add hx' h1
  obtain ⟨z', g3, g4⟩ := hy.add hy' h2
  refine ⟨z, z', g2, g4, still_bS (Fl.guard_cpl _ _ _ _ _ _ _ _ _ _) fun w => ?_⟩
  have e1 : FloatKind.f64.format.add x x' = some z := g1
  have e2 : FloatKind.f64.format.add y y' = some z' := g3
  simp [binOp, Op.complexOp, Op.Complex.arith, Op.floatArith, e1, e2]
/-- the segment's value -/
abbrev sg (s : Bool) : Value := .complex .f64 0 (if s then 4607182418800017408 else 0)
theorem put_spec {K : Value → WP} {b : Nat} {id : Int} {s : Bool} (hid : 0 ≤ id ∧ id < 64) (hn : n < 4503599627370496)
    (h : Ent e (LRep b (if s then out tr id else id :: out tr id) (if s then id :: out kp id else out kp id) most (n + 1) :: rest) (K (.tuple #[]))) :
    Ent e (LRep b tr kp most n :: rest) (lru_List_put (.pointer (some ⟨b, 0, none⟩)) id (sg s) K) := by
  (refine Ent.fn lru_List_put_ok ?_; unfold lru_List_put_sh)
  refine LRep.open fun r tw t m h1 h2 h3 h4 => ?_
  (refine Ent.go ?_)
  obtain ⟨z, v, p⟩ := st_fadd (t := 68) (X := .tmp 9) (Y := .const (.float .f64 4607182418800017408)) h2 fv1 (by omega)
  refine Ent.opR p.still ?_
  (refine Ent.go ?_)
  refine Ent.puR st_cplx ?_
  have hsg : FV (if s then 4607182418800017408 else 0) (if s then 1 else 0) := by cases s; exact fv0; exact fv1
  obtain ⟨z1, z2, g1, g2, g3⟩ := st_cadd (t := 84) (X := .tmp 22) (Y := .tmp 23) v fv0 fv0 hsg (by omega) (by cases s <;> decide)
  refine Ent.puR g3 ?_
  have e1 : (t : Int) + 1 + 0 = ((t + 1 : Nat) : Int) := by omega
  have e2 : (0 : Int) + (if s = true then 1 else 0) = if s = true then 1 else 0 := by omega
  rw [e1] at g1
  rw [e2] at g2
  have e3 : (t : Int) + 1 = ((t + 1 : Nat) : Int) := by omega
  rw [e3] at v
  refine Ent.mset (K := intK .i64) (vf := cv) (b := (z1, z2)) (by (repeat (first | exact Upd.hd | apply Upd.tl))) rfl (dd_int rfl) ?_
  exact LRep.fold (h1.put hid g1 g2) v (by omega) h4 h
end
/-! ## the order -/
/-- the turn of a member, 0 of another -/
def tn (m : List (Int × Nat × Nat)) (g : Int → Nat) (x : Int) : Nat := if (mfind x m).isSome then g x else 0
/-- how two members are compared -/
def cf (G : Int → Nat) (x y : Int) : Int := if G y < G x then -1 else if G x < G y then 1 else 0
theorem cf_lt {G : Int → Nat} {x y : Int} : cf G x y < 0 ↔ G y < G x := by
  unfold cf; split
  · simp_all
  · split <;> simp_all <;> omega
theorem cf_swo (G : Int → Nat) : Go.Sort.SWO (ltOf (cf G)) :=
  ⟨fun x => by simp [ltOf, cf_lt], fun x y z h1 h2 => by simp only [ltOf, decide_eq_true_eq, cf_lt] at *; omega,
    fun x y z h1 h2 => by simp only [ltOf, decide_eq_false_iff_not, cf_lt] at *; omega⟩
theorem st_fgtr {t : TypeId} {X Y : Operand} {x y : Nat} {a b : Int} (hx : FV x a) (hy : FV y b) : Pu (bS .gtr t X Y (.float .f64 x) (.float .f64 y)) (.bool (decide (a > b))) :=
  still_bS (Fl.guard_flt _ _ _ _ _ _ _ _) fun w => by
    simp only [binOp, Op.floatCmp, ord hx hy, ne_eq, not_true_eq_false, if_false, Sem.run_pure]
    congr 2
    rcases Int.lt_trichotomy a b with h | h | h
    · rw [Int.compare_eq_lt.2 h, decide_eq_false (by omega)]; rfl
    · rw [Int.compare_eq_eq.2 h, decide_eq_false (by omega)]; rfl
    · rw [Int.compare_eq_gt.2 h, decide_eq_true (by omega)]; rfl
theorem st_fne {t : TypeId} {X Y : Operand} {x y : Nat} {a b : Int} (hx : FV x a) (hy : FV y b) : Pu (bS .neq t X Y (.float .f64 x) (.float .f64 y)) (.bool (!decide (a = b))) :=
  still_bS (Fl.guard_flt _ _ _ _ _ _ _ _) fun w => by
    simp only [binOp, Op.floatCmp, ord hx hy, ne_eq, not_true_eq_false, if_false, Sem.run_pure]
    congr 2
    rcases Int.lt_trichotomy a b with h | h | h
    · rw [Int.compare_eq_lt.2 h, decide_eq_false (by omega)]; rfl
    · rw [Int.compare_eq_eq.2 h, decide_eq_true (by omega)]; rfl
    · rw [Int.compare_eq_gt.2 h, decide_eq_false (by omega)]; rfl
section
variable {S : World → Prop} {e : Env} {ctx rest : List HProp} {tr kp : List Int} {most n : Nat}
theorem nan_q {x : Nat} {a : Int} {K : Bool → WP} (hx : FV x a) (h : QEnt S (K false)) : QEnt S (cmp_isNaN_float64 (.float .f64 x) K) := by
  refine QEnt.fn cmp_isNaN_float64_ok ?_
  unfold cmp_isNaN_float64_sh
  have := st_fne (t := 68) (X := .tmp 3) (Y := .tmp 4) hx hx
  rw [decide_eq_true rfl] at this
  exact QEnt.pB this h
theorem compare_q {x y : Nat} {a b : Nat} {K : Int → WP} (hx : FV x a) (hy : FV y b) (h : QEnt S (K (if a < b then -1 else if b < a then 1 else 0))) : QEnt S (cmp_Compare_float64 (.float .f64 x) (.float .f64 y) K) := by
  refine QEnt.fn cmp_Compare_float64_ok ?_
  unfold cmp_Compare_float64_sh
  refine nan_q hx ?_
  refine nan_q hy ?_
  refine QEnt.cF rfl ?_
  refine QEnt.cF rfl ?_
  refine QEnt.pB (st_flss hx hy) ?_
  by_cases h1 : a < b
  · rw [if_pos h1] at h
    exact QEnt.cT (by (first | rfl | exact decide_eq_true (by omega) | exact beq_iff_eq.2 (by omega) | exact bne_iff_ne.2 (by omega))) h
  rw [if_neg h1] at h
  refine QEnt.cF (by (first | rfl | exact decide_eq_false (by omega) | exact beq_eq_false_iff_ne.2 (by omega) | exact bne_eq_false_iff_eq.2 (by omega))) ?_
  refine QEnt.pB (st_fgtr hx hy) ?_
  by_cases h2 : b < a
  · rw [if_pos h2] at h
    exact QEnt.cT (by (first | rfl | exact decide_eq_true (by omega) | exact beq_iff_eq.2 (by omega) | exact bne_iff_ne.2 (by omega))) h
  rw [if_neg h2] at h
  exact QEnt.cF (by (first | rfl | exact decide_eq_false (by omega) | exact beq_eq_false_iff_ne.2 (by omega) | exact bne_eq_false_iff_eq.2 (by omega))) h
/-- a place read: the member's turn -/
theorem place {r : Nat} {m : List (Int × Nat × Nat)} {g : Int → Nat} (hm : Has ctx (Mp (intK .i64) cv r m)) (hg : ∀ x p, mfind x m = some p → FV p.1 (g x)) (x : Int) :
    ∃ a b, FV a (tn m g x) ∧ Still e ctx (vS (Instr.lookup 67 (.map (some r)) (.int .i64 x) false)) (.complex .f64 a b) := by
  unfold tn
  cases h : mfind x m with
  | some p =>
    refine ⟨p.1, p.2, by simpa using hg x p h, st_mgetT (K := intK .i64) (vf := cv) (b := p) hm rfl (dd_int rfl) h⟩
  | none =>
    exact ⟨0, 0, by simpa using fv0, st_mgetF (K := intK .i64) (vf := cv) hm rfl (dd_int rfl) h (by kernel_rfl : zv 84 = some (.complex .f64 0 0))⟩
theorem cmp_q {bx b r tw : Nat} {m : List (Int × Nat × Nat)} {g : Int → Nat} (q : QS S e ctx) (h1 : Has ctx (pt bx [.pointer (some ⟨b, 0, none⟩)])) (h2 : Has ctx (pt b [.map (some r), .float .f64 tw, .int .i64 most])) (hm : Has ctx (Mp (intK .i64) cv r m))
    (hg : ∀ x p, mfind x m = some p → FV p.1 (g x)) {x y : Int} {K : Int → WP} (h : QEnt S (K (cf (tn m g) x y))) : QEnt S (lru_List_in_c1 x y (.pointer (some ⟨bx, 0, none⟩)) K) := by
  refine QEnt.fn lru_List_in_c1_ok ?_
  unfold lru_List_in_c1_sh
  refine QEnt.draw q ?_
  obtain ⟨a1, b1, v1, p1⟩ := place (e := e) hm hg y
  obtain ⟨a2, b2, v2, p2⟩ := place (e := e) hm hg x
  refine QEnt.sR q (st_load h1 rfl rfl) ?_
  refine QEnt.nil (QEnt.qR (st_field rfl) (QEnt.sR q (st_load h2 rfl rfl) ?_))
  refine QEnt.sR q p1 (QEnt.qR st_real ?_)
  refine QEnt.sR q (st_load h1 rfl rfl) ?_
  refine QEnt.nil (QEnt.qR (st_field rfl) (QEnt.sR q (st_load h2 rfl rfl) ?_))
  refine QEnt.sR q p2 (QEnt.qR st_real ?_)
  exact compare_q v1 v2 (QEnt.and h)
theorem perm_of_mem : ∀ {l r : List Int}, l.Nodup → r.Nodup → (∀ x, x ∈ l ↔ x ∈ r) → l.Perm r
  | [], r, _, _, h => by
    cases r with
    | nil => exact .nil
    | cons y r => exact absurd ((h y).2 List.mem_cons_self) (by simp)
  | x :: l, r, h1, h2, h => by
    have hx : x ∈ r := (h x).1 List.mem_cons_self
    refine .trans (.cons x (perm_of_mem (List.nodup_cons.1 h1).2 (h2.erase x) fun y => ?_)) (List.perm_cons_erase hx).symm
    rw [h2.mem_erase_iff]
    constructor
    · intro hy
      exact ⟨fun e => (List.nodup_cons.1 h1).1 (e ▸ hy), (h y).1 (List.mem_cons_of_mem _ hy)⟩
    · rintro ⟨hn, hy⟩
      rcases List.mem_cons.1 ((h y).2 hy) with e | e
      · exact absurd e hn
      · exact e
theorem sorted_uniq {G : Int → Nat} : ∀ {l r : List Int}, l.Perm r → l.Pairwise (fun x y => G y ≤ G x) → r.Pairwise (fun x y => G y < G x) → l = r
  | [], r, p, _, _ => (List.nil_perm.1 p).symm
  | x :: l, [], p, _, _ => absurd p (by simp)
  | x :: l, y :: r, p, h1, h2 => by
    obtain ⟨a1, a2⟩ := List.pairwise_cons.1 h1
    obtain ⟨b1, b2⟩ := List.pairwise_cons.1 h2
    have e : x = y := by
      rcases List.mem_cons.1 (p.subset List.mem_cons_self) with e | hx
      · exact e
      · rcases List.mem_cons.1 (p.symm.subset List.mem_cons_self) with e | hy
        · exact e.symm
        · have := b1 x hx
          have := a1 y hy
          omega
    subst e
    rw [sorted_uniq (List.perm_cons _ |>.1 p) a2 b2]
theorem len_le : ∀ (N : Nat) (l : List Int), l.Nodup → (∀ x, x ∈ l → 0 ≤ x ∧ x < N) → l.length ≤ N
  | 0, l, _, h => by
    cases l with
    | nil => simp
    | cons x l => have := h x List.mem_cons_self; omega
  | N + 1, l, hn, h => by
    have ih := len_le N (l.erase (N : Int)) (hn.erase _) fun x hx => by
      rw [hn.mem_erase_iff] at hx
      have := h x hx.2
      have := hx.1
      omega
    by_cases hm : (N : Int) ∈ l
    · rw [List.length_erase_of_mem hm] at ih; omega
    · rw [List.erase_of_not_mem hm] at ih; omega
/-- the members of a segment, in their order -/
theorem in_spec {K : Value → WP} {b : Nat} {s : Bool} (h : ∀ a c, Ent e (SlO a (if s then kp else tr).length c 1 ((if s then kp else tr).map fun x => .int .i64 x) :: LRep b tr kp most n :: rest) (K (.slice a (if s then kp else tr).length c))) :
    Ent e (LRep b tr kp most n :: rest) (lru_List_in (.pointer (some ⟨b, 0, none⟩)) (sg s) K) := by
  (refine Ent.fn lru_List_in_ok ?_; unfold lru_List_in_sh)
  refine Ent.box' fun bx => ?_
  refine Ent.bring (A := LRep b tr kp most n) ?_
  refine LRep.open fun r tw t m h1 h2 h3 h4 => ?_
  (refine Ent.go ?_)
  refine Ent.mrange (K := intK .i64) (vf := cv) (by (repeat (first | exact Pick.hd | apply Pick.tl))) rfl fun i => ?_
  obtain ⟨g, g1, g2, g3, g4⟩ := h1.g
  have hid : ∀ x p, (x, p) ∈ m → (x ∈ tr ∨ x ∈ kp) ∧ FV p.1 (g x) ∧ FV p.2 (if x ∈ kp then 1 else 0) := fun x p hp => by
    have := mem_mfind h1.kn hp
    exact ⟨by simpa using (h1.keys x).2 ⟨p, this⟩, g2 x p this⟩
  obtain ⟨n1, n2, n3⟩ := nodup_app.1 h1.nd
  refine Ent.slN (sz := 1) ?_
  refine Ent.loop1 (k0 := .raw) (fun N v => exs (fun (x : List Int × List Int × Option Addr × Nat) =>
    sepL [pur (v = .slice x.2.2.1 (x.1.filter fun y => decide (y ∈ kp) == s).length x.2.2.2 ∧ (x.1 ++ x.2.1).Perm (m.map (·.1)) ∧ N = x.2.1.length),
      SlO x.2.2.1 (x.1.filter fun y => decide (y ∈ kp) == s).length x.2.2.2 1 ((x.1.filter fun y => decide (y ∈ kp) == s).map fun y => .int .i64 y), MpI (intK .i64) cv r i m x.1]) :: pt b [.map (some r), .float .f64 tw, .int .i64 most] :: pt bx [.pointer (some ⟨b, 0, none⟩)] :: rest) m.length ?_ ?_
  · refine Imp.exs ([], m.map (·.1), none, 0) (Imp.g3 (Imp.pur ⟨rfl, by simp, by simp⟩ ?_))
    (focus ((repeat ((with_reducible apply Imp.pick); (repeat (first | exact Pick.hd | apply Pick.tl)))); (repeat (first | exact Imp.refl _ | exact Imp.nil _ | apply Imp.drop)); done))
  intro N K' hK v
  refine Ent.exs fun ⟨dn, rm, a, c⟩ => Ent.g3 (Ent.pur fun ⟨f1, f2, f3⟩ => ?_)
  dsimp only at f1 f2 f3
  subst f1 f3
  dsimp only
  have hnd : (dn ++ rm).Nodup := f2.symm.nodup h1.kn
  obtain ⟨m1, m2, m3⟩ := nodup_app.1 hnd
  have hlen : dn.length + rm.length = m.length := by simpa using f2.length_eq
  have hkey : ∀ x, x ∈ dn ++ rm ↔ x ∈ tr ++ kp := fun x => by
    rw [f2.mem_iff, h1.keys]
    constructor
    · intro hx
      obtain ⟨p, hp, rfl⟩ := List.mem_map.1 hx
      exact ⟨p.2, mem_mfind h1.kn hp⟩
    · rintro ⟨p, hp⟩
      exact List.mem_map.2 ⟨_, mfind_mem hp, rfl⟩
  have hsm : m.length ≤ 64 := by
    have := len_le 64 (m.map (·.1)) h1.kn fun x hx => by
      obtain ⟨p, hp, rfl⟩ := List.mem_map.1 hx
      exact h1.ids p.1 ((h1.keys p.1).2 ⟨p.2, mem_mfind h1.kn hp⟩)
    simpa using this
  refine Ent.mnext (by (repeat (first | exact Pick.hd | apply Pick.tl))) (fun hall => ?_) (fun x p hp hx => ?_)
  · -- all have come
    have hrm : rm = [] := by
      cases rm with
      | nil => rfl
      | cons y rm =>
        exfalso
        have : y ∈ m.map (·.1) := f2.subset (by simp)
        obtain ⟨p, hp, rfl⟩ := List.mem_map.1 this
        exact m3 p.1 (hall p.1 p.2 hp) List.mem_cons_self
    subst hrm
    simp only [List.append_nil] at f2 hkey
    have hperm : (dn.filter fun y => decide (y ∈ kp) == s).Perm (if s then kp else tr) := by
      refine perm_of_mem (m1.filter _) (by cases s; exact n1; exact n2) fun x => ?_
      rw [List.mem_filter, hkey]
      cases s
      · simp only [beq_iff_eq, decide_eq_false_iff_not, List.mem_append, Bool.false_eq_true, if_false]
        exact ⟨fun ⟨a, b⟩ => a.resolve_right b, fun a => ⟨.inl a, n3 x a⟩⟩
      · simp only [beq_iff_eq, decide_eq_true_eq, List.mem_append, if_true]
        exact ⟨fun ⟨a, b⟩ => b, fun a => ⟨.inr a, a⟩⟩
    refine Ent.bring (A := SlO a _ c 1 _) ?_
    have hG : ∀ x, x ∈ tr ++ kp → tn m g x = g x := fun x hx => by
      obtain ⟨p, hp⟩ := (h1.keys x).1 hx
      simp [tn, hp]
    refine Ent.sortInts (cf (tn m g)) (cf_swo _) (by decide) rfl ?_ (fun W hW x y => ?_) fun l' hp hs => ?_
    · have := List.length_filter_le (fun y => decide (y ∈ kp) == s) dn
      omega
    · have q := qs_of hW
      refine quiet_int fun K hk => ?_
      have hq : QS (fun w => ∃ q, w = W.drewN q) e (Mp (intK .i64) cv r m :: pt b [.map (some r), .float .f64 tw, .int .i64 most] :: pt bx [.pointer (some ⟨b, 0, none⟩)] :: rest) :=
        ⟨fun w hw => (q.sat w hw).imp MpI.imp, q.dr⟩
      exact cmp_q hq (by (repeat (first | exact Has.hd | apply Has.tl))) (by (repeat (first | exact Has.hd | apply Has.tl))) (by (repeat (first | exact Has.hd | apply Has.tl))) (fun x p hp => (g2 x p hp).1) hk
    · have hl : l' = if s then kp else tr := by
        refine sorted_uniq (G := g) (hp.trans hperm) ?_ (by cases s; exact g3; exact g4)
        refine hs.imp_of_mem fun {a b} ha hb hab => ?_
        have ha' : a ∈ tr ++ kp := by
          have := (hp.trans hperm).subset ha
          cases s <;> simp_all
        have hb' : b ∈ tr ++ kp := by
          have := (hp.trans hperm).subset hb
          cases s <;> simp_all
        rw [cf_lt, hG a ha', hG b hb'] at hab
        omega
      subst hl
      have hln := hperm.length_eq
      rw [hln]
      refine Ent.imp ?_ (h a c)
      refine Imp.cons ?_
      refine Imp.trans (MpI.imp (K := intK .i64) (vf := cv)) ?_
      refine Imp.trans ?_ (LRep.imp (r := r) h1 h2 h3 h4)
      (focus ((repeat ((with_reducible apply Imp.pick); (repeat (first | exact Pick.hd | apply Pick.tl)))); (repeat (first | exact Imp.refl _ | exact Imp.nil _ | apply Imp.drop)); done))
  · -- one more
    obtain ⟨q1, q2, q3⟩ := hid x p hp
    refine Ent.mentry (K := intK .i64) (vf := cv) (dn := dn) (by (repeat (first | exact Has.hd | apply Has.tl))) hp rfl rfl ?_
    refine Ent.opR st_imag.still (Ent.opR st_imag.still ?_)
    have hsg : FV (if s then 4607182418800017408 else 0) (if s then 1 else 0) := by cases s; exact fv0; exact fv1
    refine Ent.opB (st_feq q3 hsg).still ?_
    have hxr : x ∈ rm := by
      have : x ∈ dn ++ rm := f2.symm.subset (List.mem_map.2 ⟨_, hp, rfl⟩)
      exact (List.mem_append.1 this).resolve_left hx
    have hpm : ((dn ++ [x]) ++ rm.erase x).Perm (m.map (·.1)) := by
      refine List.Perm.trans ?_ f2
      rw [List.append_assoc]
      exact List.Perm.append_left _ (List.perm_cons_erase hxr).symm
    have hle : (rm.erase x).length < rm.length := by
      rw [List.length_erase_of_mem hxr]
      have := List.length_pos_of_mem hxr
      omega
    have hfl : ∀ (v : Bool), (decide (x ∈ kp) == s) = v → (dn ++ [x]).filter (fun y => decide (y ∈ kp) == s) = dn.filter (fun y => decide (y ∈ kp) == s) ++ (if v then [x] else []) := by
      intro v hv
      rw [List.filter_append]
      cases v <;> simp [List.filter, hv]
    by_cases hc : (decide (x ∈ kp) == s) = true
    · have hfl := hfl true hc
      simp only [if_true] at hfl
      refine Ent.condT ?_ ?_
      · rw [beq_iff_eq] at hc
        subst hc
        by_cases hk : x ∈ kp <;> simp [hk]
      have hll := List.length_filter_le (fun y => decide (y ∈ kp) == s) dn
      refine Ent.app1 (fun a2 c2 => ?_)
      refine Ent.imp ?_ (hK (rm.erase x).length hle _)
      refine Imp.exs (dn ++ [x], rm.erase x, a2, c2) (Imp.g3 (Imp.pur ⟨by simp [hfl], hpm, rfl⟩ ?_))
      rw [hfl]
      simp only [List.map_append, List.map_cons, List.map_nil, List.length_append, List.length_cons, List.length_nil, Nat.zero_add]
      (focus ((repeat ((with_reducible apply Imp.pick); (repeat (first | exact Pick.hd | apply Pick.tl)))); (repeat (first | exact Imp.refl _ | exact Imp.nil _ | apply Imp.drop)); done))
    · have hfl := hfl false (by simpa using hc)
      simp only [Bool.false_eq_true, if_false, List.append_nil] at hfl
      refine Ent.condF ?_ ?_
      · cases s <;> by_cases hk : x ∈ kp <;> simp_all
      refine Ent.imp ?_ (hK (rm.erase x).length hle _)
      refine Imp.exs (dn ++ [x], rm.erase x, a, c) (Imp.g3 (Imp.pur ⟨by simp only [hfl], hpm, rfl⟩ ?_))
      rw [hfl]
      (focus ((repeat ((with_reducible apply Imp.pick); (repeat (first | exact Pick.hd | apply Pick.tl)))); (repeat (first | exact Imp.refl _ | exact Imp.nil _ | apply Imp.drop)); done))
end
end Go.Proofs.YtfofnagocedlgaaDoor.Lr
end
section
/-
  THE LRU LIST (layer 20): its calls.
-/
set_option maxRecDepth 100000
set_option linter.unusedVariables false
set_option linter.unusedSectionVars false
set_option linter.unusedSimpArgs false
set_option maxHeartbeats 0
namespace Go.Proofs.YtfofnagocedlgaaDoor.Lr
open Go Sh Sl Fl
attribute [local irreducible] condK ArK NilK OpK FnK StK joinK loopK DrawK andK PuK NxK EnK vS uS bS callS invokeS
/-- a list's numbers as cells -/
abbrev ic (l : List Int) : List Value := l.map fun x => .int .i64 x
section
variable {e : Env} {ctx rest : List HProp} {tr kp : List Int} {most n : Nat}
theorem tried_spec {K : Value → WP} {b : Nat} (h : ∀ a c, Ent e (SlO a tr.length c 1 (ic tr) :: LRep b tr kp most n :: rest) (K (.slice a tr.length c))) :
    Ent e (LRep b tr kp most n :: rest) (lru_List_Tried (.pointer (some ⟨b, 0, none⟩)) K) := by
  (refine Ent.fn lru_List_Tried_ok ?_; unfold lru_List_Tried_sh)
  exact in_spec (s := false) h
theorem kept_spec {K : Value → WP} {b : Nat} (h : ∀ a c, Ent e (SlO a kp.length c 1 (ic kp) :: LRep b tr kp most n :: rest) (K (.slice a kp.length c))) :
    Ent e (LRep b tr kp most n :: rest) (lru_List_Kept (.pointer (some ⟨b, 0, none⟩)) K) := by
  (refine Ent.fn lru_List_Kept_ok ?_; unfold lru_List_Kept_sh)
  exact in_spec (s := true) h
/-- the answers of a call, and what is left -/
def addC (tr kp : List Int) (id : Int) : Int := if id < 0 ∨ 64 ≤ id then 1 else if id ∈ tr ++ kp then 9 else 0
def toC (tr kp : List Int) (id : Int) : Int := if id < 0 ∨ 64 ≤ id then 1 else if id ∈ tr ++ kp then 0 else 6
theorem out_id {l : List Int} {x : Int} (h : x ∉ l) : out l x = l := by
  unfold out
  rw [List.filter_eq_self]
  intro y hy
  simp only [decide_eq_true_eq]
  exact fun e => h (e ▸ hy)
theorem LRep.more {b n' : Nat} {c : WP} (hn : n ≤ n') (h : Ent e (LRep b tr kp most n' :: rest) c) : Ent e (LRep b tr kp most n :: rest) c :=
  LRep.open fun r tw t m h1 h2 h3 h4 => LRep.fold h1 h2 (by omega) h4 h
theorem LRep.ok {b : Nat} {c : WP} (h : (∃ m t, LOk m tr kp t) → most ≤ 64 → Ent e (LRep b tr kp most n :: rest) c) : Ent e (LRep b tr kp most n :: rest) c :=
  LRep.open fun r tw t m h1 h2 h3 h4 => LRep.fold h1 h2 h3 h4 (h ⟨_, _, h1⟩ h4)
theorem add_spec {K : Int → WP} {b : Nat} {id : Int} (hn : n < 4503599627370496) (hno : addC tr kp id ≠ 0 → Ent e (LRep b tr kp most n :: rest) (K (addC tr kp id)))
    (hok : 0 ≤ id → id < 64 → id ∉ tr ++ kp → Ent e (LRep b (id :: tr) kp most (n + 1) :: rest) (K 0)) : Ent e (LRep b tr kp most n :: rest) (lru_List_Add (.pointer (some ⟨b, 0, none⟩)) id K) := by
  (refine Ent.fn lru_List_Add_ok ?_; unfold lru_List_Add_sh)
  refine ready_spec ?_
  unfold addC at hno
  by_cases c1 : id < 0 ∨ 64 ≤ id
  · rw [if_pos c1] at hno ⊢
    (refine Ent.go ?_)
    exact hno (by decide)
  rw [if_neg c1] at hno ⊢
  by_cases c2 : id ∈ tr ++ kp
  · rw [if_pos c2] at hno ⊢
    (refine Ent.go ?_)
    exact hno (by decide)
  · rw [if_neg c2]
    (refine Ent.go ?_)
    have ho : id ∉ tr ∧ id ∉ kp := by simpa using c2
    have := hok (by omega) (by omega) c2
    refine put_spec (s := false) (by omega) hn ?_
    simp only [Bool.false_eq_true, if_false, out_id ho.1, out_id ho.2]
    exact this
/-- behind a touch -/
def toT (tr kp : List Int) (most : Nat) (id : Int) : List Int × List Int :=
  if most < (id :: out kp id).length then ((id :: out kp id).getLast (by simp) :: out tr id, out (id :: out kp id) ((id :: out kp id).getLast (by simp))) else (out tr id, id :: out kp id)
theorem touch_spec {K : Int → WP} {b : Nat} {id : Int} (hn : n + 1 < 4503599627370496) (hno : toC tr kp id ≠ 0 → Ent e (LRep b tr kp most n :: rest) (K (toC tr kp id)))
    (hok : 0 ≤ id → id < 64 → id ∈ tr ++ kp → Ent e (LRep b (toT tr kp most id).1 (toT tr kp most id).2 most (n + 2) :: rest) (K 0)) : Ent e (LRep b tr kp most n :: rest) (lru_List_Touch (.pointer (some ⟨b, 0, none⟩)) id K) := by
  (refine Ent.fn lru_List_Touch_ok ?_; unfold lru_List_Touch_sh)
  refine ready_spec ?_
  unfold toC at hno
  by_cases c1 : id < 0 ∨ 64 ≤ id
  · rw [if_pos c1] at hno ⊢
    (refine Ent.go ?_)
    exact hno (by decide)
  rw [if_neg c1] at hno ⊢
  by_cases c2 : id ∈ tr ++ kp
  rotate_left
  · rw [if_neg c2] at hno ⊢
    (refine Ent.go ?_)
    exact hno (by decide)
  rw [if_pos c2]
  (refine Ent.go ?_)
  have ho := hok (by omega) (by omega) c2
  unfold toT at ho
  refine put_spec (s := true) (by omega) (by omega) ?_
  simp only [if_true]
  refine kept_spec fun a c => ?_
  refine Ent.bring (A := LRep b _ _ most _) ?_
  refine LRep.open fun r tw t m h1 h2 h3 h4 => ?_
  obtain ⟨L, hL⟩ : ∃ L, L = id :: out kp id := ⟨_, rfl⟩
  have hpos : 0 < L.length := by rw [hL]; simp
  by_cases hl : most < (id :: out kp id).length
  · rw [if_pos hl] at ho
    have hlast : (id :: out kp id)[(((id :: out kp id).length : Int) - 1).toNat]? = some ((id :: out kp id).getLast (by simp)) := by
      rw [List.getLast_eq_getElem, ← List.getElem?_eq_getElem]
      congr 1
      omega
    obtain ⟨x, hx⟩ : ∃ x, x = (id :: out kp id).getLast (by simp) := ⟨_, rfl⟩
    rw [← hx] at hlast ho
    have hmem : x ∈ id :: out kp id := hx ▸ List.getLast_mem _
    rw [← hL] at hl hlast ho hmem h1 ⊢
    have h64 := len_le 64 L (nodup_app.1 h1.nd).2.1 (fun y hy => h1.ids y (List.mem_append_right _ hy))
    (refine Ent.go ?_)
    have hid := h1.ids x (List.mem_append_right _ hmem)
    refine LRep.fold h1 h2 h3 h4 ?_
    refine put_spec (s := false) hid (by omega) ?_
    simp only [Bool.false_eq_true, if_false]
    rw [out_id (l := out tr id) (fun hx => (nodup_app.1 h1.nd).2.2 x hx hmem)]
    refine Ent.imp ?_ ho
    (focus ((repeat ((with_reducible apply Imp.pick); (repeat (first | exact Pick.hd | apply Pick.tl)))); (repeat (first | exact Imp.refl _ | exact Imp.nil _ | apply Imp.drop)); done))
  · rw [if_neg hl] at ho
    rw [← hL] at hl ho h1 ⊢
    (refine Ent.go ?_)
    refine LRep.fold h1 h2 h3 h4 ?_
    refine LRep.more (n' := n + 2) (by omega) ?_
    refine Ent.imp ?_ ho
    (focus ((repeat ((with_reducible apply Imp.pick); (repeat (first | exact Pick.hd | apply Pick.tl)))); (repeat (first | exact Imp.refl _ | exact Imp.nil _ | apply Imp.drop)); done))
theorem remove_spec {K : Int → WP} {b : Nat} {id : Int} (hno : toC tr kp id ≠ 0 → Ent e (LRep b tr kp most n :: rest) (K (toC tr kp id)))
    (hok : 0 ≤ id → id < 64 → id ∈ tr ++ kp → Ent e (LRep b (out tr id) (out kp id) most n :: rest) (K 0)) : Ent e (LRep b tr kp most n :: rest) (lru_List_Remove (.pointer (some ⟨b, 0, none⟩)) id K) := by
  (refine Ent.fn lru_List_Remove_ok ?_; unfold lru_List_Remove_sh)
  refine ready_spec ?_
  unfold toC at hno
  by_cases c1 : id < 0 ∨ 64 ≤ id
  · rw [if_pos c1] at hno ⊢
    (refine Ent.go ?_)
    exact hno (by decide)
  rw [if_neg c1] at hno ⊢
  by_cases c2 : id ∈ tr ++ kp
  rotate_left
  · rw [if_neg c2] at hno ⊢
    (refine Ent.go ?_)
    exact hno (by decide)
  rw [if_pos c2]
  (refine Ent.go ?_)
  refine LRep.open fun r tw t m h1 h2 h3 h4 => ?_
  (refine Ent.go ?_)
  refine Ent.mdel (K := intK .i64) (vf := cv) (by (repeat (first | exact Upd.hd | apply Upd.tl))) rfl (dd_int rfl) ?_
  exact LRep.fold h1.rem h2 h3 h4 (hok (by omega) (by omega) c2)
/-- who goes first -/
def vic (tr kp : List Int) : Int × Bool := match tr.getLast? with
  | some x => (x, true)
  | none => match kp.getLast? with
    | some x => (x, true)
    | none => (0, false)
theorem last_get {l : List Int} {x : Int} (h : l.getLast? = some x) : l[((l.length : Int) - 1).toNat]? = some x := by
  rw [List.getLast?_eq_getElem?] at h
  rw [← h]; congr 1; omega
theorem victim_spec {K : Int → Bool → WP} {b : Nat} (h : Ent e (LRep b tr kp most n :: rest) (K (vic tr kp).1 (vic tr kp).2)) :
    Ent e (LRep b tr kp most n :: rest) (lru_List_Victim (.pointer (some ⟨b, 0, none⟩)) K) := by
  (refine Ent.fn lru_List_Victim_ok ?_; unfold lru_List_Victim_sh)
  refine LRep.ok fun ⟨m, t, hok⟩ _ => ?_
  have h64 := len_le 64 tr (nodup_app.1 hok.nd).1 (fun y hy => hok.ids y (List.mem_append_left _ hy))
  have h65 := len_le 64 kp (nodup_app.1 hok.nd).2.1 (fun y hy => hok.ids y (List.mem_append_right _ hy))
  clear hok
  refine tried_spec fun a1 c1 => ?_
  refine Ent.bring (A := LRep b _ _ _ _) ?_
  refine kept_spec fun a2 c2 => ?_
  refine Ent.slice (x := 77) (sz := 1) (by_ := 24) (out := [.slice a1 tr.length c1, .slice a2 kp.length c2]) rfl rfl rfl rfl (by decide) (by decide) (by rfl) fun s => ?_
  (refine Ent.go ?_)
  refine Ent.rngL0 2 (fun k => [pur (k = 0 ∨ tr = []), pur (k ≤ 1 ∨ kp = []), pt s [.slice a1 tr.length c1, .slice a2 kp.length c2], SlO a2 kp.length c2 1 (ic kp), LRep b tr kp most n, SlO a1 tr.length c1 1 (ic tr)] ++ rest) rfl ?_ ?_
  · exact Imp.pur (.inl rfl) (Imp.pur (.inl (by omega)) (Imp.refl _))
  intro k hk K' hK
  refine Ent.pur fun hk0 => Ent.pur fun hk1 => ?_
  have fin : ∀ (x : Int) (v : Bool), vic tr kp = (x, v) → Ent e (pt s [.slice a1 tr.length c1, .slice a2 kp.length c2] :: SlO a2 kp.length c2 1 (ic kp) :: LRep b tr kp most n :: SlO a1 tr.length c1 1 (ic tr) :: rest) (K x v) := by
    intro x v hv
    rw [hv] at h
    refine Ent.imp ?_ h
    (focus ((repeat ((with_reducible apply Imp.pick); (repeat (first | exact Pick.hd | apply Pick.tl)))); (repeat (first | exact Imp.refl _ | exact Imp.nil _ | apply Imp.drop)); done))
  match k, hk with
  | 0, _ =>
    (refine Ent.go ?_)
    cases ht : tr.getLast? with
    | some x =>
      have hne : 0 < tr.length := by cases tr; simp at ht; simp
      have hlast := last_get ht
      (refine Ent.go ?_)
      exact fin x true (by unfold vic; rw [ht])
    | none =>
      have hz : tr = [] := by simpa using ht
      subst hz
      (refine Ent.go ?_)
      refine Ent.imp ?_ (hK (by omega))
      exact Imp.pur (.inr rfl) (Imp.pur (.inl (by omega)) (Imp.refl _))
  | 1, _ =>
    have hz : tr = [] := by rcases hk0 with h | h; cases h; exact h
    subst hz
    (refine Ent.go ?_)
    cases ht : kp.getLast? with
    | some x =>
      have hne : 0 < kp.length := by cases kp; simp at ht; simp
      have hlast := last_get ht
      (refine Ent.go ?_)
      exact fin x true (by unfold vic; simp only [List.getLast?_nil]; rw [ht])
    | none =>
      have hz : kp = [] := by simpa using ht
      subst hz
      (refine Ent.go ?_)
      refine Ent.imp ?_ (hK (by omega))
      exact Imp.pur (.inr rfl) (Imp.pur (.inr rfl) (Imp.refl _))
  | 2, _ =>
    have hz : tr = [] := by rcases hk0 with h | h; cases h; exact h
    have hz2 : kp = [] := by rcases hk1 with h | h; omega; exact h
    subst hz hz2
    (refine Ent.go ?_)
    exact fin _ _ rfl
theorem in_nil {K : Value → WP} {s : Value} (h : Ent e ctx (K (.slice none 0 0))) : Ent e ctx (lru_List_in (.pointer none) s K) := by
  (refine Ent.fn lru_List_in_ok ?_; unfold lru_List_in_sh)
  refine Ent.box' fun bx => ?_
  (refine Ent.go ?_)
  exact h.drop
theorem tried_nil {K : Value → WP} (h : Ent e ctx (K (.slice none 0 0))) : Ent e ctx (lru_List_Tried (.pointer none) K) := by
  (refine Ent.fn lru_List_Tried_ok ?_; unfold lru_List_Tried_sh)
  exact in_nil h
theorem kept_nil {K : Value → WP} (h : Ent e ctx (K (.slice none 0 0))) : Ent e ctx (lru_List_Kept (.pointer none) K) := by
  (refine Ent.fn lru_List_Kept_ok ?_; unfold lru_List_Kept_sh)
  exact in_nil h
theorem victim_nil {K : Int → Bool → WP} (h : Ent e ctx (K 0 false)) : Ent e ctx (lru_List_Victim (.pointer none) K) := by
  (refine Ent.fn lru_List_Victim_ok ?_; unfold lru_List_Victim_sh)
  refine tried_nil (kept_nil ?_)
  refine Ent.slice (x := 77) (sz := 1) (by_ := 24) (out := [.slice none 0 0, .slice none 0 0]) rfl rfl rfl rfl (by decide) (by decide) (by rfl) fun s => ?_
  (refine Ent.go ?_)
  refine Ent.rngL0 2 (fun k => pt s [.slice none 0 0, .slice none 0 0] :: ctx) rfl (Imp.refl _) ?_
  intro k hk K' hK
  match k, hk with
  | 0, _ => (refine Ent.go ?_); exact hK (by omega)
  | 1, _ => (refine Ent.go ?_); exact hK (by omega)
  | 2, _ => (refine Ent.go ?_); exact h.drop
theorem ready_nil {K : Int → WP} {id : Int} {b : Bool} (h : Ent e ctx (K 2)) : Ent e ctx (lru_List_ready (.pointer none) id b K) := by
  (refine Ent.fn lru_List_ready_ok ?_; unfold lru_List_ready_sh)
  refine Ent.join ?_
  (refine Ent.go ?_)
  exact h
theorem add_nil {K : Int → WP} {id : Int} (h : Ent e ctx (K 2)) : Ent e ctx (lru_List_Add (.pointer none) id K) := by
  (refine Ent.fn lru_List_Add_ok ?_; unfold lru_List_Add_sh)
  refine ready_nil ?_
  (refine Ent.go ?_)
  exact h
theorem touch_nil {K : Int → WP} {id : Int} (h : Ent e ctx (K 2)) : Ent e ctx (lru_List_Touch (.pointer none) id K) := by
  (refine Ent.fn lru_List_Touch_ok ?_; unfold lru_List_Touch_sh)
  refine ready_nil ?_
  (refine Ent.go ?_)
  exact h
theorem remove_nil {K : Int → WP} {id : Int} (h : Ent e ctx (K 2)) : Ent e ctx (lru_List_Remove (.pointer none) id K) := by
  (refine Ent.fn lru_List_Remove_ok ?_; unfold lru_List_Remove_sh)
  refine ready_nil ?_
  (refine Ent.go ?_)
  exact h
end
end Go.Proofs.YtfofnagocedlgaaDoor.Lr
end
section
/-
  THE LRU LIST (layer 20): the document's own list; what the document's examples say.
-/
set_option maxRecDepth 100000
set_option linter.unusedVariables false
set_option linter.unusedSectionVars false
set_option linter.unusedSimpArgs false
set_option maxHeartbeats 0
namespace Go.Proofs.YtfofnagocedlgaaDoor.Lr
open Go Sh Sl Fl
attribute [local irreducible] condK ArK NilK OpK FnK StK joinK loopK DrawK andK PuK NxK EnK vS uS bS callS invokeS
section
variable {e : Env} {ctx rest : List HProp} {tr kp : List Int} {most n : Nat}
end
end Go.Proofs.YtfofnagocedlgaaDoor.Lr
end
section
/-
  THE LRU LIST (layer 20): the calls of the document's own list; what the document's examples say.
-/
set_option maxRecDepth 100000
set_option linter.unusedVariables false
set_option linter.unusedSectionVars false
set_option linter.unusedSimpArgs false
set_option maxHeartbeats 0
namespace Go.Proofs.YtfofnagocedlgaaDoor.Lr
open Go Sh Sl Fl
attribute [local irreducible] condK ArK NilK OpK FnK StK joinK loopK DrawK andK PuK NxK EnK vS uS bS callS invokeS
def RRep (b : Nat) (tr kp : List Int) (most : Nat) : HProp := exs fun (x : Option Addr × Nat × Option Addr × Nat) =>
  sepL [pt b [.slice x.1 tr.length x.2.1, .slice x.2.2.1 kp.length x.2.2.2, .int .i64 most], SlO x.1 tr.length x.2.1 1 (ic tr), SlO x.2.2.1 kp.length x.2.2.2 1 (ic kp)]
section
variable {e : Env} {ctx rest : List HProp} {tr kp : List Int} {most n : Nat}
theorem RRep.open {b : Nat} {c : WP} (h : ∀ a1 c1 a2 c2, (∀ ctx', Has ctx' (SlO a1 tr.length c1 1 (ic tr)) → Rd ctx' a1 (ic tr)) → (∀ ctx', Has ctx' (SlO a2 kp.length c2 1 (ic kp)) → Rd ctx' a2 (ic kp)) →
    Ent e (pt b [.slice a1 tr.length c1, .slice a2 kp.length c2, .int .i64 most] :: SlO a1 tr.length c1 1 (ic tr) :: SlO a2 kp.length c2 1 (ic kp) :: rest) c) : Ent e (RRep b tr kp most :: rest) c := by
  refine Ent.exs fun ⟨a1, c1, a2, c2⟩ => Ent.g3 ?_
  dsimp only
  refine Ent.bring (A := SlO a1 tr.length c1 1 (ic tr)) ?_
  refine Ent.rdS fun r1 _ => ?_
  refine Ent.bring (A := SlO a2 kp.length c2 1 (ic kp)) ?_
  refine Ent.rdS fun r2 _ => ?_
  exact Ent.fin (h a1 c1 a2 c2 r1 r2)
theorem RRep.imp {b c1 c2 : Nat} {a1 a2 : Option Addr} : Imp (pt b [.slice a1 tr.length c1, .slice a2 kp.length c2, .int .i64 most] :: SlO a1 tr.length c1 1 (ic tr) :: SlO a2 kp.length c2 1 (ic kp) :: rest) (RRep b tr kp most :: rest) :=
  Imp.exs (a1, c1, a2, c2) (Imp.g3 (Imp.refl _))
/-- folding, wherever the parts lie -/
theorem RRep.fold {b c1 c2 : Nat} {a1 a2 : Option Addr} {r r' r'' : List HProp} {c : WP} (h : Ent e (RRep b tr kp most :: r'') c) (h1 : Pick ctx (pt b [.slice a1 tr.length c1, .slice a2 kp.length c2, .int .i64 most]) r := by (repeat (first | exact Pick.hd | apply Pick.tl)))
    (h2 : Pick r (SlO a1 tr.length c1 1 (ic tr)) r' := by (repeat (first | exact Pick.hd | apply Pick.tl))) (h3 : Pick r' (SlO a2 kp.length c2 1 (ic kp)) r'' := by (repeat (first | exact Pick.hd | apply Pick.tl))) : Ent e ctx c := by
  refine h.imp ?_
  refine Imp.trans ?_ (RRep.imp (b := b) (c1 := c1) (c2 := c2) (a1 := a1) (a2 := a2))
  exact Imp.pick h1 (Imp.pick h2 (Imp.pick h3 (Imp.refl _)))
end
end Go.Proofs.YtfofnagocedlgaaDoor.Lr
end
section
/-
  THE LRU LIST (layer 20): the document's own list's other calls; what the document's examples say.
-/
set_option maxRecDepth 100000
set_option linter.unusedVariables false
set_option linter.unusedSectionVars false
set_option linter.unusedSimpArgs false
set_option maxHeartbeats 0
namespace Go.Proofs.YtfofnagocedlgaaDoor.Lr
open Go Sh Sl Fl
attribute [local irreducible] condK ArK NilK OpK FnK StK joinK loopK DrawK andK PuK NxK EnK vS uS bS callS invokeS
section
variable {e : Env} {ctx rest : List HProp} {tr kp : List Int} {most n : Nat}
/-- a list that was just written down -/
theorem Ent.nums {t : Nat} {l : List Int} {ps : Array (Nat × Value)} {n : Nat} {c : Value → WP} (h : ∀ b, Ent e (pt b (ic l) :: ctx) (c (.slice (some ⟨b, 0, none⟩) n n))) (hn : n = l.length := by exact rfl) (ht : dd t = some (.sl 3) := by exact rfl)
    (hf : fillL (fun i => some (i * 1, 1)) (List.replicate n [Value.int .i64 0]).flatten ps.toList = some (ic l) := by exact rfl) (hb : n * 1 ≤ 16777216 := by decide) : Ent e ctx (oR (vS (Instr.buildSlice t n ps)) c) := by
  subst hn
  exact Ent.slice (x := 3) (sz := 1) (by_ := 8) ht rfl rfl rfl hb (by decide) hf h
theorem touch_to {K : Int → WP} {b : Nat} {id : Int} {tr' kp' : List Int} (ht : toT tr kp most id = (tr', kp')) (hc : toC tr kp id = 0) (hn : n + 1 < 4503599627370496)
    (hok : Ent e (LRep b tr' kp' most (n + 2) :: rest) (K 0)) : Ent e (LRep b tr kp most n :: rest) (lru_List_Touch (.pointer (some ⟨b, 0, none⟩)) id K) := by
  refine touch_spec hn (fun h => absurd hc h) fun _ _ _ => ?_
  rw [ht]; exact hok
theorem add_to {K : Int → WP} {b : Nat} {id : Int} (hc : addC tr kp id = 0) (hn : n < 4503599627370496)
    (hok : Ent e (LRep b (id :: tr) kp most (n + 1) :: rest) (K 0)) : Ent e (LRep b tr kp most n :: rest) (lru_List_Add (.pointer (some ⟨b, 0, none⟩)) id K) :=
  add_spec hn (fun h => absurd hc h) fun _ _ _ => hok
theorem add_no {K : Int → WP} {b : Nat} {id x : Int} (hc : addC tr kp id = x) (hx : x ≠ 0) (hn : n < 4503599627370496)
    (hok : Ent e (LRep b tr kp most n :: rest) (K x)) : Ent e (LRep b tr kp most n :: rest) (lru_List_Add (.pointer (some ⟨b, 0, none⟩)) id K) :=
  add_spec hn (fun _ => by rw [hc]; exact hok) fun h1 h2 h3 => absurd hc (by unfold addC; rw [if_neg (by omega), if_neg h3]; exact Ne.symm hx)
theorem touch_no {K : Int → WP} {b : Nat} {id x : Int} (hc : toC tr kp id = x) (hx : x ≠ 0) (hn : n + 1 < 4503599627370496)
    (hok : Ent e (LRep b tr kp most n :: rest) (K x)) : Ent e (LRep b tr kp most n :: rest) (lru_List_Touch (.pointer (some ⟨b, 0, none⟩)) id K) :=
  touch_spec hn (fun _ => by rw [hc]; exact hok) fun h1 h2 h3 => absurd hc (by unfold toC; rw [if_neg (by omega), if_pos h3]; exact Ne.symm hx)
theorem remove_no {K : Int → WP} {b : Nat} {id x : Int} (hc : toC tr kp id = x) (hx : x ≠ 0)
    (hok : Ent e (LRep b tr kp most n :: rest) (K x)) : Ent e (LRep b tr kp most n :: rest) (lru_List_Remove (.pointer (some ⟨b, 0, none⟩)) id K) :=
  remove_spec (fun _ => by rw [hc]; exact hok) fun h1 h2 h3 => absurd hc (by unfold toC; rw [if_neg (by omega), if_pos h3]; exact Ne.symm hx)
end
end Go.Proofs.YtfofnagocedlgaaDoor.Lr
end
