/-
  LINES OF EVENTS (layer 31), there and back: plain.
-/
import Derived.Test.YtoneapgooihajaaGreatDoorQh
set_option maxRecDepth 100000
set_option linter.unusedVariables false
set_option linter.unusedSectionVars false
set_option linter.unusedSimpArgs false
namespace Go.Proofs.YtoneapgooihajaaGreatDoor.Qa
open Go Sh Sl
theorem dec_byte {d : Nat} (h : d < 10) : (UInt8.ofNat (48 + d)).toNat = 48 + d := by rw [UInt8.toNat_ofNat']; omega
theorem dec_mem (u : Nat) : ∀ c ∈ Lib.decDigits u, 48 ≤ c.toNat ∧ c.toNat ≤ 57 := by
  induction u using Nat.strongRecOn with
  | _ u ih =>
    intro c hc
    rw [Lib.decDigits] at hc
    split at hc
    · rename_i h
      rw [List.mem_singleton.1 hc, dec_byte h]; omega
    · rcases List.mem_append.1 hc with hc | hc
      · exact ih (u / 10) (by omega) c hc
      · rw [List.mem_singleton.1 hc, dec_byte (Nat.mod_lt _ (by omega))]
        have := Nat.mod_lt u (show 0 < 10 by omega)
        omega
theorem dec_ne (u : Nat) : Lib.decDigits u ≠ [] := by
  rw [Lib.decDigits]
  split <;> simp
theorem parse_dec (u : Nat) : ∀ r, u < 18446744073709551616 → Lib.parseUint10 0 (Lib.decDigits u ++ r) = Lib.parseUint10 u r := by
  induction u using Nat.strongRecOn with
  | _ u ih =>
    intro r hu
    rw [Lib.decDigits]
    split
    · rename_i h
      rw [List.singleton_append, Lib.parseUint10, dec_byte h, if_pos (by omega), if_neg (by omega), if_neg (by omega)]
      congr 1
      omega
    · rename_i h
      have hm := Nat.mod_lt u (show 0 < 10 by omega)
      rw [List.append_assoc, ih (u / 10) (by omega) _ (by omega), List.singleton_append, Lib.parseUint10, dec_byte hm, if_pos (by omega), if_neg (by omega), if_neg (by omega)]
      congr 1
      omega
theorem mag_dec {u : Nat} (hu : u < 18446744073709551616) : Lib.parseMag (Lib.decDigits u) = .ok u := by
  unfold Lib.parseMag
  rw [if_neg (dec_ne u)]
  have := parse_dec u [] hu
  rw [List.append_nil] at this
  rw [this]; rfl
theorem atoi_itoa {n : Int} (h : -9223372036854775808 ≤ n ∧ n ≤ 9223372036854775807) : atoi (Lib.itoa n) = (n, false) := by
  have key : Lib.atoiAll (Lib.itoa n) = .ok n := by
    unfold Lib.itoa
    split
    · rename_i hn
      rw [Lib.atoiAll_minus, mag_dec (by omega)]
      simp only [Lib.signed]
      rw [if_neg (by omega)]
      congr 1
      omega
    · rename_i hn
      have hd := mag_dec (u := n.toNat) (by omega)
      have hm := dec_mem n.toNat
      cases hc : Lib.decDigits n.toNat with
      | nil => exact absurd hc (dec_ne _)
      | cons c r =>
        rw [hc] at hd hm
        have := hm c (by simp)
        rw [Lib.atoiAll_plain c r (by omega) (by omega), hd]
        simp only [Lib.signless]
        rw [if_neg (by omega)]
        congr 1
        omega
  unfold atoi
  rw [key]
theorem itoa_mem (n : Int) : ∀ c ∈ Lib.itoa n, c.toNat = 45 ∨ (48 ≤ c.toNat ∧ c.toNat ≤ 57) := by
  intro c hc
  unfold Lib.itoa at hc
  split at hc
  · rcases List.mem_cons.1 hc with rfl | hc
    · exact .inl rfl
    · exact .inr (dec_mem _ c hc)
  · exact .inr (dec_mem _ c hc)
/-- no blank is among them -/
def nb (a : Bs) : Prop := ∀ c ∈ a, c ≠ 32
theorem itoa_nb (n : Int) : nb (Lib.itoa n) := fun c hc hh => by
  have := itoa_mem n c hc
  subst hh
  simp at this
theorem cutB_at {a r : Bs} (h : nb a) : cutB (a ++ 32 :: r) = (a, r) := by
  unfold cutB
  have h1 : ∀ c ∈ a, (c != 32) = true := fun c hc => bne_iff_ne.2 (h c hc)
  rw [List.takeWhile_append_of_pos h1, List.dropWhile_append_of_pos h1]
  simp
theorem cutB_all {a : Bs} (h : nb a) : cutB a = (a, []) := by
  unfold cutB
  have h1 : ∀ c ∈ a, (c != 32) = true := fun c hc => bne_iff_ne.2 (h c hc)
  have := List.takeWhile_append_of_pos (l₂ := []) h1
  rw [List.append_nil] at this
  have h2 := List.dropWhile_append_of_pos (l₂ := []) h1
  rw [List.append_nil] at h2
  rw [this, h2]
  simp
theorem trimS_nl (x : Bs) : Lib.trimSuffix (x ++ [10]) [10] = x := by
  unfold Lib.trimSuffix
  rw [if_pos (by simp [Lib.hasSuffix])]
  simp
theorem name_ix {k : Int} (h : 1 ≤ k ∧ k ≤ 8) : ixOf kindsL (nameAt kindsL k) = k := by
  have : ∀ i : Fin 8, ixOf kindsL (nameAt kindsL ((i.val : Int) + 1)) = (i.val : Int) + 1 := by decide +kernel
  have h2 := this ⟨(k - 1).toNat, by omega⟩
  have e1 : (((k - 1).toNat : Nat) : Int) + 1 = k := by omega
  simp only [e1] at h2
  exact h2
theorem name_nb (k : Int) : nb (nameAt kindsL k) := by
  unfold nameAt
  split
  · rename_i h
    have hl : kindsL.length = 9 := rfl
    have : ∀ i : Fin 9, ∀ c ∈ kindsL.getD i.val [], c ≠ 32 := by decide
    exact this ⟨k.toNat, by omega⟩
  · exact fun c hc => by cases hc
theorem name_ne {k : Int} : nameAt kindsL k ≠ [] ↔ 1 ≤ k ∧ k ≤ 8 := by
  have hl : kindsL.length = 9 := rfl
  constructor
  · intro h
    unfold nameAt at h
    split at h
    · omega
    · exact absurd rfl h
  · intro h hh
    have := name_ix h
    rw [hh] at this
    have h2 : ixOf kindsL [] = 0 := by decide +kernel
    omega
/-- a line that may be written is read as its event -/
theorem ev_back {k t n : Int} {b : Bs} (ht : -9223372036854775808 ≤ t ∧ t ≤ 9223372036854775807) (hn : -9223372036854775808 ≤ n ∧ n ≤ 9223372036854775807) (h : (evT k t n b).2 = true) : evOk (evT k t n b).1 = true ∧ (evR (evT k t n b).1).1 = (k, t, n, b) := by
  have hk : 1 ≤ k ∧ k ≤ 8 := by
    unfold evT at h
    split at h
    · omega
    · split at h
      · omega
      · simp only [Bool.and_eq_true, decide_eq_true_eq] at h
        exact name_ne.1 h.1
  have key : (evR (evT k t n b).1).1 = (k, t, n, b) ∧ (evR (evT k t n b).1).2.2 = false := by
    unfold evT at h ⊢
    by_cases h8 : k = 8
    · rw [if_pos h8] at h ⊢
      simp only [Bool.and_eq_true, decide_eq_true_eq] at h
      obtain ⟨rfl, rfl⟩ := h
      unfold evR
      rw [trimS_nl, joinB_2]
      have e1 : placeR kindsL (nameAt kindsL k ++ 32 :: Lib.itoa n, false) = (k, Lib.itoa n, false) := by
        unfold placeR
        rw [cutB_at (name_nb k)]
        dsimp only
        rw [name_ix hk, decide_eq_false (by omega)]; rfl
      have e2 : numR (Lib.itoa n, false) = (n, [], false) := by
        unfold numR
        rw [cutB_all (itoa_nb n)]
        dsimp only
        rw [atoi_itoa hn]; rfl
      rw [e1]
      dsimp only
      rw [if_pos h8, e2]
      exact ⟨rfl, rfl⟩
    · rw [if_neg h8] at h ⊢
      have e2 : ∀ r, numR (Lib.itoa t ++ 32 :: r, false) = (t, r, false) := fun r => by
        unfold numR
        rw [cutB_at (itoa_nb t)]
        dsimp only
        rw [atoi_itoa ht]; rfl
      by_cases h26 : k = 2 ∨ k = 6
      · rw [if_pos h26] at h ⊢
        unfold evR
        rw [trimS_nl, joinB_4]
        have e1 : placeR kindsL (nameAt kindsL k ++ 32 :: (Lib.itoa t ++ 32 :: (Lib.itoa n ++ 32 :: q b)), false) = (k, Lib.itoa t ++ 32 :: (Lib.itoa n ++ 32 :: q b), false) := by
          unfold placeR
          rw [cutB_at (name_nb k)]
          dsimp only
          rw [name_ix hk, decide_eq_false (by omega)]; rfl
        have e3 : numR (Lib.itoa n ++ 32 :: q b, false) = (n, q b, false) := by
          unfold numR
          rw [cutB_at (itoa_nb n)]
          dsimp only
          rw [atoi_itoa hn]; rfl
        have e4 : wordR (q b, false) = (b, [], false) := by
          unfold wordR
          rw [uq_some.2 (List.append_nil (q b)).symm]
          rfl
        rw [e1]
        dsimp only
        rw [if_neg h8, if_pos h26, e2, e3, e4]
        exact ⟨rfl, rfl⟩
      · rw [if_neg h26] at h ⊢
        simp only [Bool.and_eq_true, decide_eq_true_eq] at h
        obtain ⟨_, rfl⟩ := h
        unfold evR
        rw [trimS_nl, joinB_3]
        have e1 : placeR kindsL (nameAt kindsL k ++ 32 :: (Lib.itoa t ++ 32 :: Lib.itoa n), false) = (k, Lib.itoa t ++ 32 :: Lib.itoa n, false) := by
          unfold placeR
          rw [cutB_at (name_nb k)]
          dsimp only
          rw [name_ix hk, decide_eq_false (by omega)]; rfl
        have e3 : numR (Lib.itoa n, false) = (n, [], false) := by
          unfold numR
          rw [cutB_all (itoa_nb n)]
          dsimp only
          rw [atoi_itoa hn]; rfl
        rw [e1]
        dsimp only
        rw [if_neg h8, if_neg h26, e2, e3]
        exact ⟨rfl, rfl⟩
  refine ⟨?_, key.1⟩
  unfold evOk
  rw [key.1, key.2, h]
  simp
/-- what is read as an event's line is that line -/
theorem ev_sound {s : Bs} (h : evOk s = true) : (evT (evR s).1.1 (evR s).1.2.1 (evR s).1.2.2.1 (evR s).1.2.2.2).2 = true ∧ (evT (evR s).1.1 (evR s).1.2.1 (evR s).1.2.2.1 (evR s).1.2.2.2).1 = s := by
  unfold evOk at h
  simp only [Bool.and_eq_true, decide_eq_true_eq] at h
  exact h.2
end Go.Proofs.YtoneapgooihajaaGreatDoor.Qa
