/-
  COLLAPSE (layer 24): the awake test.
-/
import Derived.Test.YtgbihlbgkkpciaaCl
set_option maxRecDepth 100000
set_option linter.unusedVariables false
set_option linter.unusedSectionVars false
set_option linter.unusedSimpArgs false
set_option maxHeartbeats 0
namespace Go.Proofs.Ytgbihlbgkkpciaa.Co
open Go Sh Sl
attribute [local irreducible] condK ArK NilK OpK FnK StK joinK loopK DrawK andK PuK NxK EnK vS uS bS callS invokeS
section
variable {e : Env} {ctx rest : List HProp} {most b : Nat} {X : List Ent1}
abbrev sU : ByteArray := ⟨#[117]⟩
abbrev sV : ByteArray := ⟨#[118]⟩
theorem uv : (sU = sV) = False := eq_false (by decide)
theorem vu : (sV = sU) = False := eq_false (by decide)
theorem awake_spec {K : Bool → WP} (h : Ent e rest (K true)) : Ent e rest (law24_awake K) := by
  (refine Ent.fn law24_awake_ok ?_; unfold law24_awake_sh)
  refine new_spec (fun hh => by omega) fun b m hm _ => ?_
  obtain rfl : m = 1 := by omega
  refine Ent.join ?_
  (refine Ent.go ?_)
  refine begin_spec (fun hh => absurd (by decide) hh) fun _ _ _ _ _ p => ?_
  (refine Ent.go ?_)
  refine join_spec (fun e1 he => ?_) fun c p2 j hf hp _ _ _ _ => ?_
  · exfalso
    simp [joinE, mset, hasB, wantB, wsum] at he
  obtain ⟨rfl, rfl, rfl⟩ : c = 2 ∧ p2 = p ∧ j = ⟨sU, true, false, 0, []⟩ := by
    simp only [mset, mfind] at hf
    split at hf
    · rename_i h2; cases hf; exact ⟨h2.symm, rfl, rfl⟩
    · cases hf
  have e1 : mset (2 : Int) ((p2, { url := sU, sh := true, sp := false, ld := 0, ws := [] ++ [1] }) : Nat × Jb) (mset (2 : Int) ((p2, ⟨sU, true, false, 0, []⟩) : Nat × Jb) []) = [(2, p2, ⟨sU, true, false, 0, [1]⟩)] := rfl
  rw [e1]
  refine join_spec (fun e2 he => ?_) fun c p3 j hf hp _ _ _ hw => ?_
  rotate_left
  · simp [wsum] at hw
  obtain rfl : e2 = 33 := by
    simp [joinE, hasB, wantB, wsum] at he
    exact he
  refine join_spec (fun e2 he => ?_) fun c p3 j hf hp _ _ _ hw => ?_
  rotate_left
  · simp [wsum] at hw
  obtain rfl : e2 = 6 := by
    simp [joinE, hasB, wantB, wsum, uv] at he
    exact he
  refine leave_spec (fun hh => ?_) fun c p3 j hf hp => ?_
  · exfalso
    have := hh _ List.mem_cons_self
    simp [hasB] at this
  obtain ⟨rfl, rfl, rfl⟩ : c = 2 ∧ p3 = p2 ∧ j = ⟨sU, true, false, 0, [1]⟩ := by
    simp only [mfind] at hf
    split at hf
    · rename_i h2; cases hf; exact ⟨h2.symm, rfl, rfl⟩
    · cases hf
  have e3 : mset (2 : Int) ((p3, lv ⟨sU, true, false, 0, [1]⟩ 1) : Nat × Jb) [(2, p3, ⟨sU, true, false, 0, [1]⟩)] = [(2, p3, ⟨sU, true, false, 0, []⟩)] := rfl
  rw [e3]
  refine join_spec (fun e2 he => ?_) fun c p4 j hf hp _ _ _ hw => ?_
  · exfalso
    simp [joinE, hasB, wantB, wsum] at he
  obtain ⟨rfl, rfl, rfl⟩ : c = 2 ∧ p4 = p3 ∧ j = ⟨sU, true, false, 0, []⟩ := by
    simp only [mfind] at hf
    split at hf
    · rename_i h2; cases hf; exact ⟨h2.symm, rfl, rfl⟩
    · cases hf
  have e4 : mset (2 : Int) ((p4, { url := sU, sh := true, sp := false, ld := 0, ws := [] ++ [3] }) : Nat × Jb) [(2, p4, ⟨sU, true, false, 0, []⟩)] = [(2, p4, ⟨sU, true, false, 0, [3]⟩)] := rfl
  rw [e4]
  refine end_spec (fun hf => ?_) fun p5 j a c hf => ?_
  · simp [mfind] at hf
  obtain ⟨rfl, rfl⟩ : p5 = p4 ∧ j = ⟨sU, true, false, 0, [3]⟩ := by
    simp only [mfind, if_true] at hf
    cases hf; exact ⟨rfl, rfl⟩
  refine Ent.alloc' fun jb => ?_
  refine Ent.bring (A := SlO a _ c 1 _) ?_
  refine Ent.rdS fun hrd _ => ?_
  unfold jc
  (refine Ent.go ?_)
  refine Ent.slice (out := [.int .i64 3]) (z := [.int .i64 0]) (sz := 1) rfl rfl rfl rfl (by decide) (by decide) (by rfl) fun sb => ?_
  refine same_spec (l := [3]) rfl (by decide) (hrd _ (by (repeat (first | exact Has.hd | apply Has.tl)))) (Rd.pt (by exact Has.hd)) ?_
  refine Ent.imp ?_ h
  (focus (repeat (first | exact Imp.refl _ | exact Imp.nil _ | apply Imp.drop)))
end
end Go.Proofs.Ytgbihlbgkkpciaa.Co
