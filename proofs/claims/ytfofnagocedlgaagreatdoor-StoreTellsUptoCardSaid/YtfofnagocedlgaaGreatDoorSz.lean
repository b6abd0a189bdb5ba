/- WHAT StoreKnown's STORE HOLDS, step by step: plain facts of X, tr, kp. -/
import Derived.Test.YtfofnagocedlgaaGreatDoorSy
set_option linter.unusedVariables false
set_option linter.unusedSimpArgs false
set_option maxRecDepth 100000
set_option maxHeartbeats 0
namespace Go.Proofs.YtfofnagocedlgaaGreatDoor.Tx
open Go Sh Sl
attribute [local irreducible] condK ArK NilK OpK FnK StK joinK loopK DrawK andK PuK NxK EnK vS uS bS callS invokeS
theorem gX_map {pd : Et → Bool} {X : List (Option Et)} {k : Nat} (h : X.length ≤ k) : gX pd X k = X.map (gq pd) := by
  unfold gX
  rw [List.take_of_length_le h, List.drop_eq_nil_of_le h, List.append_nil]
theorem map_nn {pd : Et → Bool} {k : Nat} : (nn k).map (gq pd) = nn k := by simp [nn, gq]
theorem fdS_no {url : Bs} {l : List Fd} {X : List (Option Et)} {best : Option Nat} {k : Nat} {x : Et} (h : X[k]? = some (some x)) (hx : (decide (x.url = url) && forE x l) = false) : fdS url l X best k = best := by
  unfold fdS
  rw [h]
  have e : (decide (x.url = url) && (forE x l && better X best x)) = false := by rw [← Bool.and_assoc, hx, Bool.false_and]
  simp only [Option.join_some]
  exact if_neg (by rw [e]; decide)
theorem fdS_yes {url : Bs} {l : List Fd} {X : List (Option Et)} {k : Nat} {x : Et} (h : X[k]? = some (some x)) (hx : (decide (x.url = url) && forE x l) = true) : fdS url l X none k = some k := by
  unfold fdS
  rw [h]
  have e : (decide (x.url = url) && (forE x l && better X none x)) = true := by rw [← Bool.and_assoc, hx]; rfl
  simp only [Option.join_some]
  exact if_pos e
theorem fdk_first {url : Bs} {l : List Fd} {x y : Et} (hx : (decide (x.url = url) && forE x l) = true) (hy : (decide (y.url = url) && forE y l) = false) : fdk url l (some x :: some y :: nn 62) 64 = some 0 := by
  have hjoin : ∀ j, 2 ≤ j → (((some x :: some y :: nn 62 : List (Option Et)))[j]?).join = none := fun j hj => by
    obtain ⟨j', rfl⟩ : ∃ j', j = j' + 2 := ⟨j - 2, by omega⟩
    simpa using (nn_at (k := 62) (j := j'))
  rw [fdk_more (k0 := 2) hjoin 62]
  show fdS url l _ (fdS url l _ none 0) 1 = some 0
  rw [fdS_yes (x := x) rfl hx, fdS_no (x := y) rfl hy]
theorem fdk_two {url : Bs} {l : List Fd} {x y : Et} (hx : (decide (x.url = url) && forE x l) = false) (hy : (decide (y.url = url) && forE y l) = false) : fdk url l (some x :: some y :: nn 62) 64 = none := by
  have hjoin : ∀ j, 2 ≤ j → (((some x :: some y :: nn 62 : List (Option Et)))[j]?).join = none := fun j hj => by
    obtain ⟨j', rfl⟩ : ∃ j', j = j' + 2 := ⟨j - 2, by omega⟩
    simpa using (nn_at (k := 62) (j := j'))
  rw [fdk_more (k0 := 2) hjoin 62]
  show fdS url l _ (fdS url l _ none 0) 1 = none
  rw [fdS_no (x := y) rfl hy, fdS_no (x := x) rfl hx]
theorem fdk_one {url : Bs} {l : List Fd} {x : Et} (hx : (decide (x.url = url) && forE x l) = false) : fdk url l (some x :: nn 63) 64 = none := by
  have hjoin : ∀ j, 1 ≤ j → (((some x :: nn 63 : List (Option Et)))[j]?).join = none := fun j hj => by
    obtain ⟨j', rfl⟩ : ∃ j', j = j' + 1 := ⟨j - 1, by omega⟩
    simpa using (nn_at (k := 63) (j := j'))
  rw [fdk_more (k0 := 1) hjoin 63]
  show fdS url l _ none 0 = none
  rw [fdS_no (x := x) rfl hx]
theorem gone_two {x y z : Et} (hy : pdP x y = false) (hz : pdP x z = true) : gone3 (pdP x) ⟨some y :: some z :: nn 62, [0, 1], []⟩ = ⟨some y :: nn 63, [0], []⟩ := by
  unfold gone3
  rw [gX_map (by simp [nn])]
  have e1 : gL (pdP x) (some y :: some z :: nn 62) 64 [0, 1] = [0] := by
    simp [gL, gA, qo, hy, hz]
  have e2 : gL (pdP x) (some y :: some z :: nn 62) 64 [] = [] := rfl
  dsimp only
  rw [e1, e2, List.map_cons, List.map_cons, map_nn]
  simp only [gq, hy, hz]
  rfl
theorem filt_nn {f : Option Et → Bool} (h : f none = false) {k : Nat} : (nn k).filter f = [] := by
  refine List.filter_eq_nil_iff.2 fun o ho => ?_
  rw [List.eq_of_mem_replicate ho, h]; decide
theorem gN_one {pd : Et → Bool} {y : Et} (h : pd y = true) : gN pd (some y :: nn 63) 64 = 1 := by
  unfold gN
  rw [List.take_of_length_le (by simp [nn]), List.filter_cons_of_pos (show qo pd (some y) = true from h), filt_nn rfl]; rfl
theorem gN_nn {pd : Et → Bool} : gN pd (nn 64) 64 = 0 := by
  unfold gN
  rw [List.take_of_length_le (by simp [nn]), filt_nn rfl]; rfl
theorem gX_one {pd : Et → Bool} {y : Et} (h : pd y = true) : gX pd (some y :: nn 63) 64 = nn 64 := by
  rw [gX_map (by simp [nn]), List.map_cons, map_nn]
  simp only [gq, h]
  rfl
theorem gX_nn {pd : Et → Bool} : gX pd (nn 64) 64 = nn 64 := by rw [gX_map (by simp [nn]), map_nn]
theorem gL_one {pd : Et → Bool} {y : Et} (h : pd y = true) : gL pd (some y :: nn 63) 64 [0] = [] := by simp [gL, gA, qo, h]
end Go.Proofs.YtfofnagocedlgaaGreatDoor.Tx
