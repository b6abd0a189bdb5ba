/-
  LINES OF EVENTS (layer 31): their texts.
-/
import Derived.Test.YtoneapgooihajaaGreatDoorQf
import Derived.Lib.ItoaLen
set_option maxRecDepth 100000
set_option linter.unusedVariables false
set_option linter.unusedSectionVars false
set_option linter.unusedSimpArgs false
set_option maxHeartbeats 0
namespace Go.Proofs.YtoneapgooihajaaGreatDoor.Qa
open Go Sh Sl
open Go.RowKit
attribute [local irreducible] condK ArK NilK OpK FnK StK joinK loopK DrawK andK PuK NxK EnK vS uS bS callS invokeS
def kindsS : Bs := [32, 111, 112, 101, 110, 32, 100, 97, 116, 97, 32, 108, 101, 97, 118, 101, 32, 106, 111, 105, 110, 101, 100, 32, 102, 97, 105, 108, 101, 100, 32, 114, 101, 112, 108, 121, 32, 101, 110, 100, 101, 100, 32, 116, 105, 99, 107]
def kindsL : List Bs := [[], [111, 112, 101, 110], [100, 97, 116, 97], [108, 101, 97, 118, 101], [106, 111, 105, 110, 101, 100], [102, 97, 105, 108, 101, 100], [114, 101, 112, 108, 121], [101, 110, 100, 101, 100], [116, 105, 99, 107]]
def goesS : Bs := [32, 99, 108, 105, 101, 110, 116, 32, 115, 104, 117, 116, 32, 106, 111, 105, 110, 32, 111, 114, 105, 103, 105, 110, 32, 101, 110, 100]
def goesL : List Bs := [[], [99, 108, 105, 101, 110, 116], [115, 104, 117, 116], [106, 111, 105, 110], [111, 114, 105, 103, 105, 110], [101, 110, 100]]
theorem kinds_parted : Parted kindsS kindsL := ⟨by decide +kernel, by decide +kernel, by decide⟩
theorem goes_parted : Parted goesS goesL := ⟨by decide +kernel, by decide +kernel, by decide⟩
/-- the name at a place -/
def nameAt (L : List Bs) (k : Int) : Bs := if 1 ≤ k ∧ k < L.length then L.getD k.toNat [] else []
structure Ev where
  k : Int
  t : Int
  n : Int
  a : Option Addr
  c : Nat
  b : Bs
abbrev evC (x : Ev) : List Value := [.int .i64 x.k, .int .i64 x.t, .int .i64 x.n, .slice x.a x.b.length x.c]
structure EvR (x : Ev) : Prop where
  t : -9223372036854775808 ≤ x.t ∧ x.t ≤ 9223372036854775807
  n : -9223372036854775808 ≤ x.n ∧ x.n ≤ 9223372036854775807
  b : x.b.length ≤ 1048576
/-- an event's line, and whether it may be written -/
def evT (k t n : Int) (b : Bs) : Bs × Bool :=
  if k = 8 then (joinB [nameAt kindsL k, Lib.itoa n] ++ [10], decide (t = 0) && decide (b = []))
  else if k = 2 ∨ k = 6 then (joinB [nameAt kindsL k, Lib.itoa t, Lib.itoa n, q b] ++ [10], true)
  else (joinB [nameAt kindsL k, Lib.itoa t, Lib.itoa n] ++ [10], decide (nameAt kindsL k ≠ []) && decide (b = []))
theorem name_len (k : Int) : (nameAt kindsL k).length ≤ 10 := by
  unfold nameAt
  split
  · rename_i h
    obtain ⟨i, hi⟩ := Int.eq_ofNat_of_zero_le (by omega : 0 ≤ k)
    subst hi
    rw [Int.toNat_natCast]
    have hl : kindsL.length = 9 := rfl
    have : ∀ i : Fin 9, (kindsL.getD i.val []).length ≤ 10 := by decide
    exact this ⟨i, by omega⟩
  · simp
theorem itoa_len (n : Int) (h : -9223372036854775808 ≤ n ∧ n ≤ 9223372036854775807) : (Lib.itoa n).length ≤ 40 := Nat.le_trans (Lib.itoa_length_le n h.1 h.2) (by decide)
theorem joinB_2 (a b : Bs) : joinB [a, b] = a ++ 32 :: b := by simp [joinB, Lib.join, List.intercalate]
theorem joinB_3 (a b c : Bs) : joinB [a, b, c] = a ++ 32 :: (b ++ 32 :: c) := by simp [joinB, Lib.join, List.intercalate]
theorem joinB_4 (a b c d : Bs) : joinB [a, b, c, d] = a ++ 32 :: (b ++ 32 :: (c ++ 32 :: d)) := by simp [joinB, Lib.join, List.intercalate]
section
variable {e : Env} {ctx rest R : List HProp}
theorem len0 {n : Nat} : (((n : Nat) : Int) == 0) = decide (n = 0) := by
  by_cases h : n = 0
  · subst h; rfl
  · rw [decide_eq_false h]; exact beq_eq_false_iff_ne.2 (by omega)
theorem num_spec {K : ByteArray → WP} {n : Int} (hn : -9223372036854775808 ≤ n ∧ n ≤ 9223372036854775807) (hG : GL e rest) (h : Ent e rest (K (ba (Lib.itoa n)))) : Ent e rest (shell_num n K) := by
  (refine Ent.fn shell_num_ok ?_; unfold shell_num_sh)
  exact itoa_spec hn hG h
theorem evtext_spec {K : ByteArray → Bool → WP} {x : Ev} (hx : EvR x) (hr : Rd rest x.a (u8 x.b)) (hG : GL e rest) (h : Ent e rest (K (ba (evT x.k x.t x.n x.b).1) (evT x.k x.t x.n x.b).2)) : Ent e rest (shell_eventText (.agg (evC x).toArray) K) := by
  have hnl := name_len x.k
  have hit := itoa_len x.t hx.t
  have hin := itoa_len x.n hx.n
  have hql : (q x.b).length ≤ 4194306 := by
    have := (encs_len x.b).2
    have := hx.b
    rw [q_len]; omega
  have hbl : decide (x.b = []) = decide (x.b.length = 0) := decide_eq_decide.2 List.length_eq_zero_iff.symm
  (refine Ent.fn shell_eventText_ok ?_; unfold shell_eventText_sh)
  refine Ent.box' fun eb => ?_
  (refine Ent.go ?_)
  refine name_spec (S := kindsS) (L := kindsL) kinds_parted (by decide) (hG.mono (by (focus (repeat (first | exact Imp.refl _ | exact Imp.nil _ | apply Imp.drop))))) ?_
  rw [show (if 1 ≤ x.k ∧ x.k < (kindsL.length : Int) then kindsL.getD x.k.toNat [] else []) = nameAt kindsL x.k from rfl]
  refine Ent.wfI ?_
  unfold evT at h
  refine Ent.condE (fun h8 => ?_) fun h8 => ?_
  · rw [if_pos h8] at h
    refine Ent.join ?_
    refine Ent.draw [pt eb (evC x)] (by (focus ((repeat ((with_reducible apply Imp.pick); (repeat (first | exact Pick.hd | apply Pick.tl)))); (repeat (first | exact Imp.refl _ | exact Imp.nil _ | apply Imp.drop)); done))) ?_
    (refine Ent.go ?_)
    refine num_spec hx.n (hG.mono (by (focus (repeat (first | exact Imp.refl _ | exact Imp.nil _ | apply Imp.drop))))) ?_
    refine Ent.wand ?_
    refine Ent.slice (out := ss [nameAt kindsL x.k, Lib.itoa x.n]) rfl rfl rfl rfl (by decide) (by decide) (by rfl) fun b2 => ?_
    refine Ent.wand ?_
    refine line_spec (g := [nameAt kindsL x.k, Lib.itoa x.n]) (by simp) (by simp) (by simp) (by rw [joinB_2]; simp; omega) ?_
    refine Ent.wand ?_
    refine Ent.condE (fun ht => ?_) fun ht => ?_
    · rw [decide_eq_true ht, Bool.true_and] at h
      refine Ent.wgR ?_
      refine Ent.wsI ?_
      rw [len0, ← hbl]
      exact h.drop.drop
    · rw [decide_eq_false ht, Bool.false_and] at h
      exact h.drop.drop
  rw [if_neg h8] at h
  refine Ent.join1 (kd := .bool) (fun t => pur (t = decide (x.k = 2 ∨ x.k = 6)) :: pt eb (evC x) :: rest) ?_ ?_
  rotate_left
  · intro j2 hj2
    refine Ent.wfI ?_
    refine Ent.condE (fun h2 => ?_) fun h2 => ?_
    · refine (hj2 _).imp (Imp.pur ?_ (Imp.refl _))
      rw [decide_eq_true (.inl h2)]
    · refine Ent.wfI ?_
      refine (hj2 _).imp (Imp.pur ?_ (Imp.refl _))
      by_cases h6 : x.k = 6
      · rw [h6]; rfl
      · rw [decide_eq_false (fun hh => hh.elim h2 h6)]
        exact beq_eq_false_iff_ne.2 h6
  intro t
  refine Ent.pur fun ht => ?_
  subst ht
  refine Ent.condD (fun h26 => ?_) fun h26 => ?_
  · rw [if_pos h26] at h
    refine Ent.draw [pt eb (evC x)] (by (focus ((repeat ((with_reducible apply Imp.pick); (repeat (first | exact Pick.hd | apply Pick.tl)))); (repeat (first | exact Imp.refl _ | exact Imp.nil _ | apply Imp.drop)); done))) ?_
    (refine Ent.go ?_)
    refine num_spec hx.t (hG.mono (by (focus (repeat (first | exact Imp.refl _ | exact Imp.nil _ | apply Imp.drop))))) ?_
    refine Ent.wand ?_
    refine num_spec hx.n (hG.mono (by (focus (repeat (first | exact Imp.refl _ | exact Imp.nil _ | apply Imp.drop))))) ?_
    refine Ent.wand ?_
    refine quote_spec (b := x.b) (by have := hx.b; omega) (hr.mono (by (focus (repeat (first | exact Imp.refl _ | exact Imp.nil _ | apply Imp.drop))))) ?_
    refine Ent.wand ?_
    refine Ent.slice (out := ss [nameAt kindsL x.k, Lib.itoa x.t, Lib.itoa x.n, q x.b]) rfl rfl rfl rfl (by decide) (by decide) (by rfl) fun b2 => ?_
    refine Ent.wand ?_
    refine line_spec (g := [nameAt kindsL x.k, Lib.itoa x.t, Lib.itoa x.n, q x.b]) (by simp) (by simp) (by simp) (by rw [joinB_4]; simp; omega) ?_
    refine Ent.wand ?_
    exact h.drop.drop
  · rw [if_neg h26] at h
    refine Ent.draw [pt eb (evC x)] (by (focus ((repeat ((with_reducible apply Imp.pick); (repeat (first | exact Pick.hd | apply Pick.tl)))); (repeat (first | exact Imp.refl _ | exact Imp.nil _ | apply Imp.drop)); done))) ?_
    (refine Ent.go ?_)
    refine num_spec hx.t (hG.mono (by (focus (repeat (first | exact Imp.refl _ | exact Imp.nil _ | apply Imp.drop))))) ?_
    refine Ent.wand ?_
    refine num_spec hx.n (hG.mono (by (focus (repeat (first | exact Imp.refl _ | exact Imp.nil _ | apply Imp.drop))))) ?_
    refine Ent.wand ?_
    refine Ent.slice (out := ss [nameAt kindsL x.k, Lib.itoa x.t, Lib.itoa x.n]) rfl rfl rfl rfl (by decide) (by decide) (by rfl) fun b2 => ?_
    refine Ent.wand ?_
    refine line_spec (g := [nameAt kindsL x.k, Lib.itoa x.t, Lib.itoa x.n]) (by simp) (by simp) (by simp) (by rw [joinB_3]; simp; omega) ?_
    refine Ent.wand ?_
    refine Ent.cond (fun hn => ?_) fun hn => ?_
    · have hn' : nameAt kindsL x.k ≠ [] := fun hh => by rw [hh] at hn; simp at hn
      rw [decide_eq_true hn', Bool.true_and] at h
      refine Ent.wgR ?_
      refine Ent.wsI ?_
      rw [len0, ← hbl]
      exact h.drop.drop
    · have hn' : nameAt kindsL x.k = [] := by
        have h3 : ba (nameAt kindsL x.k) = (⟨#[]⟩ : ByteArray) := by simpa only [Bool.not_eq_false', decide_eq_true_eq] using hn
        simpa [ba] using congrArg (fun z : ByteArray => z.data.toList) h3
      rw [decide_eq_false (fun hh => hh hn'), Bool.false_and] at h
      exact h.drop.drop
end
end Go.Proofs.YtoneapgooihajaaGreatDoor.Qa
