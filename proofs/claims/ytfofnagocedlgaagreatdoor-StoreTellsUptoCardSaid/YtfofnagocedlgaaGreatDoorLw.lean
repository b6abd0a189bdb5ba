/-
  THE LRU LIST (layer 20): the calls of the document's own list; what the document's examples say.
-/
import Derived.Test.YtfofnagocedlgaaGreatDoorLv
set_option maxRecDepth 100000
set_option linter.unusedVariables false
set_option linter.unusedSectionVars false
set_option linter.unusedSimpArgs false
set_option maxHeartbeats 0
namespace Go.Proofs.YtfofnagocedlgaaGreatDoor.Lr
open Go Sh Sl Fl
attribute [local irreducible] condK ArK NilK OpK FnK StK joinK loopK DrawK andK PuK NxK EnK vS uS bS callS invokeS
def RRep (b : Nat) (tr kp : List Int) (most : Nat) : HProp := exs fun (x : Option Addr × Nat × Option Addr × Nat) =>
  sepL [pt b [.slice x.1 tr.length x.2.1, .slice x.2.2.1 kp.length x.2.2.2, .int .i64 most], SlO x.1 tr.length x.2.1 1 (ic tr), SlO x.2.2.1 kp.length x.2.2.2 1 (ic kp)]
section
variable {e : Env} {ctx rest : List HProp} {tr kp : List Int} {most n : Nat}
theorem RRep.open {b : Nat} {c : WP} (h : ∀ a1 c1 a2 c2, (∀ ctx', Has ctx' (SlO a1 tr.length c1 1 (ic tr)) → Rd ctx' a1 (ic tr)) → (∀ ctx', Has ctx' (SlO a2 kp.length c2 1 (ic kp)) → Rd ctx' a2 (ic kp)) →
    Ent e (pt b [.slice a1 tr.length c1, .slice a2 kp.length c2, .int .i64 most] :: SlO a1 tr.length c1 1 (ic tr) :: SlO a2 kp.length c2 1 (ic kp) :: rest) c) : Ent e (RRep b tr kp most :: rest) c := by
  refine Ent.exs fun ⟨a1, c1, a2, c2⟩ => Ent.g3 ?_
  dsimp only
  refine Ent.bring (A := SlO a1 tr.length c1 1 (ic tr)) ?_
  refine Ent.rdS fun r1 _ => ?_
  refine Ent.bring (A := SlO a2 kp.length c2 1 (ic kp)) ?_
  refine Ent.rdS fun r2 _ => ?_
  exact Ent.fin (h a1 c1 a2 c2 r1 r2)
theorem RRep.imp {b c1 c2 : Nat} {a1 a2 : Option Addr} : Imp (pt b [.slice a1 tr.length c1, .slice a2 kp.length c2, .int .i64 most] :: SlO a1 tr.length c1 1 (ic tr) :: SlO a2 kp.length c2 1 (ic kp) :: rest) (RRep b tr kp most :: rest) :=
  Imp.exs (a1, c1, a2, c2) (Imp.g3 (Imp.refl _))
/-- folding, wherever the parts lie -/
theorem RRep.fold {b c1 c2 : Nat} {a1 a2 : Option Addr} {r r' r'' : List HProp} {c : WP} (h : Ent e (RRep b tr kp most :: r'') c) (h1 : Pick ctx (pt b [.slice a1 tr.length c1, .slice a2 kp.length c2, .int .i64 most]) r := by (repeat (first | exact Pick.hd | apply Pick.tl)))
    (h2 : Pick r (SlO a1 tr.length c1 1 (ic tr)) r' := by (repeat (first | exact Pick.hd | apply Pick.tl))) (h3 : Pick r' (SlO a2 kp.length c2 1 (ic kp)) r'' := by (repeat (first | exact Pick.hd | apply Pick.tl))) : Ent e ctx c := by
  refine h.imp ?_
  refine Imp.trans ?_ (RRep.imp (b := b) (c1 := c1) (c2 := c2) (a1 := a1) (a2 := a2))
  exact Imp.pick h1 (Imp.pick h2 (Imp.pick h3 (Imp.refl _)))
theorem rnew_spec {K : Value → Int → WP} {kept : Int} (hbad : ¬ (0 ≤ kept ∧ kept ≤ 64) → Ent e rest (K (.pointer none) 1))
    (hok : ∀ b, 0 ≤ kept → kept ≤ 64 → Ent e (RRep b [] [] kept.toNat :: rest) (K (.pointer (some ⟨b, 0, none⟩)) 0)) : Ent e rest (ref20_New kept K) := by
  (refine Ent.fn ref20_New_ok ?_; unfold ref20_New_sh)
  refine Ent.condD (fun h => hbad (by omega)) fun h1 => ?_
  refine Ent.condD (fun h => hbad (by omega)) fun h2 => ?_
  (refine Ent.go ?_)
  refine Ent.box' fun b => ?_
  obtain ⟨k, rfl⟩ := Int.eq_ofNat_of_zero_le (by omega : 0 ≤ kept)
  have := hok b (by omega) (by omega)
  rw [Int.toNat_natCast] at this
  refine Ent.slN (sz := 1) (Ent.slN (sz := 1) ?_)
  refine Ent.bring (A := pt b _) ?_
  exact this.imp (RRep.imp (tr := []) (kp := []))
theorem rmay_spec {K : Bool → WP} {id : Int} (h : Ent e ctx (K (decide (0 ≤ id ∧ id < 64)))) : Ent e ctx (ref20_may id K) := by
  (refine Ent.fn ref20_may_ok ?_; unfold ref20_may_sh)
  refine Ent.condD (fun h1 => ?_) fun h1 => ?_
  · by_cases h2 : id < 64
    · rw [decide_eq_true h2]; rw [decide_eq_true ⟨by omega, h2⟩] at h; exact h
    · rw [decide_eq_false h2]; rw [decide_eq_false (by omega)] at h; exact h
  · rw [decide_eq_false (by omega)] at h; exact h
theorem rhas_spec {K : Bool → WP} {b : Nat} {id : Int} (l1 : tr.length ≤ 64) (l2 : kp.length ≤ 64) (h : Ent e (RRep b tr kp most :: rest) (K (decide (id ∈ tr ++ kp)))) : Ent e (RRep b tr kp most :: rest) (ref20_List_Has (.pointer (some ⟨b, 0, none⟩)) id K) := by
  (refine Ent.fn ref20_List_Has_ok ?_; unfold ref20_List_Has_sh)
  refine RRep.open fun a1 c1 a2 c2 r1 r2 => ?_
  (refine Ent.go ?_)
  refine has_spec (r1 _ (by (repeat (first | exact Has.hd | apply Has.tl)))) (by omega) ?_
  by_cases h1 : id ∈ tr
  · rw [decide_eq_true h1]
    rw [decide_eq_true (List.mem_append_left _ h1)] at h
    (refine Ent.go ?_)
    exact RRep.fold h
  · rw [decide_eq_false h1]
    (refine Ent.go ?_)
    refine has_spec (r2 _ (by (repeat (first | exact Has.hd | apply Has.tl)))) (by omega) ?_
    have e1 : decide (id ∈ tr ++ kp) = decide (id ∈ kp) := by simp [h1]
    rw [e1] at h
    exact RRep.fold h
theorem radd_spec {K : Int → WP} {b : Nat} {id : Int} (l1 : tr.length ≤ 64) (l2 : kp.length ≤ 64) (hno : addC tr kp id ≠ 0 → Ent e (RRep b tr kp most :: rest) (K (addC tr kp id)))
    (hok : 0 ≤ id → id < 64 → id ∉ tr ++ kp → Ent e (RRep b (id :: tr) kp most :: rest) (K 0)) : Ent e (RRep b tr kp most :: rest) (ref20_List_Add (.pointer (some ⟨b, 0, none⟩)) id K) := by
  (refine Ent.fn ref20_List_Add_ok ?_; unfold ref20_List_Add_sh)
  refine rmay_spec ?_
  unfold addC at hno
  by_cases q1 : id < 0 ∨ 64 ≤ id
  · rw [if_pos q1] at hno
    rw [decide_eq_false (by omega)]
    (refine Ent.go ?_)
    exact hno (by decide)
  rw [if_neg q1] at hno
  rw [decide_eq_true (by omega)]
  (refine Ent.go ?_)
  refine rhas_spec l1 l2 ?_
  by_cases q2 : id ∈ tr ++ kp
  · rw [if_pos q2] at hno
    rw [decide_eq_true q2]
    (refine Ent.go ?_)
    exact hno (by decide)
  · rw [decide_eq_false q2]
    refine RRep.open fun a1 c1 a2 c2 r1 r2 => ?_
    (refine Ent.go ?_)
    refine ahead_spec (r1 _ (by (repeat (first | exact Has.hd | apply Has.tl)))) (by omega) fun a3 c3 => ?_
    (refine Ent.go ?_)
    refine RRep.fold (tr := id :: tr) ?_
    exact Ent.fin (hok (by omega) (by omega) q2)
theorem rtouch_spec {K : Int → WP} {b : Nat} {id : Int} (l1 : tr.length ≤ 64) (l2 : kp.length ≤ 64) (hno : toC tr kp id ≠ 0 → Ent e (RRep b tr kp most :: rest) (K (toC tr kp id)))
    (hok : 0 ≤ id → id < 64 → id ∈ tr ++ kp → Ent e (RRep b (toT tr kp most id).1 (toT tr kp most id).2 most :: rest) (K 0)) : Ent e (RRep b tr kp most :: rest) (ref20_List_Touch (.pointer (some ⟨b, 0, none⟩)) id K) := by
  (refine Ent.fn ref20_List_Touch_ok ?_; unfold ref20_List_Touch_sh)
  refine rmay_spec ?_
  unfold toC at hno
  by_cases q1 : id < 0 ∨ 64 ≤ id
  · rw [if_pos q1] at hno
    rw [decide_eq_false (by omega)]
    (refine Ent.go ?_)
    exact hno (by decide)
  rw [if_neg q1] at hno
  rw [decide_eq_true (by omega)]
  (refine Ent.go ?_)
  refine rhas_spec l1 l2 ?_
  by_cases q2 : id ∈ tr ++ kp
  rotate_left
  · rw [if_neg q2] at hno
    rw [decide_eq_false q2]
    (refine Ent.go ?_)
    exact hno (by decide)
  rw [decide_eq_true q2]
  have ho := hok (by omega) (by omega) q2
  unfold toT at ho
  refine RRep.open fun a1 c1 a2 c2 r1 r2 => ?_
  have f1 : (out tr id).length ≤ tr.length := List.length_filter_le _ _
  have f2 : (out kp id).length ≤ kp.length := List.length_filter_le _ _
  (refine Ent.go ?_)
  refine without_spec (r1 _ (by (repeat (first | exact Has.hd | apply Has.tl)))) (by omega) fun a3 c3 => ?_
  refine Ent.rdS fun r3 _ => ?_
  (refine Ent.go ?_)
  refine without_spec (r2 _ (by (repeat (first | exact Has.hd | apply Has.tl)))) (by omega) fun a4 c4 => ?_
  refine Ent.rdS fun r4 _ => ?_
  refine ahead_spec (r4 _ (by (repeat (first | exact Has.hd | apply Has.tl)))) (by omega) fun a5 c5 => ?_
  refine Ent.rdS fun r5 _ => ?_
  obtain ⟨L, hL⟩ : ∃ L, L = id :: out kp id := ⟨_, rfl⟩
  have hpos : 0 < L.length ∧ L.length ≤ 65 := by rw [hL]; simp; omega
  by_cases hl : most < (id :: out kp id).length
  · rw [if_pos hl] at ho
    have hlast : (id :: out kp id)[(id :: out kp id).length - 1]? = some ((id :: out kp id).getLast (by simp)) := by
      rw [List.getLast_eq_getElem, ← List.getElem?_eq_getElem]
    obtain ⟨x, hx⟩ : ∃ x, x = (id :: out kp id).getLast (by simp) := ⟨_, rfl⟩
    rw [← hx] at hlast ho
    rw [← hL] at hl hlast ho r5 ⊢
    have e1 : ((L.length : Int) - 1).toNat = L.length - 1 := by omega
    have f3 : (out L x).length ≤ L.length := List.length_filter_le _ _
    rw [← e1] at hlast
    (refine Ent.go ?_)
    refine without_spec (r5 _ (by (repeat (first | exact Has.hd | apply Has.tl)))) (by omega) fun a6 c6 => ?_
    (refine Ent.go ?_)
    refine ahead_spec (r3 _ (by (repeat (first | exact Has.hd | apply Has.tl)))) (by omega) fun a7 c7 => ?_
    (refine Ent.go ?_)
    refine RRep.fold (tr := x :: out tr id) (kp := out L x) ?_
    exact Ent.fin ho
  · rw [if_neg hl] at ho
    rw [← hL] at hl ho r5 ⊢
    (refine Ent.go ?_)
    refine RRep.fold (tr := out tr id) (kp := L) ?_
    exact Ent.fin ho
end
end Go.Proofs.YtfofnagocedlgaaGreatDoor.Lr
