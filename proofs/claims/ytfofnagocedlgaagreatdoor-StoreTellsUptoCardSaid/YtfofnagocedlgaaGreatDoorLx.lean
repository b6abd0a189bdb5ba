/-
  THE LRU LIST (layer 20): the document's own list's other calls; what the document's examples say.
-/
import Derived.Test.YtfofnagocedlgaaGreatDoorLw
set_option maxRecDepth 100000
set_option linter.unusedVariables false
set_option linter.unusedSectionVars false
set_option linter.unusedSimpArgs false
set_option maxHeartbeats 0
namespace Go.Proofs.YtfofnagocedlgaaGreatDoor.Lr
open Go Sh Sl Fl
attribute [local irreducible] condK ArK NilK OpK FnK StK joinK loopK DrawK andK PuK NxK EnK vS uS bS callS invokeS
section
variable {e : Env} {ctx rest : List HProp} {tr kp : List Int} {most n : Nat}
theorem rremove_spec {K : Int → WP} {b : Nat} {id : Int} (l1 : tr.length ≤ 64) (l2 : kp.length ≤ 64) (hno : toC tr kp id ≠ 0 → Ent e (RRep b tr kp most :: rest) (K (toC tr kp id)))
    (hok : 0 ≤ id → id < 64 → id ∈ tr ++ kp → Ent e (RRep b (out tr id) (out kp id) most :: rest) (K 0)) : Ent e (RRep b tr kp most :: rest) (ref20_List_Remove (.pointer (some ⟨b, 0, none⟩)) id K) := by
  (refine Ent.fn ref20_List_Remove_ok ?_; unfold ref20_List_Remove_sh)
  refine rmay_spec ?_
  unfold toC at hno
  by_cases q1 : id < 0 ∨ 64 ≤ id
  · rw [if_pos q1] at hno
    rw [decide_eq_false (by omega)]
    (refine Ent.go ?_)
    exact hno (by decide)
  rw [if_neg q1] at hno
  rw [decide_eq_true (by omega)]
  (refine Ent.go ?_)
  refine rhas_spec l1 l2 ?_
  by_cases q2 : id ∈ tr ++ kp
  rotate_left
  · rw [if_neg q2] at hno
    rw [decide_eq_false q2]
    (refine Ent.go ?_)
    exact hno (by decide)
  rw [decide_eq_true q2]
  refine RRep.open fun a1 c1 a2 c2 r1 r2 => ?_
  (refine Ent.go ?_)
  refine without_spec (r1 _ (by (repeat (first | exact Has.hd | apply Has.tl)))) (by omega) fun a3 c3 => ?_
  (refine Ent.go ?_)
  refine without_spec (r2 _ (by (repeat (first | exact Has.hd | apply Has.tl)))) (by omega) fun a4 c4 => ?_
  (refine Ent.go ?_)
  refine RRep.fold (tr := out tr id) (kp := out kp id) ?_
  exact Ent.fin (hok (by omega) (by omega) q2)
theorem rvictim_spec {K : Int → Bool → WP} {b : Nat} (l1 : tr.length ≤ 64) (l2 : kp.length ≤ 64) (h : Ent e (RRep b tr kp most :: rest) (K (vic tr kp).1 (vic tr kp).2)) :
    Ent e (RRep b tr kp most :: rest) (ref20_List_Victim (.pointer (some ⟨b, 0, none⟩)) K) := by
  (refine Ent.fn ref20_List_Victim_ok ?_; unfold ref20_List_Victim_sh)
  refine RRep.open fun a1 c1 a2 c2 r1 r2 => ?_
  unfold vic at h
  cases ht : tr.getLast? with
  | some x =>
    rw [ht] at h
    have hne : 0 < tr.length := by cases tr; simp at ht; simp
    have hlast := last_get ht
    (refine Ent.go ?_)
    exact RRep.fold h
  | none =>
    rw [ht] at h
    have hz : tr = [] := by simpa using ht
    subst hz
    cases ht2 : kp.getLast? with
    | some x =>
      rw [ht2] at h
      have hne : 0 < kp.length := by cases kp; simp at ht2; simp
      have hlast := last_get ht2
      (refine Ent.go ?_)
      exact RRep.fold (tr := []) h
    | none =>
      rw [ht2] at h
      have hz : kp = [] := by simpa using ht2
      subst hz
      (refine Ent.go ?_)
      exact RRep.fold (tr := []) (kp := []) h
/-- a list that was just written down -/
theorem Ent.nums {t : Nat} {l : List Int} {ps : Array (Nat × Value)} {n : Nat} {c : Value → WP} (h : ∀ b, Ent e (pt b (ic l) :: ctx) (c (.slice (some ⟨b, 0, none⟩) n n))) (hn : n = l.length := by exact rfl) (ht : dd t = some (.sl 3) := by exact rfl)
    (hf : fillL (fun i => some (i * 1, 1)) (List.replicate n [Value.int .i64 0]).flatten ps.toList = some (ic l) := by exact rfl) (hb : n * 1 ≤ 16777216 := by decide) : Ent e ctx (oR (vS (Instr.buildSlice t n ps)) c) := by
  subst hn
  exact Ent.slice (x := 3) (sz := 1) (by_ := 8) ht rfl rfl rfl hb (by decide) hf h
theorem touch_to {K : Int → WP} {b : Nat} {id : Int} {tr' kp' : List Int} (ht : toT tr kp most id = (tr', kp')) (hc : toC tr kp id = 0) (hn : n + 1 < 4503599627370496)
    (hok : Ent e (LRep b tr' kp' most (n + 2) :: rest) (K 0)) : Ent e (LRep b tr kp most n :: rest) (lru_List_Touch (.pointer (some ⟨b, 0, none⟩)) id K) := by
  refine touch_spec hn (fun h => absurd hc h) fun _ _ _ => ?_
  rw [ht]; exact hok
theorem add_to {K : Int → WP} {b : Nat} {id : Int} (hc : addC tr kp id = 0) (hn : n < 4503599627370496)
    (hok : Ent e (LRep b (id :: tr) kp most (n + 1) :: rest) (K 0)) : Ent e (LRep b tr kp most n :: rest) (lru_List_Add (.pointer (some ⟨b, 0, none⟩)) id K) :=
  add_spec hn (fun h => absurd hc h) fun _ _ _ => hok
theorem add_no {K : Int → WP} {b : Nat} {id x : Int} (hc : addC tr kp id = x) (hx : x ≠ 0) (hn : n < 4503599627370496)
    (hok : Ent e (LRep b tr kp most n :: rest) (K x)) : Ent e (LRep b tr kp most n :: rest) (lru_List_Add (.pointer (some ⟨b, 0, none⟩)) id K) :=
  add_spec hn (fun _ => by rw [hc]; exact hok) fun h1 h2 h3 => absurd hc (by unfold addC; rw [if_neg (by omega), if_neg h3]; exact Ne.symm hx)
theorem touch_no {K : Int → WP} {b : Nat} {id x : Int} (hc : toC tr kp id = x) (hx : x ≠ 0) (hn : n + 1 < 4503599627370496)
    (hok : Ent e (LRep b tr kp most n :: rest) (K x)) : Ent e (LRep b tr kp most n :: rest) (lru_List_Touch (.pointer (some ⟨b, 0, none⟩)) id K) :=
  touch_spec hn (fun _ => by rw [hc]; exact hok) fun h1 h2 h3 => absurd hc (by unfold toC; rw [if_neg (by omega), if_pos h3]; exact Ne.symm hx)
theorem remove_no {K : Int → WP} {b : Nat} {id x : Int} (hc : toC tr kp id = x) (hx : x ≠ 0)
    (hok : Ent e (LRep b tr kp most n :: rest) (K x)) : Ent e (LRep b tr kp most n :: rest) (lru_List_Remove (.pointer (some ⟨b, 0, none⟩)) id K) :=
  remove_spec (fun _ => by rw [hc]; exact hok) fun h1 h2 h3 => absurd hc (by unfold toC; rw [if_neg (by omega), if_pos h3]; exact Ne.symm hx)
end
end Go.Proofs.YtfofnagocedlgaaGreatDoor.Lr
