/-
  COLLAPSE (layer 24): Join, End, Leave, New.
-/
import Derived.Test.YtgbihlbgkkpciaaCv
set_option maxRecDepth 100000
set_option linter.unusedVariables false
set_option linter.unusedSectionVars false
set_option linter.unusedSimpArgs false
set_option maxHeartbeats 0
namespace Go.Proofs.Ytgbihlbgkkpciaa.Co
open Go Sh Sl
attribute [local irreducible] condK ArK NilK OpK FnK StK joinK loopK DrawK andK PuK NxK EnK vS uS bS callS invokeS
section
variable {e : Env} {ctx rest : List HProp} {most b : Nat} {X : List Ent1}
def wantB (url : ByteArray) (j : Jb) : Bool := decide (j.url = url) && j.sh && !j.sp
theorem join_c1 {R : List HProp} {x : Ent1} {k : Bool → WP} {bs : Nat} {url : ByteArray} (h : Ent e (JR x :: ([pt bs [.string url]] ++ R)) (k (wantB url x.2.2))) :
    Ent e (JR x :: ([pt bs [.string url]] ++ R)) (FnK P (.one .bool) 45 (#[jv x.2] ++ [tv bs].toArray) k) := by
  obtain ⟨q, p, j⟩ := x
  refine Ent.fn (sh := collapse_Table_Join_c1_sh (tv p) (tv bs) k) (fun w h => collapse_Table_Join_c1_ok w h) ?_
  refine JR.open fun a c => ?_
  have fin : Imp (pt p (jc j a c) :: SlO a j.ws.length c 1 (ii j.ws) :: pt bs [.string url] :: R) (JR (q, p, j) :: ([pt bs [.string url]] ++ R)) := JR.shut
  show Ent e (pt p (jc j a c) :: SlO a j.ws.length c 1 (ii j.ws) :: pt bs [.string url] :: R) _
  unfold jc at fin ⊢
  dsimp only at h
  (refine Ent.go ?_)
  refine Ent.cond (fun hu => ?_) fun hu => ?_
  · have hu' := of_decide_eq_true hu
    (refine Ent.go ?_)
    refine Ent.cond (fun hs => ?_) fun hs => ?_
    · (refine Ent.go ?_)
      have : wantB url j = !j.sp := by simp [wantB, hu', hs]
      rw [← this]
      exact Ent.imp fin h
    · have : wantB url j = false := by simp [wantB, hs]
      rw [← this]
      exact Ent.imp fin h
  · have hu' := of_decide_eq_false hu
    have : wantB url j = false := by simp [wantB, hu']
    rw [← this]
    exact Ent.imp fin h
def joinE (X : List Ent1) (most : Nat) (url : ByteArray) (n e : Int) : Prop :=
  (e = 1 ∧ ¬ (0 ≤ n ∧ n < 16)) ∨ (0 ≤ n ∧ n < 16 ∧ ((e = 9 ∧ ∃ x ∈ X, hasB x.2.2 n = true) ∨ ((∀ x ∈ X, hasB x.2.2 n = false) ∧ ((e = 6 ∧ ∀ x ∈ X, wantB url x.2.2 = false) ∨ ((∃ x ∈ X, wantB url x.2.2 = true) ∧ e = 33 ∧ most ≤ wsum X)))))
theorem wsum_set {c : Int} {p : Nat} {j j' : Jb} {X : List Ent1} (h : mfind c X = some (p, j)) : wsum (mset c (p, j') X) + j.ws.length = wsum X + j'.ws.length := by
  have h1 := wsum_perm (mset_perm (a := c) (b := ((p, j') : Nat × Jb)) (m := X))
  have h2 := wsum_perm (mdel_perm h)
  rw [h1, h2]
  simp [wsum]; omega
theorem keys_set {c : Int} {q q' : Nat × Jb} {X : List Ent1} (h : mfind c X = some q) : ((mset c q' X).map (·.1)).Perm (X.map (·.1)) :=
  ((mset_perm (a := c) (b := q') (m := X)).map (·.1)).trans (((mdel_perm h).map (·.1)).symm)
theorem TOk.set {c : Int} {p : Nat} {j j' : Jb} {X : List Ent1} (hk : TOk X most) (h : mfind c X = some (p, j)) (hw : wsum X + j'.ws.length ≤ most + j.ws.length) : TOk (mset c (p, j') X) most := by
  have hp := keys_set (q' := (p, j')) h
  refine ⟨hp.symm.nodup hk.nd, fun x hx => hk.kb x (hp.subset hx), ?_, hk.mx⟩
  have := wsum_set (j' := j') h
  omega
theorem Mp.set_same {c : Int} {p r : Nat} {j j' : Jb} {X : List Ent1} (h : mfind c X = some (p, j)) : Imp (Mp (intK .i64) jv r X :: ctx) (Mp (intK .i64) jv r (mset c (p, j') X) :: ctx) := by
  refine Mp.congr ?_
  have : ∀ X : List Ent1, mfind c X = some (p, j) → X.map (fun p => ((intK .i64).f p.1, jv p.2)) = (mset c (p, j') X).map (fun p => ((intK .i64).f p.1, jv p.2)) := by
    intro X
    induction X with
    | nil => intro h; cases h
    | cons q m ih =>
      intro h
      simp only [mfind] at h
      by_cases hq : q.1 = c
      · rw [if_pos hq] at h
        obtain ⟨q1, q2, q3⟩ := q
        dsimp only at h hq
        cases h
        simp only [mset, if_pos hq, List.map_cons]
      · rw [if_neg hq] at h
        simp only [mset, if_neg hq, List.map_cons, ih h]
  exact this X h
theorem join_spec {K : Int → Int → WP} {url : ByteArray} {n : Int} (h1 : ∀ e1, joinE X most url n e1 → Ent e (TR b X most :: rest) (K (-1) e1))
    (h0 : ∀ c p j, mfind c X = some (p, j) → wantB url j = true → 0 ≤ n → n < 16 → (∀ x ∈ X, hasB x.2.2 n = false) → wsum X < most → Ent e (TR b (mset c (p, { j with ws := j.ws ++ [n] }) X) most :: rest) (K c 0)) :
    Ent e (TR b X most :: rest) (collapse_Table_Join (tv b) url n K) := by
  (refine Ent.fn collapse_Table_Join_ok ?_; unfold collapse_Table_Join_sh)
  refine Ent.box' fun bu => ?_
  refine Ent.join ?_
  refine Ent.bring (A := TR b X most) ?_
  refine TR.open fun r hk => ?_
  (refine Ent.go ?_)
  have e1 : ∀ e1, joinE X most url n e1 → Ent e (pt b [.map (some r), .int .i64 most] :: Mp (intK .i64) jv r X :: Own JR X :: pt bu [.string url] :: rest) (K (-1) e1) := fun e1 he => by
    refine Ent.imp (TR.shut hk) (Ent.imp (by (focus ((repeat ((with_reducible apply Imp.pick); (repeat (first | exact Pick.hd | apply Pick.tl)))); (repeat (first | exact Imp.refl _ | exact Imp.nil _ | apply Imp.drop)); done))) (h1 e1 he))
  refine slot_spec ?_
  by_cases c3 : 0 ≤ n ∧ n < 16
  rotate_left
  · rw [decide_eq_false c3]
    (refine Ent.go ?_)
    exact e1 1 (.inl ⟨rfl, c3⟩)
  rw [decide_eq_true c3]
  (refine Ent.go ?_)
  refine Ent.imp (TR.shut hk) ?_
  refine of_spec (fun c q hf hp => ?_) (fun hall => ?_)
  · (refine Ent.go ?_)
    exact Ent.imp (by (focus ((repeat ((with_reducible apply Imp.pick); (repeat (first | exact Pick.hd | apply Pick.tl)))); (repeat (first | exact Imp.refl _ | exact Imp.nil _ | apply Imp.drop)); done))) (h1 9 (.inr ⟨c3.1, c3.2, .inl ⟨rfl, _, mfind_mem hf, hp⟩⟩))
  (refine Ent.go ?_)
  refine Ent.imp (ctx' := TR b X most :: ([pt bu [.string url]] ++ rest)) (Imp.refl _) ?_
  refine least_spec (cap := [tv bu]) (wantB url) (by rfl) (fun R x k hl h => join_c1 h) (fun c q hf hp => ?_) (fun hno => ?_)
  rotate_left
  · (refine Ent.go ?_)
    exact Ent.imp (ctx' := TR b X most :: rest) (by show Imp (_ :: _ :: rest) _; (focus ((repeat ((with_reducible apply Imp.pick); (repeat (first | exact Pick.hd | apply Pick.tl)))); (repeat (first | exact Imp.refl _ | exact Imp.nil _ | apply Imp.drop)); done))) (h1 6 (.inr ⟨c3.1, c3.2, .inr ⟨hall, .inl ⟨rfl, hno⟩⟩⟩))
  refine Ent.wF ?_
  refine TR.open fun r hk => ?_
  show Ent e (pt b [.map (some r), .int .i64 most] :: Mp (intK .i64) jv r X :: Own JR X :: pt bu [.string url] :: rest) _
  refine Ent.draw0 ?_
  (refine Ent.go ?_)
  refine waiting_spec' hk ?_
  refine Ent.wand ?_
  by_cases hw : wsum X ≥ most
  · (refine Ent.go ?_)
    refine Ent.imp (TR.shut hk) (Ent.imp (by (focus ((repeat ((with_reducible apply Imp.pick); (repeat (first | exact Pick.hd | apply Pick.tl)))); (repeat (first | exact Imp.refl _ | exact Imp.nil _ | apply Imp.drop)); done))) (h1 33 (.inr ⟨c3.1, c3.2, .inr ⟨hall, .inr ⟨⟨_, mfind_mem hf, hp⟩, rfl, hw⟩⟩⟩)))
  refine Ent.wF ?_
  obtain ⟨p, j⟩ := q
  have hfm := mfind_mem hf
  have hlw : j.ws.length ≤ wsum X := len_wsum hfm
  have hmx := hk.mx
  refine Ent.bring (A := Own JR X) ?_
  refine Ent.imp (Own.take hf) ?_
  refine JR.open fun a c2 => ?_
  refine Ent.draw [pt b [.map (some r), .int .i64 most], Mp (intK .i64) jv r X, pt p (jc j a c2)] (by (focus ((repeat ((with_reducible apply Imp.pick); (repeat (first | exact Pick.hd | apply Pick.tl)))); (repeat (first | exact Imp.refl _ | exact Imp.nil _ | apply Imp.drop)); done))) ?_
  (refine Ent.go ?_)
  refine Ent.stR (st_mgetT (K := intK .i64) (vf := jv) (a := c) (b := (p, j)) (by (repeat (first | exact Has.hd | apply Has.tl))) rfl rfl hf) ?_
  (refine Ent.go ?_)
  refine Ent.stR (st_mgetT (K := intK .i64) (vf := jv) (a := c) (b := (p, j)) (by (repeat (first | exact Has.hd | apply Has.tl))) rfl rfl hf) ?_
  unfold jc
  dsimp only
  (refine Ent.go ?_)
  refine Ent.app1a (by (focus ((repeat ((with_reducible apply Imp.pick); (repeat (first | exact Pick.hd | apply Pick.tl)))); (repeat (first | exact Imp.refl _ | exact Imp.nil _ | apply Imp.drop)); done))) (fun a2 c2' => ?_)
  (refine Ent.go ?_)
  refine Ent.imp ?_ (h0 c p j hf hp c3.1 c3.2 hall (by omega))
  have hl1 : (j.ws ++ [n]).length = j.ws.length + 1 := by simp
  refine Imp.trans (b := JR (c, p, { j with ws := j.ws ++ [n] }) :: Own JR (mdel c X) :: pt b [.map (some r), .int .i64 most] :: Mp (intK .i64) jv r X :: rest) ?_ ?_
  · refine Imp.trans ?_ (JR.shut (k := c) (p := p) (j := { j with ws := j.ws ++ [n] }) (a := a2) (c := c2'))
    have e3 : ii (j.ws ++ [n]) = ii j.ws ++ [.int .i64 n] := by simp [ii]
    dsimp only
    rw [e3, hl1]
    unfold jc
    dsimp only
    rw [hl1]
    (focus ((repeat ((with_reducible apply Imp.pick); (repeat (first | exact Pick.hd | apply Pick.tl)))); (repeat (first | exact Imp.refl _ | exact Imp.nil _ | apply Imp.drop)); done))
  · refine Own.put.trans ?_
    refine Imp.trans (b := Mp (intK .i64) jv r X :: Own JR (mset c (p, { j with ws := j.ws ++ [n] }) X) :: pt b [.map (some r), .int .i64 most] :: rest) (by (focus ((repeat ((with_reducible apply Imp.pick); (repeat (first | exact Pick.hd | apply Pick.tl)))); (repeat (first | exact Imp.refl _ | exact Imp.nil _ | apply Imp.drop)); done))) ?_
    refine (Mp.set_same (j' := { j with ws := j.ws ++ [n] }) hf).trans ?_
    refine Imp.trans (by (focus ((repeat ((with_reducible apply Imp.pick); (repeat (first | exact Pick.hd | apply Pick.tl)))); (repeat (first | exact Imp.refl _ | exact Imp.nil _ | apply Imp.drop)); done))) (TR.shut (r := r) (hk.set hf ?_))
    rw [hl1]; omega
end
end Go.Proofs.Ytgbihlbgkkpciaa.Co
