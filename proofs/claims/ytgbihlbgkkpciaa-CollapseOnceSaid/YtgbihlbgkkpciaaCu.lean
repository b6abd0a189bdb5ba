/-
  COLLAPSE (layer 24): what the table's methods do.
-/
import Derived.Test.YtgbihlbgkkpciaaCt
set_option maxRecDepth 100000
set_option linter.unusedVariables false
set_option linter.unusedSectionVars false
set_option linter.unusedSimpArgs false
set_option maxHeartbeats 0
namespace Go.Proofs.Ytgbihlbgkkpciaa.Co
open Go Sh Sl
attribute [local irreducible] condK ArK NilK OpK FnK StK joinK loopK DrawK andK PuK NxK EnK vS uS bS callS invokeS
section
variable {e : Env} {ctx rest : List HProp} {most b : Nat} {X : List Ent1}
theorem JR.open {x : Ent1} {p : WP} (h : ∀ a c, Ent e (pt x.2.1 (jc x.2.2 a c) :: SlO a x.2.2.ws.length c 1 (ii x.2.2.ws) :: rest) p) : Ent e (JR x :: rest) p :=
  Ent.exs fun y => Ent.g2 (h y.1 y.2)
theorem JR.shut {k : Int} {p : Nat} {j : Jb} {a : Option Addr} {c : Nat} : Imp (pt p (jc j a c) :: SlO a j.ws.length c 1 (ii j.ws) :: rest) (JR (k, p, j) :: rest) := Imp.exs (a, c) (Imp.g2 (Imp.refl _))
theorem of_c1 {R : List HProp} {x : Ent1} {k : Bool → WP} {bs : Nat} {slot : Int} (hl : x.2.2.ws.length ≤ 16) (h : Ent e (JR x :: ([pt bs [.int .i64 slot]] ++ R)) (k (hasB x.2.2 slot))) :
    Ent e (JR x :: ([pt bs [.int .i64 slot]] ++ R)) (FnK P (.one .bool) 49 (#[jv x.2] ++ [tv bs].toArray) k) := by
  obtain ⟨q, p, j⟩ := x
  refine Ent.fn (sh := collapse_Table_Of_c1_sh (tv p) (tv bs) k) (fun w h => collapse_Table_Of_c1_ok w h) ?_
  refine JR.open fun a c => ?_
  refine Ent.bring (A := SlO a j.ws.length c 1 (ii j.ws)) ?_
  refine Ent.rdS fun hrd _ => ?_
  have fin : Imp (SlO a j.ws.length c 1 (ii j.ws) :: pt p (jc j a c) :: pt bs [.int .i64 slot] :: R) (JR (q, p, j) :: ([pt bs [.int .i64 slot]] ++ R)) := by
    refine Imp.trans ?_ (JR.shut (a := a) (c := c))
    show Imp _ (_ :: _ :: _ :: R)
    (focus ((repeat ((with_reducible apply Imp.pick); (repeat (first | exact Pick.hd | apply Pick.tl)))); (repeat (first | exact Imp.refl _ | exact Imp.nil _ | apply Imp.drop)); done))
  show Ent e (SlO a j.ws.length c 1 (ii j.ws) :: pt p (jc j a c) :: pt bs [.int .i64 slot] :: R) _
  dsimp only at hl hrd
  unfold jc
  (refine Ent.go ?_)
  by_cases h1 : j.ld = slot
  · (refine Ent.go ?_)
    by_cases h2 : 0 ≤ slot
    · (refine Ent.go ?_)
      refine Ent.imp fin ?_
      have : hasB j slot = true := by simp [hasB, h1, h2]
      rw [← this]; exact h
    · (refine Ent.go ?_)
      refine contains_spec rfl (by omega) (hrd _ (by (repeat (first | exact Has.hd | apply Has.tl)))) ?_
      (refine Ent.go ?_)
      refine Ent.imp fin ?_
      have : hasB j slot = decide (slot ∈ j.ws) := by simp [hasB, h2]
      rw [← this]; exact h
  · (refine Ent.go ?_)
    refine contains_spec rfl (by omega) (hrd _ (by (repeat (first | exact Has.hd | apply Has.tl)))) ?_
    (refine Ent.go ?_)
    refine Ent.imp fin ?_
    have : hasB j slot = decide (slot ∈ j.ws) := by simp [hasB, h1]
    rw [← this]; exact h
theorem of_spec {K : Int → Bool → WP} {slot : Int} (h1 : ∀ c q, mfind c X = some q → hasB q.2 slot = true → Ent e (TR b X most :: rest) (K c true)) (h0 : (∀ x ∈ X, hasB x.2.2 slot = false) → Ent e (TR b X most :: rest) (K (-1) false)) :
    Ent e (TR b X most :: rest) (collapse_Table_Of (tv b) slot K) := by
  (refine Ent.fn collapse_Table_Of_ok ?_; unfold collapse_Table_Of_sh)
  refine Ent.box' fun bs => ?_
  refine Ent.imp (ctx' := TR b X most :: ([pt bs [.int .i64 slot]] ++ rest)) (by show Imp _ (_ :: _ :: rest); (focus ((repeat ((with_reducible apply Imp.pick); (repeat (first | exact Pick.hd | apply Pick.tl)))); (repeat (first | exact Imp.refl _ | exact Imp.nil _ | apply Imp.drop)); done))) ?_
  refine least_spec (cap := [tv bs]) (fun j => hasB j slot) (by rfl) (fun R x k hl h => of_c1 hl h) (fun c q hf hp => ?_) (fun hall => ?_)
  · exact Ent.imp (by show Imp (_ :: _ :: rest) _; (focus ((repeat ((with_reducible apply Imp.pick); (repeat (first | exact Pick.hd | apply Pick.tl)))); (repeat (first | exact Imp.refl _ | exact Imp.nil _ | apply Imp.drop)); done))) (h1 c q hf hp)
  · exact Ent.imp (by show Imp (_ :: _ :: rest) _; (focus ((repeat ((with_reducible apply Imp.pick); (repeat (first | exact Pick.hd | apply Pick.tl)))); (repeat (first | exact Imp.refl _ | exact Imp.nil _ | apply Imp.drop)); done))) (h0 hall)
theorem slot_spec {K : Bool → WP} {n : Int} (h : Ent e rest (K (decide (0 ≤ n ∧ n < 16)))) : Ent e rest (collapse_slot n K) := by
  (refine Ent.fn collapse_slot_ok ?_; unfold collapse_slot_sh)
  by_cases h0 : 0 ≤ n
  · (refine Ent.go ?_)
    have : decide (n < 16) = decide (0 ≤ n ∧ n < 16) := by simp [h0]
    rw [this]; exact h
  · (refine Ent.go ?_)
    have : decide (0 ≤ n ∧ n < 16) = false := by simp [h0]
    rw [← this]; exact h
theorem nilT {op : BinOp} {X Y : Operand} : Pu (bS .eql 49 X Y (tv b) (.pointer none)) (.bool false) := st_nilP (by rfl) (.inr rfl)
/-- what Begin answers -/
def beginC (X : List Ent1) (conn leader : Int) : Int :=
  if conn < 0 ∨ conn ≥ 8 ∨ ¬ (0 ≤ leader ∧ leader < 16) then 1
  else if (∃ x ∈ X, hasB x.2.2 leader = true) ∨ (mfind conn X).isSome then 9 else 0
theorem begin_spec {K : Int → WP} {conn leader : Int} {url : ByteArray} {sh : Bool} (h1 : beginC X conn leader ≠ 0 → Ent e (TR b X most :: rest) (K (beginC X conn leader)))
    (h0 : beginC X conn leader = 0 → 0 ≤ leader → leader < 16 → (∀ x ∈ X, hasB x.2.2 leader = false) → mfind conn X = none → ∀ p, Ent e (TR b (mset conn (p, ⟨url, sh, false, leader, []⟩) X) most :: rest) (K 0)) :
    Ent e (TR b X most :: rest) (collapse_Table_Begin (tv b) conn url sh leader K) := by
  (refine Ent.fn collapse_Table_Begin_ok ?_; unfold collapse_Table_Begin_sh)
  refine Ent.join ?_
  refine TR.open fun r hk => ?_
  (refine Ent.go ?_)
  refine Ent.join ?_
  have back : Ent e (TR b X most :: rest) (K (beginC X conn leader)) → Ent e (pt b [.map (some r), .int .i64 most] :: Mp (intK .i64) jv r X :: Own JR X :: rest) (K (beginC X conn leader)) := fun k => Ent.imp (TR.shut hk) k
  by_cases c1 : conn < 0
  · have e1 : beginC X conn leader = 1 := by unfold beginC; rw [if_pos (.inl c1)]
    (refine Ent.go ?_)
    rw [← e1]; exact back (h1 (by rw [e1]; decide))
  by_cases c2 : conn ≥ 8
  · have e1 : beginC X conn leader = 1 := by unfold beginC; rw [if_pos (.inr (.inl c2))]
    (refine Ent.go ?_)
    rw [← e1]; exact back (h1 (by rw [e1]; decide))
  (refine Ent.go ?_)
  refine slot_spec ?_
  by_cases c3 : 0 ≤ leader ∧ leader < 16
  rotate_left
  · have e1 : beginC X conn leader = 1 := by unfold beginC; rw [if_pos (.inr (.inr c3))]
    rw [decide_eq_false c3]
    (refine Ent.go ?_)
    rw [← e1]; exact back (h1 (by rw [e1]; decide))
  rw [decide_eq_true c3]
  (refine Ent.go ?_)
  refine Ent.imp (TR.shut hk) ?_
  refine of_spec (fun c q hf hp => ?_) (fun hall => ?_)
  · have e1 : beginC X conn leader = 9 := by
      unfold beginC
      rw [if_neg (by omega), if_pos (.inl ⟨_, mfind_mem hf, hp⟩)]
    refine Ent.join ?_
    (refine Ent.go ?_)
    rw [← e1]; exact h1 (by rw [e1]; decide)
  · refine Ent.join ?_
    (refine Ent.go ?_)
    refine TR.open fun r hk => ?_
    (refine Ent.go ?_)
    cases hf : mfind conn X with
    | some q =>
      have e1 : beginC X conn leader = 9 := by
        unfold beginC
        rw [if_neg (by omega), if_pos (.inr (by simp [hf]))]
      refine Ent.opR (st_mgetT (K := intK .i64) (vf := jv) (a := conn) (b := q) (by (repeat (first | exact Has.hd | apply Has.tl))) rfl rfl hf) ?_
      (refine Ent.go ?_)
      refine Ent.imp (TR.shut hk) ?_
      rw [← e1]; exact h1 (by rw [e1]; decide)
    | none =>
      have e1 : beginC X conn leader = 0 := by
        unfold beginC
        rw [if_neg (by omega), if_neg ?_]
        rintro (⟨x, hx, hp⟩ | h)
        · rw [hall x hx] at hp; cases hp
        · rw [hf] at h; cases h
      refine Ent.opR (st_mgetF (K := intK .i64) (vf := jv) (a := conn) (z := .pointer none) (by (repeat (first | exact Has.hd | apply Has.tl))) rfl rfl hf (by kernel_rfl)) ?_
      (refine Ent.go ?_)
      refine Ent.box' (l := [.string url, .bool sh, .bool false, .int .i64 leader, .slice none 0 0]) (fun p => ?_) rfl
      refine Ent.mset (K := intK .i64) (vf := jv) (a := conn) (b := ((p, ⟨url, sh, false, leader, []⟩) : Nat × Jb)) (by (repeat (first | exact Upd.hd | apply Upd.tl))) rfl rfl ?_
      refine Ent.imp ?_ (h0 e1 c3.1 c3.2 hall hf p)
      refine Imp.trans ?_ (TR.shut (r := r) ⟨mset_nodup hk.nd, fun x hx => ?_, ?_, hk.mx⟩)
      · refine Imp.trans (b := JR (conn, p, ⟨url, sh, false, leader, []⟩) :: Own JR X :: pt b [.map (some r), .int .i64 most] :: Mp (intK .i64) jv r (mset conn (p, ⟨url, sh, false, leader, []⟩) X) :: rest) ?_ ?_
        · refine Imp.trans ?_ (JR.shut (k := conn) (a := none) (c := 0))
          refine Imp.trans (Imp.slN (sz := 1) (Imp.refl _)) ?_
          unfold jc
          (focus ((repeat ((with_reducible apply Imp.pick); (repeat (first | exact Pick.hd | apply Pick.tl)))); (repeat (first | exact Imp.refl _ | exact Imp.nil _ | apply Imp.drop)); done))
        · refine (Own.new hf).trans ?_
          (focus ((repeat ((with_reducible apply Imp.pick); (repeat (first | exact Pick.hd | apply Pick.tl)))); (repeat (first | exact Imp.refl _ | exact Imp.nil _ | apply Imp.drop)); done))
      · rw [mset_new hf, List.map_append, List.mem_append] at hx
        rcases hx with hx | hx
        · exact hk.kb x hx
        · simp only [List.map_cons, List.map_nil, List.mem_singleton] at hx
          subst hx; omega
      · have : wsum (mset conn (p, ⟨url, sh, false, leader, []⟩) X) = wsum X := by
          rw [mset_new hf]; simp [wsum]
        rw [this]; exact hk.wt
end
end Go.Proofs.Ytgbihlbgkkpciaa.Co
