/- LruKnown: THE DOCUMENT's EXAMPLES OF THE LIST, THE ENDS, NO LIST (closed): the whole statement. -/
import Derived.Test.YtgbihlbgkkpciaaLx
import Derived.Test.YtgbihlbgkkpciaaRv
import Derived.Test.YtgbihlbgkkpciaaLift
set_option linter.unusedVariables false
set_option linter.unusedSectionVars false
set_option linter.unusedSimpArgs false
set_option maxRecDepth 100000
set_option maxHeartbeats 0
namespace Go.Proofs.Ytgbihlbgkkpciaa.lruKnown
open Go Sh Sl Lr
open Go.ChangeShapes Go.WideShapes Go.ChangeAt Go.RowKit
section
attribute [local irreducible] condK ArK NilK OpK FnK StK joinK loopK DrawK andK PuK NxK EnK vS uS bS callS invokeS
variable {e : Env} {ctx rest : List HProp}
theorem spec {K : Bool → WP} (h : Ent e ctx (K true)) : Ent e ctx (law20_LruKnown K) := by
  (refine Ent.fn law20_LruKnown_ok ?_; unfold law20_LruKnown_sh)
  refine new_spec (kept := 2) (fun h => absurd h (by decide)) fun b _ _ => ?_
  rw [show (2 : Int).toNat = 2 from rfl]
  refine Ent.join ?_
  refine awake_spec ?_
  (refine Ent.go ?_)
  refine victim_spec ?_
  rw [show vic [] [] = (0, false) from rfl]
  refine Ent.nums (l := [1, 2, 3]) fun s => ?_
  (refine Ent.go ?_)
  refine Ent.rngL0 3 (fun k => LRep b (match k with | 0 => [] | 1 => [1] | 2 => [2, 1] | _ => [3, 2, 1]) [] 2 k :: pt s (ic [1, 2, 3]) :: ctx) rfl (by (focus ((repeat ((with_reducible apply Imp.pick); (repeat (first | exact Pick.hd | apply Pick.tl)))); (repeat (first | exact Imp.refl _ | exact Imp.nil _ | apply Imp.drop)); done))) ?_
  intro k hk K' hK
  match k, hk with
  | 0, _ =>
    (refine Ent.go ?_)
    refine Ent.bring (A := LRep b _ _ _ _) ?_
    refine add_to (by decide) (by decide) ?_
    (refine Ent.go ?_)
    exact hK (by omega)
  | 1, _ =>
    (refine Ent.go ?_)
    refine Ent.bring (A := LRep b _ _ _ _) ?_
    refine add_to (by decide) (by decide) ?_
    (refine Ent.go ?_)
    exact hK (by omega)
  | 2, _ =>
    (refine Ent.go ?_)
    refine Ent.bring (A := LRep b _ _ _ _) ?_
    refine add_to (by decide) (by decide) ?_
    (refine Ent.go ?_)
    exact hK (by omega)
  | 3, _ =>
  clear hK
  (refine Ent.go ?_)
  refine Ent.nums (l := [1, 2, 3]) fun s2 => ?_
  (refine Ent.go ?_)
  refine Ent.rngL0 3 (fun k => LRep b (match k with | 0 => [3, 2, 1] | 1 => [3, 2] | 2 => [3] | _ => [1]) (match k with | 0 => [] | 1 => [1] | 2 => [2, 1] | _ => [3, 2]) 2 (3 + 2 * k) :: pt s2 (ic [1, 2, 3]) :: ctx) rfl (by (focus ((repeat ((with_reducible apply Imp.pick); (repeat (first | exact Pick.hd | apply Pick.tl)))); (repeat (first | exact Imp.refl _ | exact Imp.nil _ | apply Imp.drop)); done))) ?_
  intro k hk K' hK
  match k, hk with
  | 0, _ =>
    (refine Ent.go ?_)
    refine Ent.bring (A := LRep b _ _ _ _) ?_
    refine touch_to (tr' := [3, 2]) (kp' := [1]) (by decide) (by decide) (by decide) ?_
    (refine Ent.go ?_)
    exact hK (by omega)
  | 1, _ =>
    (refine Ent.go ?_)
    refine Ent.bring (A := LRep b _ _ _ _) ?_
    refine touch_to (tr' := [3]) (kp' := [2, 1]) (by decide) (by decide) (by decide) ?_
    (refine Ent.go ?_)
    exact hK (by omega)
  | 2, _ =>
    (refine Ent.go ?_)
    refine Ent.bring (A := LRep b _ _ _ _) ?_
    refine touch_to (tr' := [1]) (kp' := [3, 2]) (by decide) (by decide) (by decide) ?_
    (refine Ent.go ?_)
    exact hK (by omega)
  | 3, _ =>
  clear hK
  (refine Ent.go ?_)
  refine Ent.bring (A := LRep b _ _ _ _) ?_
  refine victim_spec (tr := [1]) (kp := [3, 2]) ?_
  rw [show vic [1] [3, 2] = (1, true) from rfl]
  refine new_spec (kept := 0) (fun h => absurd h (by decide)) fun z _ _ => ?_
  rw [show (0 : Int).toNat = 0 from rfl]
  refine add_to (by decide) (by decide) ?_
  refine add_to (by decide) (by decide) ?_
  refine touch_to (tr' := [5, 6]) (kp' := []) (by decide) (by decide) (by decide) ?_
  refine new_spec (kept := -1) (fun _ => ?_) fun _ h => absurd h (by decide)
  refine new_spec (kept := 65) (fun _ => ?_) fun _ _ h => absurd h (by decide)
  refine new_spec (kept := 64) (fun h => absurd h (by decide)) fun y _ _ => ?_
  refine victim_nil ?_
  (refine Ent.go ?_)
  refine Ent.bring (A := LRep b _ _ _ _) ?_
  refine tried_spec fun a1 c1 => ?_
  refine Ent.rdS fun r1 _ => ?_
  refine Ent.nums (l := [1]) fun s3 => ?_
  refine same_spec (l := [1]) (m := [1]) (r1 _ (by (repeat (first | exact Has.hd | apply Has.tl)))) (Rd.pt (by (repeat (first | exact Has.hd | apply Has.tl)))) (by decide) ?_
  (refine Ent.go ?_)
  refine Ent.bring (A := LRep b _ _ _ _) ?_
  refine kept_spec fun a2 c2 => ?_
  refine Ent.rdS fun r2 _ => ?_
  refine Ent.nums (l := [3, 2]) fun s4 => ?_
  refine same_spec (l := [3, 2]) (m := [3, 2]) (r2 _ (by (repeat (first | exact Has.hd | apply Has.tl)))) (Rd.pt (by (repeat (first | exact Has.hd | apply Has.tl)))) (by decide) ?_
  (refine Ent.go ?_)
  refine Ent.bring (A := LRep z _ _ _ _) ?_
  refine tried_spec fun a3 c3 => ?_
  refine Ent.rdS fun r3 _ => ?_
  refine Ent.nums (l := [5, 6]) fun s5 => ?_
  refine same_spec (l := [5, 6]) (m := [5, 6]) (r3 _ (by (repeat (first | exact Has.hd | apply Has.tl)))) (Rd.pt (by (repeat (first | exact Has.hd | apply Has.tl)))) (by decide) ?_
  (refine Ent.go ?_)
  refine Ent.bring (A := LRep b _ _ _ _) ?_
  refine add_no (x := 9) (by decide) (by decide) (by decide) ?_
  (refine Ent.go ?_)
  refine touch_no (x := 6) (by decide) (by decide) (by decide) ?_
  (refine Ent.go ?_)
  refine remove_no (x := 6) (by decide) (by decide) ?_
  (refine Ent.go ?_)
  refine add_no (x := 1) (by decide) (by decide) (by decide) ?_
  (refine Ent.go ?_)
  refine touch_no (x := 1) (by decide) (by decide) (by decide) ?_
  (refine Ent.go ?_)
  refine remove_no (x := 1) (by decide) (by decide) ?_
  (refine Ent.go ?_)
  refine add_nil ?_
  (refine Ent.go ?_)
  refine touch_nil ?_
  (refine Ent.go ?_)
  refine remove_nil ?_
  (refine Ent.go ?_)
  refine tried_nil ?_
  (refine Ent.go ?_)
  refine kept_nil ?_
  (refine Ent.go ?_)
  refine copy_nil ?_
  (refine Ent.go ?_)
  refine Ent.imp ?_ h
  (focus (repeat (first | exact Imp.refl _ | exact Imp.nil _ | apply Imp.drop)))
end
theorem walk {H : Type} {enc : TypeId × Value → H} {W : World} (base : Nat) (args : Array Value) (ds : List (DataW H)) (hval : ∀ (j : Nat) t v, Try.f6.params[j]? = some t → args[j]? = some v → Value.okWide Try.prog W .any base t v)
    (hA : ∃ p, DataW.TrodAll enc P W 0 (fun _ => true) true Try.f6.params.toList args.toList ds p) :
    Calls P 6 args W fun e W' => e = .returned (.bool true) ∧ Below W.heap.size W W' := by
  obtain ⟨p, hA⟩ := hA
  have hp : Try.f6.params.toList = [] := rfl
  rw [hp] at hA
  obtain ⟨h1, rfl⟩ := Lift.tr_nil hA
  obtain ⟨l, rfl⟩ : ∃ l : List Value, args = l.toArray := ⟨args.toList, by simp⟩
  simp only [List.toList_toArray] at h1
  subst h1
  exact Lift.calls_of fun K h => spec h
theorem own : ownKnob Try.prog.godebug = none := by kernel_rfl
theorem contract (H : Type) (enc : TypeId × Value → H) (W : World) (base : Nat) (args : Array Value) (ds gs : List (DataW H)) (before : List MemPlace) (hval : ∀ (j : Nat) t v, Try.f6.params[j]? = some t → args[j]? = some v → Value.okWide Try.prog W .any base t v)
    (hW : DataW.Whole enc Try.prog Try.f6.params.toList Rows.lruKnownSpec.vars false W args.toList ds gs before) :
    Calls Try.prog 6 args W fun e W' => ∃ v, e = .returned v ∧ Rows.lruKnownSpec.post enc Try.prog Try.f6 false true false false W args v W' := by
  have hA : ∃ p, DataW.TrodAll enc P W 0 (fun _ => true) true Try.f6.params.toList args.toList ds p := by
    obtain ⟨p, q, hA, _⟩ := hW
    exact ⟨p, hA⟩
  refine (walk base args ds hval hA).mono fun e W' ⟨he, hb⟩ => ?_
  exact ⟨_, he, Lift.law_post' (by kernel_rfl) rfl rfl rfl (fun ds h => by first | (rcases ds with _ | ⟨d1, _ | ⟨d2, _ | ⟨d3, _ | ⟨d4, ds⟩⟩⟩⟩ <;> first | rfl | (exfalso; simp [Try.f6] at h; done))) (by kernel_rfl) hW hb⟩
set_option maxRecDepth 100000 in
theorem lifted (os : Os) (started : os.Started) (H : Type) (enc : TypeId × Value → H) :
    ReturnsInHanded {} Try.checked os 6 .any (Rows.lruKnownSpec.pre6 enc Try.prog Try.f6 Rows.lruKnownRow.domain false) (Rows.lruKnownSpec.post enc Try.prog Try.f6 false true false false) := by
  refine returnsInHanded_of_change (C := Try.checked) own started (by kernel_rfl) Try.func6
    (ChangeSpec.witness6 (enc := enc) (C := Try.checked) false ⟨#[], #[], []⟩ 8 (by kernel_rfl) (by kernel_rfl) (by kernel_rfl) (by kernel_rfl)) ?_
  intro W base args ds gs before hval hW _ _
  exact contract H enc W base args ds gs before hval hW
theorem proved : Rows.LruKnownSaid :=
  OpenClaim.holds_of_wide 6 Try.f6 rfl rfl rfl rfl rfl rfl rfl ⟨rfl, rfl, rfl, rfl, rfl⟩ rfl rfl rfl rfl rfl (by kernel_rfl) Try.func6 (by kernel_rfl)
    (of_decide_eq_true (by kernel_rfl)) (by unfold Func.isWrapper; first | (rw [if_pos (by decide +kernel)]; kernel_rfl) | (rw [if_neg (by decide +kernel)]; exact ⟨rfl, rfl⟩))
    (fun os started H enc _ => lifted os started H enc)

end Go.Proofs.Ytgbihlbgkkpciaa.lruKnown
