/-
  OF NONE NOTHING IS FOUND; a function that answers yes, out of nothing, in the second layer's words.
-/
import Derived.Test.YtiabhghlhnnnjaaGreatDoorAu
import Derived.Test.YtiabhghlhnnnjaaGreatDoorFN
import Derived.Test.YtiabhghlhnnnjaaGreatDoorOm
import Derived.Test.YtiabhghlhnnnjaaGreatDoorRf
set_option linter.unusedVariables false
set_option linter.unusedSimpArgs false
set_option linter.unusedSectionVars false
set_option maxRecDepth 100000
set_option maxHeartbeats 0
namespace Go.Proofs.YtiabhghlhnnnjaaGreatDoor.An
open Go Sh Sl
attribute [local irreducible] condK ArK NilK OpK FnK StK joinK loopK DrawK andK PuK NxK EnK vS uS bS callS invokeS
section
variable {e : Env} {ctx rest : List HProp}
theorem Ent.yes {fuel : Nat} {f : FuncId} {K : Bool → WP} (hx : Ev.xt f = none) (h : Ev.isT (Ev.main Ev.pgA fuel f Ev.none0) = true) (hT : ∀ w, Sat e (sepL ctx) w → Lib.TabIs P w "internal/strconv.uint64pow10" .u64 Lib.pow10Tab) (hk : Ent e ctx (K true)) : Ent e ctx (FnK P (.one .bool) f #[] K) := fun w hw => by
  obtain ⟨s2, hs⟩ := Ev.isT_ok h
  have hR : Ev.TabR e (sepL ctx) := fun l w' hw' => hT w' (hw'.imp fun x k => by
    obtain ⟨a, b, h1, h2, h3, h4, h5⟩ := k
    exact sepL_mono h2 h4)
  unfold FnK CallK
  refine Calls.mono (Ev.main_ok (Ev.pgA_all _ hR) Ev.fns_mixed hx hs (L := Ev.L00) (fun g i hi => by cases hi) (Ev.rep0 hw)) fun en w' ⟨y, he, M, hM, hv, hR2⟩ => ⟨y, he, true, hv.bool_inv, hk w' (hR2.sat.imp fun x k => by
    obtain ⟨a, b, h1, h2, h3, h4, h5⟩ := k
    exact sepL_mono h2 h4)⟩
abbrev np : Value := .pointer none
theorem machines_nil {K : Int → WP} (h : Ent e rest (K 0)) : Ent e rest (proxy_Proxy_Machines np K) := by
  (refine Ent.fn proxy_Proxy_Machines_ok ?_; unfold proxy_Proxy_Machines_sh)
  (refine Ent.go ?_)
  exact h
theorem store_nil {K : Value → WP} (h : Ent e rest (K np)) : Ent e rest (tenant_Machine_Store np K) := by
  (refine Ent.fn tenant_Machine_Store_ok ?_; unfold tenant_Machine_Store_sh)
  (refine Ent.go ?_)
  exact h
theorem door_nil {K : Value → WP} (h : Ent e rest (K np)) : Ent e rest (tenant_Machine_Door np K) := by
  (refine Ent.fn tenant_Machine_Door_ok ?_; unfold tenant_Machine_Door_sh)
  (refine Ent.go ?_)
  exact h
theorem slots_none {K : Int → WP} (h : Ent e rest (K 0)) : Ent e rest (door_Door_Slots np K) := by
  (refine Ent.fn door_Door_Slots_ok ?_; unfold door_Door_Slots_sh)
  (refine Ent.go ?_)
  exact h
theorem look_nil {K : Value → Int → WP} {cs : List Value} (h : Ent e rest (K (.slice none 0 0) 2)) : Ent e rest (audit_Look np (.agg cs.toArray) K) := by
  (refine Ent.fn audit_Look_ok ?_; unfold audit_Look_sh)
  refine Ent.box' fun cb => ?_
  refine machines_nil ?_
  (refine Ent.go ?_)
  exact h.drop
theorem slots_nil {K : Value → WP} {cs : List Value} {f : Value} (h : Ent e rest (K (.tuple #[]))) : Ent e rest (audit_slots np (.agg cs.toArray) f K) := by
  (refine Ent.fn audit_slots_ok ?_; unfold audit_slots_sh)
  refine Ent.box' fun cb => ?_
  refine door_nil ?_
  refine slots_none ?_
  refine Ent.rngL0 0 (fun _ => rest) rfl (Imp.refl _).drop fun k hk K' hK => ?_
  obtain rfl : k = 0 := by omega
  refine Ent.wF ?_ (by simp)
  exact h
theorem gather_nil {K : Value → WP} {cs : List Value} {n : Int} {a : Nat} (hl : cs.length = 9) (h : Ent e rest (K (.slice none 0 0))) :
    Ent e (pt a [.func (.func 15) #[] #[]] :: rest) (audit_gather np (.agg cs.toArray) n 4 (.slice (some ⟨a, 0, none⟩) 1 1) K) := by
  (refine Ent.fn audit_gather_ok ?_; unfold audit_gather_sh)
  refine Ent.box' fun tb => ?_
  refine Ent.box' fun nb => ?_
  refine Ent.box' fun fb => ?_
  refine Ent.alloc' fun lb => ?_
  refine Ent.wlen ?_
  refine Ent.rngL0 1 (fun _ => pt lb [.slice none 0 0] :: pt tb cs :: pt a [.func (.func 15) #[] #[]] :: rest) rfl (by (focus ((repeat ((with_reducible apply Imp.pick); (repeat (first | exact Pick.hd | apply Pick.tl)))); (repeat (first | exact Imp.refl _ | exact Imp.nil _ | apply Imp.drop)); done))) fun k hk K' hK => ?_
  by_cases hk1 : k < 1
  · obtain rfl : k = 0 := by omega
    refine Ent.wT ?_ (by simp)
    refine Ent.wiRb (v := .func (.func 15) #[] #[]) ?_
    refine Ent.alloc' fun kb => ?_
    refine Ent.wsto ?_
    refine Ent.wlA (cs := cs) ?_ (hn := hl) (hv := by rw [List.drop_zero]; exact List.take_of_length_le (by omega))
    refine Ent.callF rfl ?_
    refine slots_nil ?_
    refine Ent.war ?_
    refine Ent.imp ?_ (hK hk1)
    (focus ((repeat ((with_reducible apply Imp.pick); (repeat (first | exact Pick.hd | apply Pick.tl)))); (repeat (first | exact Imp.refl _ | exact Imp.nil _ | apply Imp.drop)); done))
  · obtain rfl : k = 1 := by omega
    refine Ent.wF ?_ (by simp)
    refine Ent.wlR ?_
    refine Ent.imp (by (focus ((repeat ((with_reducible apply Imp.pick); (repeat (first | exact Pick.hd | apply Pick.tl)))); (repeat (first | exact Imp.refl _ | exact Imp.nil _ | apply Imp.drop)); done))) h
theorem machine_nil {K : Value → WP} {cs : List Value} {n : Int} (hl : cs.length = 9) (h : Ent e rest (K (.slice none 0 0))) : Ent e rest (audit_Machine np (.agg cs.toArray) n K) := by
  (refine Ent.fn audit_Machine_ok ?_; unfold audit_Machine_sh)
  refine Ent.box' fun tb => ?_
  refine store_nil ?_
  (refine Ent.go ?_)
  refine Ent.wlA (cs := cs) ?_ (hn := hl) (hv := by rw [List.drop_zero]; exact List.take_of_length_le (by omega))
  refine Ent.slice (out := [.func (.func 15) #[] #[]]) (by_ := 8) rfl rfl rfl rfl (by decide) (by decide) rfl fun b => ?_
  refine gather_nil hl ?_
  exact h.drop
end
end Go.Proofs.YtiabhghlhnnnjaaGreatDoor.An
