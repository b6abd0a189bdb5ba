/-
  COLLAPSE (layer 24): the keys of a map, sorted.
-/
import Derived.Test.YtgbihlbgkkpciaaRf
import Derived.Test.YtgbihlbgkkpciaaMp
import Derived.Test.YtgbihlbgkkpciaaQt
import Derived.Test.YtgbihlbgkkpciaaFB
set_option maxRecDepth 100000
set_option linter.unusedVariables false
set_option linter.unusedSectionVars false
set_option linter.unusedSimpArgs false
set_option maxHeartbeats 0
namespace Go.Proofs.Ytgbihlbgkkpciaa.Co
open Go Sh Sl
attribute [local irreducible] condK ArK NilK OpK FnK StK joinK loopK DrawK andK PuK NxK EnK vS uS bS callS invokeS
def ii (l : List Int) : List Value := l.map fun x => .int .i64 x
@[simp] theorem ii_len (l : List Int) : (ii l).length = l.length := by simp [ii]
section
variable {e : Env} {ctx rest : List HProp} {β : Type} {vf : β → Value}
theorem callable_c1 : callable P 66 = true := cx_ok.calls _ (by rfl)
theorem collect_spec {K : Value → WP} {r bm : Nat} {m : List (Int × β)} (hn : (m.map (·.1)).Nodup) (hl : m.length ≤ 64)
    (h : ∀ a c l, l.Perm (m.map (·.1)) → Ent e (SlO a l.length c 1 (ii l) :: Mp (intK .i64) vf r m :: rest) (K (.slice a l.length c))) :
    Ent e (Mp (intK .i64) vf r m :: pt bm [.map (some r)] :: rest) (slices_Collect_int (.func (.func 66) #[] #[.pointer (some ⟨bm, 0, none⟩)]) K) := by
  (refine Ent.fn slices_Collect_int_ok ?_; unfold slices_Collect_int_sh)
  (refine Ent.fn slices_AppendSeq_int_ok ?_; unfold slices_AppendSeq_int_sh)
  refine Ent.box' fun bs => ?_
  refine Ent.rf callable_c1 (args := fun q => [.func (.yield (q + 1)) #[] #[], .pointer (some ⟨bm, 0, none⟩)]) (fun q => rfl) fun q r0 hr => ?_
  (refine Ent.fn maps_Keys_int_Job_c1_ok ?_; unfold maps_Keys_int_Job_c1_sh)
  (refine Ent.go ?_)
  refine Ent.mrange (K := intK .i64) (vf := vf) (by (repeat (first | exact Pick.hd | apply Pick.tl))) rfl fun i => ?_
  refine Ent.slN (sz := 1) ?_
  refine Ent.loop0 (fun N => [exs (fun (x : List Int × List Int × Option Addr × Nat) =>
    sepL [pur ((x.1 ++ x.2.1).Perm (m.map (·.1)) ∧ N = x.2.1.length), SlO x.2.2.1 x.1.length x.2.2.2 1 (ii x.1), pt bs [.slice x.2.2.1 x.1.length x.2.2.2], MpI (intK .i64) vf r i m x.1]),
      ob (q + 1) (lp r0 .ready none), ob q (.deferred (some [])), pt bm [.map (some r)]] ++ rest) (m.length) ?_ ?_
  · refine Imp.exs ([], m.map (·.1), none, 0) (Imp.g4 (Imp.pur ⟨by simp, by simp⟩ ?_))
    (focus ((repeat ((with_reducible apply Imp.pick); (repeat (first | exact Pick.hd | apply Pick.tl)))); (repeat (first | exact Imp.refl _ | exact Imp.nil _ | apply Imp.drop)); done))
  intro N K' hK
  refine Ent.exs fun ⟨dn, rm, a, c⟩ => Ent.g4 (Ent.pur fun ⟨f2, f3⟩ => ?_)
  dsimp only at f2 f3
  subst f3
  dsimp only
  have hnd : (dn ++ rm).Nodup := f2.symm.nodup hn
  obtain ⟨m1, m2, m3⟩ := List.nodup_append.1 hnd
  have hlen : dn.length + rm.length = m.length := by simpa using f2.length_eq
  refine Ent.mnext (by (repeat (first | exact Pick.hd | apply Pick.tl))) (fun hall => ?_) (fun x p hp hx => ?_)
  · have hrm : rm = [] := by
      cases rm with
      | nil => rfl
      | cons y rm =>
        exfalso
        have : y ∈ m.map (·.1) := f2.subset (by simp)
        obtain ⟨p, hp, rfl⟩ := List.mem_map.1 this
        exact m3 p.1 (hall p.1 p.2 hp) p.1 List.mem_cons_self rfl
    subst hrm
    simp only [List.append_nil] at f2
    refine Ent.ed (st := .ready) (fun h => by cases h) (by (repeat (first | exact Upd.hd | apply Upd.tl))) ?_
    show Ent e _ (JmK _ _ _ none)
    unfold JmK
    dsimp only
    (refine Ent.go ?_)
    refine Ent.tk (by (repeat (first | exact Upd.hd | apply Upd.tl))) ?_
    (refine Ent.go ?_)
    refine Ent.imp ?_ (h a c dn f2)
    refine Imp.trans (b := MpI (intK .i64) vf r i m dn :: SlO a dn.length c 1 (ii dn) :: rest) (by (focus ((repeat ((with_reducible apply Imp.pick); (repeat (first | exact Pick.hd | apply Pick.tl)))); (repeat (first | exact Imp.refl _ | exact Imp.nil _ | apply Imp.drop)); done))) (MpI.imp.trans (by (focus ((repeat ((with_reducible apply Imp.pick); (repeat (first | exact Pick.hd | apply Pick.tl)))); (repeat (first | exact Imp.refl _ | exact Imp.nil _ | apply Imp.drop)); done))))
  · have hxr : x ∈ rm := by
      have : x ∈ dn ++ rm := f2.symm.subset (List.mem_map.2 ⟨_, hp, rfl⟩)
      exact (List.mem_append.1 this).resolve_left hx
    refine Ent.mentry (K := intK .i64) (x := x) (by (repeat (first | exact Has.hd | apply Has.tl))) hp rfl rfl ?_
    refine Ent.yield hr (by (repeat (first | exact Has.hd | apply Has.tl))) ?_
    show Ent e _ (BgK P _ _)
    refine Ent.bg (by (repeat (first | exact Upd.hd | apply Upd.tl))) ?_
    (refine Ent.go ?_)
    refine Ent.app1 (fun a2 c2 => ?_)
    (refine Ent.go ?_)
    refine Ent.dn (by (repeat (first | exact Upd.hd | apply Upd.tl))) ?_
    (refine Ent.go ?_)
    have hx1 := List.length_erase_of_mem hxr
    have hx2 : 0 < rm.length := List.length_pos_of_mem hxr
    refine Ent.imp ?_ (hK (rm.erase x).length (by omega))
    refine Imp.exs (dn ++ [x], rm.erase x, a2, c2) (Imp.g4 (Imp.pur ⟨?_, rfl⟩ ?_))
    · refine List.Perm.trans ?_ f2
      simp only [List.append_assoc, List.singleton_append]
      exact (List.perm_cons_erase hxr).symm.append_left dn
    · have e1 : ii (dn ++ [x]) = ii dn ++ [.int .i64 x] := by simp [ii]
      have e2 : (dn ++ [x]).length = dn.length + 1 := by simp
      rw [e1, e2]
      (focus ((repeat ((with_reducible apply Imp.pick); (repeat (first | exact Pick.hd | apply Pick.tl)))); (repeat (first | exact Imp.refl _ | exact Imp.nil _ | apply Imp.drop)); done))
end
end Go.Proofs.Ytgbihlbgkkpciaa.Co
