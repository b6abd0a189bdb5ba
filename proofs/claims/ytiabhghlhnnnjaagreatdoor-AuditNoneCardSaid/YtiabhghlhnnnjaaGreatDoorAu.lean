/-
  THE PROGRAM AS THE EVALUATOR SEES IT.
-/
import Derived.Test.YtiabhghlhnnnjaaGreatDoorXt
set_option maxRecDepth 100000
set_option linter.unusedVariables false
noncomputable section
namespace Go.Proofs.YtiabhghlhnnnjaaGreatDoor.Ev
open Go Sh Sl
open Go.RowKit
variable {e : Env} {R : HProp}
noncomputable def xt : Xt := fun n => match n with
  | 76 => some xLower
  | 119 => some xItoa
  | 255 => some xIxs
  | 424 => some xCnt
  | 470 => some xIxb
  | _ => none
noncomputable def pgA : Pg := ⟨fun _ => none, ftab, xt⟩
theorem pgA_ok (htab : ∀ (L : Lo) (s : St) (w : World), Rep e R L s w → Lib.TabIs P w "internal/strconv.uint64pow10" .u64 Lib.pow10Tab) : PgOk e R pgA := by
  refine ⟨fun f n rs c h => ftab_ok h, fun f x h args s v s' hx => ?_⟩
  have h : xt f = some x := h
  unfold xt at h
  split at h
  · cases h; exact xLower_ok _ _ _ _ _ hx
  · cases h; exact xItoa_ok _ htab _ _ _ _ hx
  · cases h; exact xIxs_ok _ _ _ _ _ hx
  · cases h; exact xCnt_ok _ _ _ _ _ hx
  · cases h; exact xIxb_ok _ _ _ _ _ hx
  · cases h
noncomputable def isT (r : Rs (EV × St)) : Bool := match r with
  | .ok (.bool b, _) => b
  | _ => false
theorem isT_ok {r : Rs (EV × St)} (h : isT r = true) : ∃ s, r = .ok (.bool true, s) := by
  unfold isT at h
  split at h
  · subst h; exact ⟨_, rfl⟩
  · cases h
/-- the empty state -/
noncomputable def none0 : St := ⟨0, Tr.emp 15⟩
noncomputable def L00 : Lo := ⟨fun _ => none, fun _ => none⟩
theorem rep0 {w : World} (h : Sat e R w) : Rep e R L00 none0 w :=
  ⟨h.imp fun x k => ⟨x, fun _ => none, fun _ => .inr rfl, Hp.le_refl x, (fun _ _ e => by cases e), k, trivial⟩, ⟨fun i p h => (by cases h), fun i o h => (by cases h)⟩⟩
/-- the table of powers lies wherever 'R' holds -/
def TabR (e : Env) (R : HProp) : Prop := ∀ (l : List HProp) (w : World), Sat e (sepL (R :: l)) w → Lib.TabIs P w "internal/strconv.uint64pow10" .u64 Lib.pow10Tab
theorem TabR.grp {l : List HProp} (h : TabR e R) : TabR e (sepL (R :: l)) := fun l' w hw => h (l ++ l') w (hw.imp fun x k => (sepL_grp (l := R :: l) (r := l')).1 k)
/-- functions that ask nothing and answer yes -/
noncomputable def xTrue (a : List EV) (s : St) : Option (EV × St) := match a with
  | [] => some (.bool true, s)
  | _ => none
/-- a function that the evaluator finds to answer yes, out of nothing, does so anywhere -/
theorem yes_ok {pg : Pg} (hpg : ∀ R, TabR e R → PgOk e R pg) (hgi : ∀ g, pg.gi g = none) {fuel : Nat} {f : FuncId} (hx : pg.xt f = none) (hc : callable P f = true) (h : isT (main pg fuel f none0) = true) (hR : TabR e R) (pg' : Pg) (args : List EV) (s : St) (v : EV) (s' : St) (hv : xTrue args s = some (v, s')) : CallAt e R pg' f args s v s' := by
  unfold xTrue at hv
  split at hv
  · cases hv
    intro L xs w hg hxs hw
    cases hxs
    obtain ⟨s2, hs⟩ := isT_ok h
    have := main_ok (R := sepL (R :: prts L s)) (hpg _ hR.grp) fns_mixed hx hs (L := L00) (fun g i hi => by rw [hgi g] at hi; cases hi) (rep0 hw.sat)
    unfold NextK
    rw [callFunc_run hc]
    refine Calls.mono this fun en w' ⟨y, he, M, hM, hvy, hR2⟩ => ⟨y, he, L, Lo.le_refl L, by rw [hvy.bool_inv]; exact .bool true, ?_, hw.dom⟩
    refine hR2.sat.imp fun x k => ?_
    obtain ⟨a, b, h1, h2, h3, h4, h5⟩ := k
    exact sepL_mono h2 h4
  · cases hv
theorem pgA_all (R : HProp) (h : TabR e R) : PgOk e R pgA := pgA_ok fun L s w hw => h _ w hw.sat
/-- a closed law that the evaluator finds true is true -/
theorem closed_ok {W : World} (hstill : ∀ w, Below W.heap.size W w → Lib.TabIs P w "internal/strconv.uint64pow10" .u64 Lib.pow10Tab) {pg : Pg} (hpg : ∀ R, TabR (Lift.envOf W) R → PgOk (Lift.envOf W) R pg) (hgi : ∀ g, pg.gi g = none)
    {fuel : Nat} {f : FuncId} (hx : pg.xt f = none) (h : isT (main pg fuel f none0) = true) : Calls P f #[] W fun en W' => en = .returned (.bool true) ∧ Below W.heap.size W W' := by
  obtain ⟨s, hs⟩ := isT_ok h
  have hbel : ∀ (l : List HProp) (w : World), Sat (Lift.envOf W) (sepL (Lift.wh W :: l)) w → Below W.heap.size W w := fun l w hw => Lift.below_of (hw.imp fun x k => by
    obtain ⟨a, b, h1, h2, h3, h4, h5⟩ := k
    exact ⟨a, fun _ => none, fun _ => .inr rfl, h2, (fun _ _ e => by cases e), h4, trivial⟩)
  have h0 : Sat (Lift.envOf W) (Lift.wh W) W := (Lift.start W).imp fun x k => by
    obtain ⟨a, b, h1, h2, h3, h4, h5⟩ := k
    intro i o hi
    exact h2 _ _ (h4 i o hi)
  refine (main_ok (hpg _ fun l w hw => hstill w (hbel l w hw)) fns_mixed hx hs (fun g i h => by rw [hgi g] at h; cases h) (rep0 h0)).mono fun en W' ⟨y, he, M, hM, hv, hR⟩ => ?_
  exact ⟨by rw [he, hv.bool_inv], hbel _ _ hR.sat⟩
end Go.Proofs.YtiabhghlhnnnjaaGreatDoor.Ev
