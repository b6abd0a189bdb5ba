/-
  EVENTS' TEXTS (layer 31), there and back; lists that are the same.
-/
import Derived.Test.YtoneapgooihajaaGreatDoorYa
set_option maxRecDepth 100000
set_option linter.unusedVariables false
set_option linter.unusedSectionVars false
set_option linter.unusedSimpArgs false
set_option maxHeartbeats 0
namespace Go.Proofs.YtoneapgooihajaaGreatDoor.Qa
open Go Sh Sl
open Go.RowKit
attribute [local irreducible] condK ArK NilK OpK FnK StK joinK loopK DrawK andK PuK NxK EnK vS uS bS callS invokeS
theorem evT_ended (k t n : Int) (b : Bs) : Ended (evT k t n b).1 := by
  unfold evT
  split
  · exact ⟨_, rfl, by rw [joinB_2]; exact nn_app (nn_name k) (nn_sp (nn_itoa n))⟩
  · split
    · exact ⟨_, rfl, by rw [joinB_4]; exact nn_app (nn_name k) (nn_sp (nn_app (nn_itoa t) (nn_sp (nn_app (nn_itoa n) (nn_sp (nn_q b))))))⟩
    · exact ⟨_, rfl, by rw [joinB_3]; exact nn_app (nn_name k) (nn_sp (nn_app (nn_itoa t) (nn_sp (nn_itoa n))))⟩
theorem evTx_flat (ds : List dE') : evTx ds = (ds.map fun d => (evL d).1).flatten := by simp [evTx, List.flatMap]
theorem lns_evs (ds : List dE') : lns (evTx ds) = ds.map fun d => (evL d).1 := by
  have := lns_flat (ds.map fun d => (evL d).1) [] fun x hx => by
    obtain ⟨d, _, rfl⟩ := List.mem_map.1 hx
    exact evT_ended _ _ _ _
  rw [List.append_nil] at this
  rw [evTx_flat, this]
  simp [lns, lnsA]
/-- events that may be written come back -/
theorem evs_back {ds : List dE'} (h : ∀ d ∈ ds, (evL d).2 = true ∧ I64 d.2.1 ∧ I64 d.2.2.1) : (∀ x ∈ lns (evTx ds), evOk x = true) ∧ (lns (evTx ds)).map (fun x => (evR x).1) = ds := by
  have hk : ∀ d ∈ ds, evOk (evL d).1 = true ∧ (evR (evL d).1).1 = d := fun d hd => by
    obtain ⟨h1, h2, h3⟩ := h d hd
    exact ev_back h2 h3 h1
  rw [lns_evs]
  refine ⟨fun x hx => ?_, ?_⟩
  · obtain ⟨d, hd, rfl⟩ := List.mem_map.1 hx
    exact (hk d hd).1
  · rw [List.map_map]
    calc ds.map _ = ds.map id := List.map_congr_left fun d hd => (hk d hd).2
      _ = ds := List.map_id ds
/-- a text that is events is theirs -/
theorem evs_text {s : Bs} (h : ∀ x ∈ lns s, evOk x = true) (hs : s.length ≤ 131072) : evText ((lns s).map fun x => (evR x).1) = (s, 0) := by
  have h1 : ((lns s).map fun x => (evR x).1).all (fun d => (evL d).2) = true := by
    rw [List.all_map]
    exact List.all_eq_true.2 fun x hx => (ev_sound (h x hx)).1
  have h2 : evTx ((lns s).map fun x => (evR x).1) = s := by
    rw [evTx_flat, List.map_map]
    have : (lns s).map ((fun d => (evL d).1) ∘ fun x => (evR x).1) = (lns s).map id := List.map_congr_left fun x hx => (ev_sound (h x hx)).2
    rw [this, List.map_id, lns_cat]
  unfold evText
  rw [h1, if_pos rfl, h2, if_neg (by omega)]
section
variable {e : Env} {ctx rest R : List HProp} {M : Hp}
theorem dEv_eqs {x y : Ev} (h : dEv x = dEv y) : x.k = y.k ∧ x.t = y.t ∧ x.n = y.n ∧ x.b = y.b := by
  unfold dEv at h
  simpa using h
theorem same_yes {K : Bool → WP} {xs ys : List Ev} {a a' : Option Addr} {c c' : Nat} (hx : xs.length ≤ 16777216) (hr : Rd ctx a (evcs xs)) (hr' : Rd ctx a' (evcs ys)) (hxs : ∀ x ∈ xs, Rd ctx x.a (u8 x.b)) (hys : ∀ x ∈ ys, Rd ctx x.a (u8 x.b)) (heq : xs.map dEv = ys.map dEv)
    (h : Ent e ctx (K true)) : Ent e ctx (ref31_Same (.slice a xs.length c) (.slice a' ys.length c') K) := by
  have hl : xs.length = ys.length := by simpa using congrArg List.length heq
  (refine Ent.fn ref31_Same_ok ?_; unfold ref31_Same_sh)
  refine Ent.wlen ?_
  refine Ent.wlen ?_
  refine Ent.wF ?_ (bne_eq_false_iff_eq.2 (by rw [hl]))
  refine Ent.loop1 (k0 := .int .i64) (fun N (i : Int) => pur (0 ≤ i ∧ i ≤ xs.length ∧ N = xs.length - i.toNat) :: ctx) xs.length (Imp.pur ⟨by omega, by omega, by omega⟩ (Imp.refl _)) fun N j2 hj2 i => ?_
  refine Ent.pur fun ⟨f1, f2, f3⟩ => ?_
  obtain ⟨k, rfl⟩ := Int.eq_ofNat_of_zero_le f1
  refine Ent.wlen ?_
  refine Ent.condD (fun hlt => ?_) fun hge => h
  obtain ⟨x, gx⟩ : ∃ x, xs[k]? = some x := ⟨_, List.getElem?_eq_getElem (by omega)⟩
  obtain ⟨y, gy⟩ : ∃ y, ys[k]? = some y := ⟨_, List.getElem?_eq_getElem (by omega)⟩
  have hd : dEv x = dEv y := by
    have := congrArg (fun l => l[k]?) heq
    simpa [gx, gy] using this
  obtain ⟨q1, q2, q3, q4⟩ := dEv_eqs hd
  refine Ent.join1 (kd := .bool) (fun v => pur (v = false) :: ctx) ?_ ?_
  rotate_left
  · intro j3 hj3
    refine Ent.draw ctx (Imp.refl _) ?_
    refine Ent.wixHQ (f := fun x => evC x) hr gx fun b1 o1 p1 => ?_
    refine Ent.wgIz p1 ?_
    refine Ent.wixHQ (f := fun x => evC x) hr' gy fun b1 o1 p1 => ?_
    refine Ent.wgIz p1 ?_
    refine Ent.wF ?_ (bne_eq_false_iff_eq.2 q1)
    refine Ent.wixHQ (f := fun x => evC x) hr gx fun b1 o1 p1 => ?_
    refine Ent.wgIz p1 ?_
    refine Ent.wixHQ (f := fun x => evC x) hr' gy fun b1 o1 p1 => ?_
    refine Ent.wgIz p1 ?_
    refine Ent.wF ?_ (bne_eq_false_iff_eq.2 q2)
    refine Ent.wixHQ (f := fun x => evC x) hr gx fun b1 o1 p1 => ?_
    refine Ent.wgIz p1 ?_
    refine Ent.wixHQ (f := fun x => evC x) hr' gy fun b1 o1 p1 => ?_
    refine Ent.wgIz p1 ?_
    refine Ent.wF ?_ (bne_eq_false_iff_eq.2 q3)
    refine Ent.wixHQ (f := fun x => evC x) hr gx fun b1 o1 p1 => ?_
    refine Ent.wgRz p1 ?_
    refine Ent.wsS (v := ba x.b) ?_ (hs := st_b2s (x := 5) (hxs x (List.mem_of_getElem? gx)) rfl rfl rfl)
    refine Ent.wixHQ (f := fun x => evC x) hr' gy fun b1 o1 p1 => ?_
    refine Ent.wgRz p1 ?_
    refine Ent.wsS (v := ba y.b) ?_ (hs := st_b2s (x := 5) (hys y (List.mem_of_getElem? gy)) rfl rfl rfl)
    refine Ent.puB st_neS ?_
    rw [ba_eqb, decide_eq_true q4]
    exact (hj3 _).imp (Imp.pur rfl (Imp.refl _))
  intro v
  refine Ent.pur fun hv => ?_
  subst hv
  refine Ent.wF ?_
  refine Ent.war ?_
  exact (hj2 (N - 1) (by omega) ((k : Int) + 1)).imp (Imp.pur ⟨by omega, by omega, by omega⟩ (Imp.refl _))
end
end Go.Proofs.YtoneapgooihajaaGreatDoor.Qa
