/-
  LISTS OF EVENTS (layer 31): turned into the document's, held against each other; two texts' lines.
-/
import Derived.Test.YtoneapgooihajaaGreatDoorQo
set_option maxRecDepth 100000
set_option linter.unusedVariables false
set_option linter.unusedSectionVars false
set_option linter.unusedSimpArgs false
set_option maxHeartbeats 0
namespace Go.Proofs.YtoneapgooihajaaGreatDoor.Qa
open Go Sh Sl
open Go.RowKit
attribute [local irreducible] condK ArK NilK OpK FnK StK joinK loopK DrawK andK PuK NxK EnK vS uS bS callS invokeS
theorem evT_end (k t n : Int) (b : Bs) : ∃ r, (evT k t n b).1 = r ++ [10] := by
  unfold evT
  split
  · exact ⟨_, rfl⟩
  · split
    · exact ⟨_, rfl⟩
    · exact ⟨_, rfl⟩
theorem evOk_end {s : Bs} (h : evOk s = true) : ∃ r, s = r ++ [10] := by
  obtain ⟨r, hr⟩ := evT_end (evR s).1.1 (evR s).1.2.1 (evR s).1.2.2.1 (evR s).1.2.2.2
  exact ⟨r, (ev_sound h).2.symm.trans hr⟩
theorem lnsA_app : ∀ (s cur t : Bs), (10 : UInt8) ∉ cur → (∀ x ∈ lnsA cur s, ∃ r, x = r ++ [10]) → lnsA cur (s ++ t) = lnsA cur s ++ lns t
  | [], cur, t, h, ha => by
    by_cases hc : cur = []
    · subst hc; rfl
    · have h1 : lnsA cur [] = [cur] := by unfold lnsA; rw [if_neg hc]
      rw [h1] at ha
      obtain ⟨r, hr⟩ := ha cur (by simp)
      exact absurd (by rw [hr]; simp) h
  | c :: s, cur, t, h, ha => by
    unfold lnsA at ha
    show lnsA cur (c :: (s ++ t)) = _
    unfold lnsA
    by_cases hc : c = 10
    · rw [if_pos hc] at ha
      rw [if_pos hc, if_pos hc, lnsA_app s [] t (by simp) fun x hx => ha x (List.mem_cons_of_mem _ hx)]
      rfl
    · rw [if_neg hc] at ha
      rw [if_neg hc, if_neg hc]
      exact lnsA_app s (cur ++ [c]) t (by simp [h]; exact fun hh => hc hh.symm) ha
/-- two texts' lines, where the first one's are events -/
theorem lns_app {s t : Bs} (h : okTo s (lns s).length) : lns (s ++ t) = lns s ++ lns t :=
  lnsA_app s [] t (by simp) fun x hx => evOk_end (h x (by rw [List.take_length]; exact hx))
theorem joins_bad {s t : Bs} {k k' : Nat} {x x' : Bs} (hs : okTo s (lns s).length) (h1 : (lns t)[k]? = some x) (h2 : okTo t k) (h3 : evOk x = false)
    (h4 : (lns (s ++ t))[k']? = some x') (h5 : okTo (s ++ t) k') (h6 : evOk x' = false) : k' = (lns s).length + k := by
  unfold okTo at h5
  rw [lns_app hs] at h4 h5
  rcases Nat.lt_trichotomy k' ((lns s).length + k) with h | h | h
  · exfalso
    rcases Nat.lt_or_ge k' (lns s).length with g | g
    · rw [List.getElem?_append_left g] at h4
      have := hs x' (by rw [List.take_length]; exact List.mem_of_getElem? h4)
      rw [h6] at this; cases this
    · rw [List.getElem?_append_right g] at h4
      have hm : x' ∈ (lns t).take k := by
        rw [List.mem_iff_getElem?]
        exact ⟨k' - (lns s).length, by rw [List.getElem?_take, if_pos (by omega)]; exact h4⟩
      have := h2 x' hm
      rw [h6] at this; cases this
  · exact h
  · exfalso
    have hm : x ∈ ((lns s ++ lns t)).take k' := by
      rw [List.mem_iff_getElem?]
      refine ⟨(lns s).length + k, ?_⟩
      rw [List.getElem?_take, if_pos h, List.getElem?_append_right (by omega), Nat.add_sub_cancel_left]
      exact h1
    have := h5 x hm
    rw [h3] at this; cases this
theorem joins_ok {s t : Bs} (hs : okTo s (lns s).length) (ht : okTo t (lns t).length) {x : Bs} (h : x ∈ lns (s ++ t)) : evOk x = true := by
  rw [lns_app hs] at h
  rcases List.mem_append.1 h with h | h
  · exact hs x (by rw [List.take_length]; exact h)
  · exact ht x (by rw [List.take_length]; exact h)
theorem joins_no {s t : Bs} (hs : okTo s (lns s).length) {k : Nat} {x : Bs} (h1 : (lns t)[k]? = some x) (h3 : evOk x = false) : ¬ okTo (s ++ t) (lns (s ++ t)).length := fun h => by
  have := h x (by rw [List.take_length, lns_app hs]; exact List.mem_append_right _ (List.mem_of_getElem? h1))
  rw [h3] at this; cases this
section
variable {e : Env} {ctx rest R : List HProp} {M : Hp}
theorem evcs_one (l : List Ev) : ∀ v ∈ evcs l, v.oneCell' = true := by
  intro v hv
  simp only [evcs, List.mem_flatten, List.mem_map] at hv
  obtain ⟨c, ⟨x, _, rfl⟩, hv⟩ := hv
  simp only [List.mem_cons, List.not_mem_nil, or_false] at hv
  rcases hv with rfl | rfl | rfl | rfl <;> rfl
theorem theirs_spec {K : Value → WP} {xs : List Ev} {a : Option Addr} {c : Nat} (hn : xs.length ≤ 16777216) (hr : Rd rest a (evcs xs)) (h : ∀ a2 c2, Ent e (SlO a2 xs.length c2 4 (evcs xs) :: rest) (K (.slice a2 xs.length c2))) :
    Ent e rest (law31_theirs (.slice a xs.length c) K) := by
  (refine Ent.fn law31_theirs_ok ?_; unfold law31_theirs_sh)
  refine Ent.loop2 (k0 := .raw) (k1 := .int .i64) (fun N (out : Value) (i : Int) => (exs fun (p : Nat × Option Addr × Nat) => sepL [pur (out = .slice p.2.1 p.1 p.2.2 ∧ i = (p.1 : Int) ∧ p.1 ≤ xs.length ∧ N = xs.length - p.1), SlO p.2.1 p.1 p.2.2 4 (evcs (xs.take p.1))]) :: rest) xs.length ?_ fun N j2 hj2 out i => ?_
  · refine Imp.trans (Imp.slN (sz := 4) (Imp.refl _)) ?_
    exact Imp.exs (0, none, 0) (Imp.g2 (Imp.pur ⟨rfl, rfl, Nat.zero_le _, rfl⟩ (Imp.refl _)))
  refine Ent.exs fun ⟨k, a1, c1⟩ => Ent.g2 (Ent.pur fun ⟨f1, f2, f3, f4⟩ => ?_)
  dsimp only at f1 f2 f3 f4
  dsimp only
  subst f1 f2
  refine Ent.wlen ?_
  refine Ent.condD (fun hlt => ?_) fun hge => ?_
  · obtain ⟨x, hx⟩ : ∃ x, xs[k]? = some x := ⟨_, List.getElem?_eq_getElem (by omega)⟩
    have hx' : xs[(k : Int).toNat]? = some x := hx
    refine Ent.wiAr (f := evC) (xs := xs) (y := x) (hr.mono (by (focus (repeat (first | exact Imp.refl _ | exact Imp.nil _ | apply Imp.drop))))) ?_ rfl rfl rfl (by omega) (by omega) (fun _ => rfl) (by decide) hx'
    refine Ent.app1 (sz := 4) (cs := evC x) (fun a2 c2 => ?_)
    refine Ent.war ?_
    refine (hj2 (N - 1) (by omega) _ _).imp ?_
    refine Imp.exs (k + 1, a2, c2) (Imp.g2 (Imp.pur ⟨rfl, by omega, by omega, by omega⟩ ?_))
    dsimp only
    rw [take_snoc hx, evcs_app]
    exact Imp.refl _
  · obtain rfl : k = xs.length := by omega
    rw [List.take_length]
    exact h a1 c1
theorem same_spec {K : Bool → WP} {xs ys : List Ev} {a a' : Option Addr} {c c' : Nat} (hx : xs.length ≤ 16777216) (hy : ys.length ≤ 16777216) (hr : RdM M a (evcs xs)) (hr' : RdM M a' (evcs ys)) (hxs : ∀ x ∈ xs, EvM M x) (hys : ∀ x ∈ ys, EvM M x) (hM : Has rest (Sl.ro M))
    (h : Ent e rest (K (decide (xs.map dEv = ys.map dEv)))) : Ent e rest (ref31_Same (.slice a xs.length c) (.slice a' ys.length c') K) := by
  (refine Ent.fn ref31_Same_ok ?_; unfold ref31_Same_sh)
  refine Ent.wlen ?_
  refine Ent.wlen ?_
  refine Ent.cond (fun hne => ?_) fun heq => ?_
  · rw [decide_eq_false fun hh => ?_] at h
    · exact h
    · have := congrArg List.length hh
      rw [List.length_map, List.length_map] at this
      rw [this] at hne
      simp at hne
  have hl : xs.length = ys.length := by
    have h9 := (by simpa using heq : (xs.length : Int) = (ys.length : Int))
    exact Int.ofNat_inj.1 h9
  refine Ent.loop1 (k0 := .int .i64) (fun N (i : Int) => pur (0 ≤ i ∧ i ≤ xs.length ∧ N = xs.length - i.toNat ∧ (xs.take i.toNat).map dEv = (ys.take i.toNat).map dEv) :: rest) xs.length (Imp.pur ⟨by omega, by omega, by omega, rfl⟩ (Imp.refl _)) fun N j2 hj2 i => ?_
  refine Ent.pur fun ⟨f1, f2, f3, f4⟩ => ?_
  obtain ⟨k, rfl⟩ := Int.eq_ofNat_of_zero_le f1
  rw [Int.toNat_natCast] at f3 f4
  refine Ent.wlen ?_
  refine Ent.condD (fun hlt => ?_) fun hge => ?_
  · obtain ⟨x, gx⟩ : ∃ x, xs[k]? = some x := ⟨_, List.getElem?_eq_getElem (by omega)⟩
    obtain ⟨y, gy⟩ : ∃ y, ys[k]? = some y := ⟨_, List.getElem?_eq_getElem (by omega)⟩
    have mx := hxs x (List.mem_of_getElem? gx)
    have my := hys y (List.mem_of_getElem? gy)
    refine Ent.join1 (kd := .bool) (fun v => pur (v = !decide (dEv x = dEv y)) :: rest) ?_ ?_
    rotate_left
    · intro j3 hj3
      have no : dEv x ≠ dEv y → Ent e rest (j3 true) := fun hh => (hj3 true).imp (Imp.pur (by rw [decide_eq_false hh]; rfl) (Imp.refl _))
      unfold dEv at no
      refine Ent.draw [Sl.ro M] (fun hp k => ?_) ?_
      · obtain ⟨r, hp'⟩ := hM.pick
        exact (Imp.pick hp' (Imp.nil r)) hp k
      refine Ent.wixQ hr gx fun b1 o1 p1 => ?_
      refine Ent.wgIp ?_
      refine Ent.wixQ hr' gy fun b2 o2 p2 => ?_
      refine Ent.wgIp ?_
      refine Ent.cond (fun hc => no fun hh => ?_) fun hc => ?_
      · rw [(Prod.mk.inj hh).1] at hc; simp at hc
      have e1 : x.k = y.k := by simpa using hc
      refine Ent.wixQ hr gx fun b3 o3 p3 => ?_
      refine Ent.wgIp ?_
      refine Ent.wixQ hr' gy fun b4 o4 p4 => ?_
      refine Ent.wgIp ?_
      refine Ent.cond (fun hc => no fun hh => ?_) fun hc => ?_
      · rw [(Prod.mk.inj (Prod.mk.inj hh).2).1] at hc; simp at hc
      have e2 : x.t = y.t := by simpa using hc
      refine Ent.wixQ hr gx fun b5 o5 p5 => ?_
      refine Ent.wgIp ?_
      refine Ent.wixQ hr' gy fun b6 o6 p6 => ?_
      refine Ent.wgIp ?_
      refine Ent.cond (fun hc => no fun hh => ?_) fun hc => ?_
      · rw [(Prod.mk.inj (Prod.mk.inj (Prod.mk.inj hh).2).2).1] at hc; simp at hc
      have e3 : x.n = y.n := by simpa using hc
      refine Ent.wixQ hr gx fun b7 o7 p7 => ?_
      refine Ent.wgRp ?_
      refine Ent.wsS (v := ba x.b) ?_ (hs := st_b2s (x := 5) (mx.r.rd .hd) rfl rfl rfl)
      refine Ent.wixQ hr' gy fun b8 o8 p8 => ?_
      refine Ent.wgRp ?_
      refine Ent.wsS (v := ba y.b) ?_ (hs := st_b2s (x := 5) (my.r.rd .hd) rfl rfl rfl)
      refine Ent.puB st_neS ?_
      rw [ba_eqb]
      refine (hj3 _).imp (Imp.pur ?_ (Imp.refl _))
      unfold dEv
      rw [e1, e2, e3]
      simp
    intro v
    refine Ent.pur fun hv => ?_
    subst hv
    have s1 := take_snoc gx
    have s2 := take_snoc gy
    refine Ent.cond (fun hc => ?_) fun hc => ?_
    · rw [decide_eq_false fun hh => ?_] at h
      · exact h
      · have hh2 := congrArg (fun l => l[k]?) hh
        simp only [List.getElem?_map, gx, gy, Option.map_some, Option.some.injEq] at hh2
        rw [decide_eq_true hh2] at hc
        cases hc
    · have hd : dEv x = dEv y := by simpa using hc
      refine Ent.war ?_
      refine (hj2 (N - 1) (by omega) ((k : Int) + 1)).imp (Imp.pur ⟨by omega, by omega, by omega, ?_⟩ (Imp.refl _))
      rw [show ((k : Int) + 1).toNat = k + 1 by omega, s1, s2, List.map_append, List.map_append, f4, List.map_cons, List.map_cons, hd]
  · obtain rfl : k = xs.length := by omega
    rw [List.take_length, hl, List.take_length] at f4
    rw [decide_eq_true f4] at h
    exact h
end
end Go.Proofs.YtoneapgooihajaaGreatDoor.Qa
