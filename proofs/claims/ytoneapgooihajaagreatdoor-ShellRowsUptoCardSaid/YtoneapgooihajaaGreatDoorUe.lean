/-
  THE DOCUMENT's TEXTS OF EVENTS (layer 31): Text; lists of events turned into the program's.
-/
import Derived.Test.YtoneapgooihajaaGreatDoorUd
import Derived.Test.YtoneapgooihajaaGreatDoorAp
set_option maxRecDepth 100000
set_option linter.unusedVariables false
set_option linter.unusedSectionVars false
set_option linter.unusedSimpArgs false
set_option maxHeartbeats 0
namespace Go.Proofs.YtoneapgooihajaaGreatDoor.Qa
open Go Sh Sl
open Go.RowKit
attribute [local irreducible] condK ArK NilK OpK FnK StK joinK loopK DrawK andK PuK NxK EnK vS uS bS callS invokeS
section
variable {e : Env} {ctx rest R : List HProp} {M : Hp}
theorem reftext_spec {K : ByteArray → Int → WP} {xs : List Ev} {a : Option Addr} {c : Nat} (hn : xs.length ≤ 16777216) (hr : Rd rest a (evcs xs)) (hxs : ∀ x ∈ xs, EvR x ∧ Rd rest x.a (u8 x.b)) (h : Ent e rest (K (ba (evText (xs.map dEv)).1) (evText (xs.map dEv)).2)) : Ent e rest (ref31_Text (.slice a xs.length c) K) := by
  (refine Ent.fn ref31_Text_ok ?_; unfold ref31_Text_sh)
  refine Ent.loop2 (k0 := .raw) (k1 := .int .i64) (fun N (b : Value) (i : Int) => (exs fun (p : Nat × Option Addr × Nat) => sepL [pur (b = .slice p.2.1 (evTx ((xs.take p.1).map dEv)).length p.2.2 ∧ i = (p.1 : Int) ∧ p.1 ≤ xs.length ∧ N = xs.length - p.1 ∧ ∀ x ∈ xs.take p.1, (evL (dEv x)).2 = true),
      SlO p.2.1 (evTx ((xs.take p.1).map dEv)).length p.2.2 1 (u8 (evTx ((xs.take p.1).map dEv)))]) :: rest) xs.length ?_ fun N j2 hj2 b i => ?_
  · refine Imp.trans (Imp.slN (sz := 1) (Imp.refl _)) ?_
    exact Imp.exs (0, none, 0) (Imp.g2 (Imp.pur ⟨rfl, rfl, Nat.zero_le _, rfl, fun x hx => by simp at hx⟩ (Imp.refl _)))
  refine Ent.exs fun ⟨k, a1, c1⟩ => Ent.g2 (Ent.pur fun ⟨f1, f2, f3, f4, f5⟩ => ?_)
  dsimp only at f1 f2 f3 f4 f5
  dsimp only
  subst f1 f2
  have hlen := evTx_len (l := xs.take k) fun x hx => (hxs x (List.mem_of_mem_take hx)).1
  have hlt : (xs.take k).length ≤ xs.length := List.length_take_le' k xs
  refine Ent.wlen ?_
  refine Ent.condD (fun hl => ?_) fun hge => ?_
  · obtain ⟨x, hx⟩ : ∃ x, xs[k]? = some x := ⟨_, List.getElem?_eq_getElem (by omega)⟩
    have hxm := hxs x (List.mem_of_getElem? hx)
    have hx' : xs[(k : Int).toNat]? = some x := hx
    have hel := evL_len hxm.1
    obtain ⟨d1, d2⟩ := evD_ok x.k x.t x.n x.b
    refine Ent.wiAr (f := evC) (xs := xs) (y := x) (hr.mono (by (focus (repeat (first | exact Imp.refl _ | exact Imp.nil _ | apply Imp.drop))))) ?_ rfl rfl rfl (by omega) (by omega) (fun _ => rfl) (by decide) hx'
    refine refline_spec (x := x) hxm.1 (hxm.2.mono (by (focus (repeat (first | exact Imp.refl _ | exact Imp.nil _ | apply Imp.drop))))) ?_
    refine Ent.cond (fun hc => ?_) fun hc => ?_
    · have hno : (evL (dEv x)).2 = false := by
        have h9 : (evD x.k x.t x.n x.b).2 = false := by simpa using hc
        exact d1.symm.trans h9
      have hall : (xs.map dEv).all (fun d => (evL d).2) = false := by
        rw [List.all_eq_false]
        exact ⟨dEv x, List.mem_map.2 ⟨x, List.mem_of_getElem? hx, rfl⟩, by rw [hno]; decide⟩
      unfold evText at h
      rw [hall] at h
      exact h.drop
    · have hyes : (evD x.k x.t x.n x.b).2 = true := by simpa using hc
      have hyes' : (evL (dEv x)).2 = true := d1.symm.trans hyes
      have hcat : (evD x.k x.t x.n x.b).1 ++ [10] = (evL (dEv x)).1 := d2 hyes
      have hdl : (evD x.k x.t x.n x.b).1.length ≤ 4195000 := by
        have := congrArg List.length hcat
        rw [List.length_append] at this
        omega
      refine Ent.appendS (fun a2 c2 => ?_) (hl := by omega)
      refine Ent.slice (out := u8 [10]) (by_ := 1) rfl rfl rfl rfl (by decide) (by decide) (by rfl) fun b2 => ?_
      refine Ent.appN (sz := 1) (by_ := 1) (m := 1) (Rd.pt .hd) (fun a3 c3 => ?_) (hl := rfl) (hb := by rw [List.length_append]; omega) (h63 := by rw [List.length_append]; omega)
      refine Ent.war ?_
      refine (hj2 (N - 1) (by omega) _ _).imp ?_
      have e0 : evTx ((xs.take (k + 1)).map dEv) = evTx ((xs.take k).map dEv) ++ (evD x.k x.t x.n x.b).1 ++ [10] := by
        rw [take_snoc hx, List.map_append]
        show evTx ((xs.take k).map dEv ++ [dEv x]) = _
        rw [evTx_snoc, ← hcat, List.append_assoc]
      have e1 : (evTx ((xs.take (k + 1)).map dEv)).length = (evTx ((xs.take k).map dEv) ++ (evD x.k x.t x.n x.b).1).length + 1 := by
        rw [e0, List.length_append (bs := [10])]; rfl
      refine Imp.exs (k + 1, a3, c3) (Imp.g2 (Imp.pur ⟨(by dsimp only; rw [e1]), (by dsimp only; omega), (by dsimp only; omega), (by dsimp only; omega), fun y hy => ?_⟩ ?_))
      · rw [take_snoc hx] at hy
        rcases List.mem_append.1 hy with hy | hy
        · exact f5 y hy
        · rw [List.mem_singleton.1 hy]; exact hyes'
      · dsimp only
        rw [e1, e0, u8_append (r := [10])]
        (focus ((repeat ((with_reducible apply Imp.pick); (repeat (first | exact Pick.hd | apply Pick.tl)))); (repeat (first | exact Imp.refl _ | exact Imp.nil _ | apply Imp.drop)); done))
  · obtain rfl : k = xs.length := by omega
    rw [List.take_length] at f5 hlen ⊢
    have hall : (xs.map dEv).all (fun d => (evL d).2) = true := List.all_eq_true.2 fun d hd => by
      obtain ⟨x, hx, rfl⟩ := List.mem_map.1 hd
      exact f5 x hx
    unfold evText at h
    rw [hall, if_pos rfl] at h
    refine Ent.wlen ?_
    refine Ent.condD (fun hc => ?_) fun hc => ?_
    · rw [if_pos (by omega)] at h
      exact h.drop
    · rw [if_neg (by omega)] at h
      refine Ent.rdS fun r1 _ => ?_
      refine obytes (r1 _ .hd) ?_
      exact h.drop
/-- the bytes copied -/
theorem evcopy_spec {K : Value → WP} {x : Ev} (hx : EvR x) (hr : Rd rest x.a (u8 x.b)) (h : ∀ y : Ev, dEv y = dEv x → Ent e (SlO y.a y.b.length y.c 1 (u8 y.b) :: rest) (K (.agg (evC y).toArray))) : Ent e rest (law28_Event (.agg (evC x).toArray) K) := by
  have hb := hx.b
  (refine Ent.fn law28_Event_ok ?_; unfold law28_Event_sh)
  refine Ent.box' fun eb => ?_
  refine Ent.alloc' fun t2 => ?_
  refine Ent.draw [pt eb (evC x)] (by (focus ((repeat ((with_reducible apply Imp.pick); (repeat (first | exact Pick.hd | apply Pick.tl)))); (repeat (first | exact Imp.refl _ | exact Imp.nil _ | apply Imp.drop)); done))) ?_
  refine Ent.wgI ?_
  refine Ent.wgI ?_
  refine Ent.wgI ?_
  refine Ent.wgR ?_
  refine Ent.slice (out := []) (n := 0) (by_ := 1) rfl rfl rfl rfl (by decide) (by decide) (by rfl) fun b0 => ?_
  refine Ent.wand ?_
  refine Ent.imp (ctx' := SlO (some ⟨b0, 0, none⟩) 0 0 1 [] :: pt t2 (evC ⟨0, 0, 0, none, 0, []⟩) :: pt eb (evC x) :: rest) (slO_pt (n := 0) (sz := 1) rfl) ?_
  refine Ent.appN (sz := 1) (m := x.b.length) (hr.mono (by (focus (repeat (first | exact Imp.refl _ | exact Imp.nil _ | apply Imp.drop))))) (fun a2 c2 => ?_) (h1 := u8_one _)
  rw [Nat.zero_add, List.nil_append]
  refine Ent.wand ?_
  refine Ent.puR (st_build (out := evC ⟨x.k, x.t, x.n, a2, c2, x.b⟩) rfl rfl rfl) ?_
  refine Ent.wstoA (l' := evC ⟨x.k, x.t, x.n, a2, c2, x.b⟩) ?_ (vs := evC ⟨x.k, x.t, x.n, a2, c2, x.b⟩) (hl := rfl) (hu := by (repeat (first | exact Upd.hd | apply Upd.tl)))
  refine Ent.wrA (l := evC ⟨x.k, x.t, x.n, a2, c2, x.b⟩) ?_
  exact (h ⟨x.k, x.t, x.n, a2, c2, x.b⟩ rfl).imp (by (focus ((repeat ((with_reducible apply Imp.pick); (repeat (first | exact Pick.hd | apply Pick.tl)))); (repeat (first | exact Imp.refl _ | exact Imp.nil _ | apply Imp.drop)); done)))
theorem ours_spec {K : Value → WP} {xs : List Ev} {a : Option Addr} {c : Nat} (hn : xs.length ≤ 16777216) (hr : Rd rest a (evcs xs)) (hxs : ∀ x ∈ xs, EvR x ∧ Rd rest x.a (u8 x.b))
    (h : ∀ (ys : List Ev) a2 c2 M', Hp.le M M' → ys.map dEv = xs.map dEv → (∀ y ∈ ys, EvM M' y) → Ent e (SlO a2 ys.length c2 4 (evcs ys) :: Sl.ro M' :: rest) (K (.slice a2 ys.length c2))) :
    Ent e (Sl.ro M :: rest) (law31_ours (.slice a xs.length c) K) := by
  (refine Ent.fn law31_ours_ok ?_; unfold law31_ours_sh)
  refine Ent.loop2 (k0 := .raw) (k1 := .int .i64) (fun N (out : Value) (i : Int) => (exs fun (p : Hp × List Ev × Option Addr × Nat) => sepL [pur (out = .slice p.2.2.1 p.2.1.length p.2.2.2 ∧ i = (p.2.1.length : Int) ∧ p.2.1.length ≤ xs.length ∧ N = xs.length - p.2.1.length ∧ Hp.le M p.1 ∧ p.2.1.map dEv = (xs.take p.2.1.length).map dEv ∧ ∀ y ∈ p.2.1, EvM p.1 y),
      SlO p.2.2.1 p.2.1.length p.2.2.2 4 (evcs p.2.1), Sl.ro p.1]) :: rest) xs.length ?_ fun N j2 hj2 out i => ?_
  · refine Imp.trans (Imp.slN (sz := 4) (Imp.refl _)) ?_
    exact Imp.exs (M, [], none, 0) (Imp.g3 (Imp.pur ⟨rfl, rfl, Nat.zero_le _, rfl, Hp.le_refl _, rfl, fun x hx => by cases hx⟩ (Imp.refl _)))
  refine Ent.exs fun ⟨M1, ys, a1, c1⟩ => Ent.g3 (Ent.pur fun ⟨f1, f2, f3, f4, f5, f6, f7⟩ => ?_)
  dsimp only at f1 f2 f3 f4 f5 f6 f7
  dsimp only
  subst f1 f2
  refine Ent.wlen ?_
  refine Ent.condD (fun hlt => ?_) fun hge => ?_
  · obtain ⟨x, hx⟩ : ∃ x, xs[ys.length]? = some x := ⟨_, List.getElem?_eq_getElem (by omega)⟩
    have hx' : xs[((ys.length : Nat) : Int).toNat]? = some x := hx
    have hxm := hxs x (List.mem_of_getElem? hx)
    refine Ent.wiAr (f := evC) (xs := xs) (y := x) (hr.mono (by (focus (repeat (first | exact Imp.refl _ | exact Imp.nil _ | apply Imp.drop))))) ?_ rfl rfl rfl (by omega) (by omega) (fun _ => rfl) (by decide) hx'
    refine evcopy_spec hxm.1 (hxm.2.mono (by (focus (repeat (first | exact Imp.refl _ | exact Imp.nil _ | apply Imp.drop))))) fun y hy => ?_
    refine Ent.app1 (sz := 4) (cs := evC y) (fun a2 c2 => ?_) (hp := .tl .hd)
    refine Ent.war ?_
    refine Ent.imp (ctx' := SlO y.a y.b.length y.c 1 (u8 y.b) :: Sl.ro M1 :: SlO a2 (ys.length + 1) c2 4 (evcs ys ++ evC y) :: rest) (by (focus ((repeat ((with_reducible apply Imp.pick); (repeat (first | exact Pick.hd | apply Pick.tl)))); (repeat (first | exact Imp.refl _ | exact Imp.nil _ | apply Imp.drop)); done))) ?_
    refine Ent.keepS fun M3 hM3 hrm _ _ _ => ?_
    refine (hj2 (N - 1) (by omega) _ _).imp ?_
    have hyr : EvR y := by
      have h2 := hxm.1
      unfold dEv at hy
      obtain ⟨e1, hy2⟩ := Prod.mk.inj hy
      obtain ⟨e2, hy3⟩ := Prod.mk.inj hy2
      obtain ⟨e3, e4⟩ := Prod.mk.inj hy3
      exact ⟨by rw [e2]; exact h2.t, by rw [e3]; exact h2.n, by rw [e4]; exact h2.b⟩
    refine Imp.exs (M3, ys ++ [y], a2, c2) (Imp.g3 (Imp.pur ⟨(by simp), (by simp), (by simp; omega), (by simp; omega), Hp.le_trans f5 hM3, ?_, fun z hz => ?_⟩ ?_))
    · dsimp only
      rw [List.length_append, List.length_singleton, take_snoc hx, List.map_append, List.map_append, f6]
      simp only [List.map_cons, List.map_nil, hy]
    · rcases List.mem_append.1 hz with hz | hz
      · exact (f7 z hz).mono hM3
      · rw [List.mem_singleton.1 hz]; exact ⟨hrm, hyr⟩
    · dsimp only
      have e1 : (ys ++ [y]).length = ys.length + 1 := by simp
      have e2 : evcs (ys ++ [y]) = evcs ys ++ evC y := by rw [evcs_app]; simp [evcs]
      rw [e1, e2]
      (focus ((repeat ((with_reducible apply Imp.pick); (repeat (first | exact Pick.hd | apply Pick.tl)))); (repeat (first | exact Imp.refl _ | exact Imp.nil _ | apply Imp.drop)); done))
  · have hye : ys.length = xs.length := by omega
    rw [hye, List.take_length] at f6
    exact h ys a1 c1 M1 f5 f6 f7
end
end Go.Proofs.YtoneapgooihajaaGreatDoor.Qa
