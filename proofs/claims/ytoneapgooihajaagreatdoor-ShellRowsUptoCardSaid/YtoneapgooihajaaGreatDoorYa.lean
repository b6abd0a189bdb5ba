/-
  THE PROGRAM's ROWS AS THE DOCUMENT's (layer 31), held against each other.
-/
import Derived.Test.YtoneapgooihajaaGreatDoorXf
set_option maxRecDepth 100000
set_option linter.unusedVariables false
set_option linter.unusedSectionVars false
set_option linter.unusedSimpArgs false
set_option maxHeartbeats 0
namespace Go.Proofs.YtoneapgooihajaaGreatDoor.Qa
open Go Sh Sl
open Go.RowKit
attribute [local irreducible] condK ArK NilK OpK FnK StK joinK loopK DrawK andK PuK NxK EnK vS uS bS callS invokeS
theorem oucs_app (a b : List Ou) : oucs (a ++ b) = oucs a ++ oucs b := by simp [oucs]
theorem iis_app (a b : List Int) : iis (a ++ b) = iis a ++ iis b := by simp [iis]
@[simp] theorem iis_len (l : List Int) : (iis l).length = l.length := by simp [iis]
theorem drcs_app (a b : List Dr) : drcs (a ++ b) = drcs a ++ drcs b := by simp [drcs]
theorem oucs_one (l : List Ou) : ∀ v ∈ oucs l, v.oneCell' = true := by
  intro v hv
  simp only [oucs, List.mem_flatten, List.mem_map] at hv
  obtain ⟨c, ⟨x, _, rfl⟩, hv⟩ := hv
  simp only [List.mem_cons, List.not_mem_nil, or_false] at hv
  rcases hv with rfl | rfl | rfl | rfl | rfl | rfl <;> rfl
/-- a row of the document's that lies still; its bytes are read where R is -/
structure DrM (M : Hp) (R : List HProp) (x : Dr) : Prop where
  er : I64 x.er
  w : RdM M x.wa (iis x.ws)
  o : RdM M x.oa (oucs x.os)
  n : x.ws.length = x.os.length
  lo : x.os.length ≤ 1048576
  wi : ∀ n ∈ x.ws, I64 n
  d : ∀ z ∈ x.os, OuR z ∧ Rd R z.a (u8 z.d)
theorem DrM.mono {M M' : Hp} {R : List HProp} {x : Dr} (h : DrM M R x) (hl : Hp.le M M') : DrM M' R x := ⟨h.er, h.w.mono hl, h.o.mono hl, h.n, h.lo, h.wi, h.d⟩
section
variable {e : Env} {ctx rest R : List HProp} {M : Hp}
theorem ours27_spec {K : Value → WP} {os : List Ou} {a : Option Addr} {c : Nat} (hn : os.length ≤ 16777216) (hr : Rd rest a (oucs os)) (h : ∀ a2 c2, Ent e (SlO a2 os.length c2 6 (oucs os) :: rest) (K (.slice a2 os.length c2))) :
    Ent e rest (law27_Ours (.slice a os.length c) K) := by
  (refine Ent.fn law27_Ours_ok ?_; unfold law27_Ours_sh)
  refine Ent.wlen ?_
  refine Ent.loop2 (k0 := .raw) (k1 := .int .i64) (fun N (out : Value) (i : Int) => (exs fun (p : Nat × Option Addr × Nat) => sepL [pur (out = .slice p.2.1 p.1 p.2.2 ∧ i = (p.1 : Int) ∧ p.1 ≤ os.length ∧ N = os.length - p.1), SlO p.2.1 p.1 p.2.2 6 (oucs (os.take p.1))]) :: rest) os.length ?_ fun N j2 hj2 out i => ?_
  · refine Imp.trans (Imp.slN (sz := 6) (Imp.refl _)) ?_
    exact Imp.exs (0, none, 0) (Imp.g2 (Imp.pur ⟨rfl, rfl, Nat.zero_le _, rfl⟩ (Imp.refl _)))
  refine Ent.exs fun ⟨k, a1, c1⟩ => Ent.g2 (Ent.pur fun ⟨f1, f2, f3, f4⟩ => ?_)
  dsimp only at f1 f2 f3 f4
  dsimp only
  subst f1 f2
  refine Ent.condD (fun hlt => ?_) fun hge => ?_
  · obtain ⟨x, hx⟩ : ∃ x, os[k]? = some x := ⟨_, List.getElem?_eq_getElem (by omega)⟩
    have hx' : os[(k : Int).toNat]? = some x := hx
    refine Ent.wiAr (f := ouC) (xs := os) (y := x) (hr.mono (by (focus (repeat (first | exact Imp.refl _ | exact Imp.nil _ | apply Imp.drop))))) ?_ rfl rfl rfl (by omega) (by omega) (fun _ => rfl) (by decide) hx'
    refine Ent.alloc' fun xb => ?_
    refine Ent.wstoA (l' := ouC x) ?_ (vs := ouC x) (hl := rfl) (hu := by (repeat (first | exact Upd.hd | apply Upd.tl)))
    refine Ent.wfI ?_
    refine Ent.wfI ?_
    refine Ent.wfI ?_
    refine Ent.wfR ?_
    refine Ent.wfS ?_
    refine Ent.wfI ?_
    refine Ent.opR (st_build (out := ouC x) rfl rfl rfl).still ?_
    refine Ent.app1 (sz := 6) (cs := ouC x) (fun a2 c2 => ?_) (hp := .tl .hd)
    refine Ent.war ?_
    refine (hj2 (N - 1) (by omega) _ _).imp ?_
    refine Imp.exs (k + 1, a2, c2) (Imp.g2 (Imp.pur ⟨rfl, (by dsimp only; omega), (by dsimp only; omega), (by dsimp only; omega)⟩ ?_))
    dsimp only
    rw [take_snoc hx, oucs_app]
    show Imp _ (SlO a2 (k + 1) c2 6 (oucs (os.take k) ++ ouC x) :: rest)
    (focus ((repeat ((with_reducible apply Imp.pick); (repeat (first | exact Pick.hd | apply Pick.tl)))); (repeat (first | exact Imp.refl _ | exact Imp.nil _ | apply Imp.drop)); done))
  · obtain rfl : k = os.length := by omega
    rw [List.take_length]
    exact h a1 c1
theorem ours28_spec {K : Value → WP} {x : Rw} (hn : x.l.length ≤ 1048576) (hr : Rd rest x.a (scs x.l)) (h : ∀ y : Dr, y.k = x.k → y.er = x.er → y.ws = x.l.map (·.1) → y.os = x.l.map (·.2) → Ent e (SlO y.wa y.ws.length y.wc 1 (iis y.ws) :: SlO y.oa y.os.length y.oc 6 (oucs y.os) :: rest) (K (.agg (drC y).toArray))) :
    Ent e rest (law28_Ours (.agg (rwC x).toArray) K) := by
  (refine Ent.fn law28_Ours_ok ?_; unfold law28_Ours_sh)
  refine Ent.box' fun rb => ?_
  refine Ent.alloc' fun t2 => ?_
  refine Ent.wfI ?_
  refine Ent.wfI ?_
  refine Ent.opR (st_build (out := drC ⟨x.k, x.er, none, 0, [], none, 0, []⟩) rfl rfl rfl).still ?_
  refine Ent.alloc' fun ob => ?_
  refine Ent.wstoA (l' := drC ⟨x.k, x.er, none, 0, [], none, 0, []⟩) ?_ (vs := drC ⟨x.k, x.er, none, 0, [], none, 0, []⟩) (hl := rfl) (hu := by (repeat (first | exact Upd.hd | apply Upd.tl)))
  refine Ent.wfR ?_
  refine Ent.wlen ?_
  refine Ent.loop1 (k0 := .int .i64) (fun N (i : Int) => (exs fun (y : Dr) => sepL [pur (y.k = x.k ∧ y.er = x.er ∧ i = (y.ws.length : Int) ∧ y.ws.length ≤ x.l.length ∧ N = x.l.length - y.ws.length ∧ y.ws = (x.l.take y.ws.length).map (·.1) ∧ y.os = (x.l.take y.ws.length).map (·.2)),
      pt ob (drC y), SlO y.wa y.ws.length y.wc 1 (iis y.ws), SlO y.oa y.os.length y.oc 6 (oucs y.os)]) :: pt t2 (drC ⟨0, 0, none, 0, [], none, 0, []⟩) :: pt rb (rwC x) :: rest) x.l.length ?_ fun N j2 hj2 i => ?_
  · refine Imp.trans (Imp.slN (sz := 1) (Imp.slN (sz := 6) (Imp.refl _))) ?_
    refine Imp.exs ⟨x.k, x.er, none, 0, [], none, 0, []⟩ (Imp.g4 (Imp.pur ⟨rfl, rfl, rfl, Nat.zero_le _, rfl, rfl, rfl⟩ ?_))
    show Imp (SlO none 0 0 1 [] :: SlO none 0 0 6 [] :: _) (_ :: SlO none 0 0 1 [] :: SlO none 0 0 6 [] :: _)
    (focus ((repeat ((with_reducible apply Imp.pick); (repeat (first | exact Pick.hd | apply Pick.tl)))); (repeat (first | exact Imp.refl _ | exact Imp.nil _ | apply Imp.drop)); done))
  refine Ent.exs fun ⟨yk, yer, wa, wc, ws, oa, oc, os⟩ => Ent.g4 (Ent.pur fun ⟨f1, f2, f3, f4, f5, f6, f7⟩ => ?_)
  dsimp only at f1 f2 f3 f4 f5 f6 f7
  dsimp only
  subst f1 f2 f3
  have hol : os.length = ws.length := by
    have h1 := congrArg List.length f7
    rw [List.length_map, List.length_take] at h1
    omega
  refine Ent.condD (fun hlt => ?_) fun hge => ?_
  · obtain ⟨y, hy⟩ : ∃ y, x.l[ws.length]? = some y := ⟨_, List.getElem?_eq_getElem (by omega)⟩
    have hy' : x.l[((ws.length : Nat) : Int).toNat]? = some y := hy
    refine Ent.wiAr (f := sC) (xs := x.l) (y := y) (hr.mono (by (focus (repeat (first | exact Imp.refl _ | exact Imp.nil _ | apply Imp.drop))))) ?_ rfl rfl rfl (by omega) (by omega) (fun _ => rfl) (by decide) hy'
    refine Ent.alloc' fun sb => ?_
    refine Ent.wstoA (l' := sC y) ?_ (vs := sC y) (hl := rfl) (hu := by (repeat (first | exact Upd.hd | apply Upd.tl)))
    refine Ent.wfR (v := .slice wa ws.length wc) ?_
    refine Ent.wfI ?_
    refine Ent.app1 (sz := 1) (cs := [.int .i64 y.1]) (fun a2 c2 => ?_) (hp := .tl (.tl .hd))
    refine Ent.wfW (l' := drC ⟨x.k, x.er, a2, c2, ws ++ [y.1], oa, oc, os⟩) ?_ (hl := by simp) (hu := .tl (.tl .hd))
    refine Ent.draw [pt ob (drC ⟨x.k, x.er, a2, c2, ws ++ [y.1], oa, oc, os⟩), pt sb (sC y)] (by (focus ((repeat ((with_reducible apply Imp.pick); (repeat (first | exact Pick.hd | apply Pick.tl)))); (repeat (first | exact Imp.refl _ | exact Imp.nil _ | apply Imp.drop)); done))) ?_
    refine Ent.wgR (v := .slice oa os.length oc) ?_
    refine Ent.wgA (cs := ouC y.2) ?_
    refine Ent.slice (out := oucs [y.2]) (by_ := 72) rfl rfl rfl rfl (by decide) (by decide) (by rfl) fun b5 => ?_
    refine Ent.wand ?_
    refine ours27_spec (os := [y.2]) (by simp) (Rd.pt .hd) fun a3 c3 => ?_
    refine Ent.wand ?_
    refine Ent.rdS fun r3 _ => ?_
    refine Ent.appN (sz := 6) (by_ := 72) (m := 1) (r3 _ .hd) (fun a4 c4 => ?_) (hl := rfl) (h1 := oucs_one _)
    refine Ent.wand ?_
    refine Ent.wqR ?_
    refine Ent.wsto (l' := drC ⟨x.k, x.er, a2, c2, ws ++ [y.1], a4, c4, os ++ [y.2]⟩) ?_ (hl := by simp) (hu := by (repeat (first | exact Upd.hd | apply Upd.tl)))
    refine Ent.war ?_
    refine (hj2 (N - 1) (by omega) _).imp ?_
    have e1 : (ws ++ [y.1]).length = ws.length + 1 := by simp
    have e2 : (os ++ [y.2]).length = os.length + 1 := by simp
    refine Imp.exs ⟨x.k, x.er, a2, c2, ws ++ [y.1], a4, c4, os ++ [y.2]⟩ (Imp.g4 (Imp.pur ⟨rfl, rfl, (by dsimp only; rw [e1]; omega), (by dsimp only; rw [e1]; omega), (by dsimp only; rw [e1]; omega), ?_, ?_⟩ ?_))
    · dsimp only
      rw [e1, take_snoc hy, List.map_append, ← f6]; rfl
    · dsimp only
      rw [e1, take_snoc hy, List.map_append, ← f7]; rfl
    · dsimp only
      rw [e1, e2, iis_app, oucs_app]
      show Imp _ (_ :: SlO a2 (ws.length + 1) c2 1 (iis ws ++ [.int .i64 y.1]) :: _)
      (focus ((repeat ((with_reducible apply Imp.pick); (repeat (first | exact Pick.hd | apply Pick.tl)))); (repeat (first | exact Imp.refl _ | exact Imp.nil _ | apply Imp.drop)); done))
  · have hwl : ws.length = x.l.length := by omega
    rw [hwl, List.take_length] at f6 f7
    refine Ent.wlA (cs := drC ⟨x.k, x.er, wa, wc, ws, oa, oc, os⟩) ?_
    refine Ent.wstoA (l' := drC ⟨x.k, x.er, wa, wc, ws, oa, oc, os⟩) ?_ (vs := drC ⟨x.k, x.er, wa, wc, ws, oa, oc, os⟩) (hl := rfl) (hu := by (repeat (first | exact Upd.hd | apply Upd.tl)))
    refine Ent.wrA (l := drC ⟨x.k, x.er, wa, wc, ws, oa, oc, os⟩) ?_
    exact (h ⟨x.k, x.er, wa, wc, ws, oa, oc, os⟩ rfl rfl f6 f7).imp (by (focus ((repeat ((with_reducible apply Imp.pick); (repeat (first | exact Pick.hd | apply Pick.tl)))); (repeat (first | exact Imp.refl _ | exact Imp.nil _ | apply Imp.drop)); done)))
theorem zip_maps {l : List Se} : (((l.map (·.1)).zip (l.map (·.2))).map fun p => (p.1, dOu p.2)) = l.map dSe := by
  induction l with
  | nil => rfl
  | cons y l ih => simp only [List.map_cons, List.zip_cons_cons, ih]; rfl
/-- what is asked of rows that are told -/
structure RwD (M : Hp) (R : List HProp) (x : Rw) : Prop where
  er : I64 x.er
  r : RdM M x.a (scs x.l)
  l : ∀ y ∈ x.l, I64 y.1 ∧ OuR y.2 ∧ Rd R y.2.a (u8 y.2.d)
  n : x.l.length ≤ 1048576
theorem RwX.d {M : Hp} {R : List HProp} {x : Rw} (h : RwX M R x) : RwD M R x := ⟨h.er, h.r, h.l, h.n⟩
theorem RwM.d {M : Hp} {R : List HProp} {x : Rw} (h : RwM M x) (hM : Has R (Sl.ro M)) (hn : x.l.length ≤ 1048576) : RwD M R x := ⟨h.b.er, h.r, fun y hy => ⟨(h.b.l y hy).t, (h.b.l y hy).o, (h.b.l y hy).r.rd hM⟩, hn⟩
theorem told_spec {K : Value → WP} {ys : List Rw} {a : Option Addr} {c : Nat} (hn : ys.length ≤ 16777216) (hr : RdM M a (rwcs ys)) (hys : ∀ y ∈ ys, RwD M R y)
    (h : ∀ (xs : List Dr) a2 c2 M', Hp.le M M' → xs.map dDr = ys.map dRw → (∀ x ∈ xs, DrM M' R x) → Ent e (SlO a2 xs.length c2 4 (drcs xs) :: Sl.ro M' :: rest) (K (.slice a2 xs.length c2))) :
    Ent e (Sl.ro M :: rest) (law31_told (.slice a ys.length c) K) := by
  (refine Ent.fn law31_told_ok ?_; unfold law31_told_sh)
  refine Ent.loop2 (k0 := .raw) (k1 := .int .i64) (fun N (out : Value) (i : Int) => (exs fun (p : Hp × List Dr × Option Addr × Nat) => sepL [pur (out = .slice p.2.2.1 p.2.1.length p.2.2.2 ∧ i = (p.2.1.length : Int) ∧ p.2.1.length ≤ ys.length ∧ N = ys.length - p.2.1.length ∧ Hp.le M p.1 ∧ p.2.1.map dDr = (ys.take p.2.1.length).map dRw ∧ ∀ x ∈ p.2.1, DrM p.1 R x),
      SlO p.2.2.1 p.2.1.length p.2.2.2 4 (drcs p.2.1), Sl.ro p.1]) :: rest) ys.length ?_ fun N j2 hj2 out i => ?_
  · refine Imp.trans (Imp.slN (sz := 4) (Imp.refl _)) ?_
    exact Imp.exs (M, [], none, 0) (Imp.g3 (Imp.pur ⟨rfl, rfl, Nat.zero_le _, rfl, Hp.le_refl _, rfl, fun x hx => by cases hx⟩ (Imp.refl _)))
  refine Ent.exs fun ⟨M1, xs, a1, c1⟩ => Ent.g3 (Ent.pur fun ⟨f1, f2, f3, f4, f5, f6, f7⟩ => ?_)
  dsimp only at f1 f2 f3 f4 f5 f6 f7
  dsimp only
  subst f1 f2
  refine Ent.wlen ?_
  refine Ent.condD (fun hlt => ?_) fun hge => ?_
  · obtain ⟨y, hy⟩ : ∃ y, ys[xs.length]? = some y := ⟨_, List.getElem?_eq_getElem (by omega)⟩
    have hy' : ys[((xs.length : Nat) : Int).toNat]? = some y := hy
    have hym := hys y (List.mem_of_getElem? hy)
    refine Ent.wiAr (f := rwC) (xs := ys) (y := y) ((hr.mono f5).rd (.tl .hd)) ?_ rfl rfl rfl (by omega) (by omega) (fun _ => rfl) (by decide) hy'
    refine ours28_spec (x := y) hym.n ((hym.r.mono f5).rd (.tl .hd)) fun x q1 q2 q3 q4 => ?_
    refine Ent.app1 (sz := 4) (cs := drC x) (fun a2 c2 => ?_) (hp := .tl (.tl .hd))
    refine Ent.war ?_
    refine Ent.imp (ctx' := SlO x.wa x.ws.length x.wc 1 (iis x.ws) :: Sl.ro M1 :: SlO x.oa x.os.length x.oc 6 (oucs x.os) :: SlO a2 (xs.length + 1) c2 4 (drcs xs ++ drC x) :: rest) (by (focus ((repeat ((with_reducible apply Imp.pick); (repeat (first | exact Pick.hd | apply Pick.tl)))); (repeat (first | exact Imp.refl _ | exact Imp.nil _ | apply Imp.drop)); done))) ?_
    refine Ent.keepS fun M2 hM2 hw _ _ _ => ?_
    refine Ent.imp (ctx' := SlO x.oa x.os.length x.oc 6 (oucs x.os) :: Sl.ro M2 :: SlO a2 (xs.length + 1) c2 4 (drcs xs ++ drC x) :: rest) (by (focus ((repeat ((with_reducible apply Imp.pick); (repeat (first | exact Pick.hd | apply Pick.tl)))); (repeat (first | exact Imp.refl _ | exact Imp.nil _ | apply Imp.drop)); done))) ?_
    refine Ent.keepS fun M3 hM3 ho _ _ _ => ?_
    refine (hj2 (N - 1) (by omega) _ _).imp ?_
    have e1 : (xs ++ [x]).length = xs.length + 1 := by simp
    have e2 : drcs (xs ++ [x]) = drcs xs ++ drC x := by rw [drcs_app]; simp [drcs]
    have hdx : dDr x = dRw y := by
      unfold dDr dRw
      rw [q1, q2, q3, q4, zip_maps]
    have hwl : x.ws.length = y.l.length := by rw [q3]; simp
    have hol : x.os.length = y.l.length := by rw [q4]; simp
    have hyn := hym.n
    refine Imp.exs (M3, xs ++ [x], a2, c2) (Imp.g3 (Imp.pur ⟨(by simp), (by simp), (by simp; omega), (by simp; omega), Hp.le_trans f5 (Hp.le_trans hM2 hM3), ?_, fun z hz => ?_⟩ ?_))
    · dsimp only
      rw [e1, take_snoc hy, List.map_append, List.map_append, f6, List.map_cons, List.map_cons, hdx]; rfl
    · rcases List.mem_append.1 hz with hz | hz
      · exact (f7 z hz).mono (Hp.le_trans hM2 hM3)
      · rw [List.mem_singleton.1 hz]
        refine ⟨by rw [q2]; exact hym.er, hw.mono hM3, ho, by rw [hwl, hol], by rw [hol]; exact hyn, fun n hn => ?_, fun w hw => ?_⟩
        · rw [q3] at hn
          obtain ⟨s, hs, rfl⟩ := List.mem_map.1 hn
          exact (hym.l s hs).1
        · rw [q4] at hw
          obtain ⟨s, hs, rfl⟩ := List.mem_map.1 hw
          exact (hym.l s hs).2
    · dsimp only
      rw [e1, e2]
      (focus ((repeat ((with_reducible apply Imp.pick); (repeat (first | exact Pick.hd | apply Pick.tl)))); (repeat (first | exact Imp.refl _ | exact Imp.nil _ | apply Imp.drop)); done))
  · have hye : xs.length = ys.length := by omega
    rw [hye, List.take_length] at f6
    exact h xs a1 c1 M1 f5 f6 f7
theorem zip_inj : ∀ {ws ws' : List Int} {os os' : List Ou}, ws.length = os.length → ws'.length = os'.length → (ws.zip os).map (fun p => (p.1, dOu p.2)) = (ws'.zip os').map (fun p => (p.1, dOu p.2)) → ws = ws' ∧ os.map dOu = os'.map dOu
  | [], [], [], [], _, _, _ => ⟨rfl, rfl⟩
  | w :: ws, w' :: ws', o :: os, o' :: os', h1, h2, h => by
    simp only [List.zip_cons_cons, List.map_cons, List.cons.injEq, Prod.mk.injEq] at h
    obtain ⟨h3, h4⟩ := zip_inj (ws := ws) (ws' := ws') (os := os) (os' := os') (by simpa using h1) (by simpa using h2) h.2
    exact ⟨by rw [h.1.1, h3], by rw [List.map_cons, List.map_cons, h.1.2, h4]⟩
  | [], _ :: _, [], _ :: _, _, _, h => by simp at h
  | _ :: _, [], _ :: _, [], _, _, h => by simp at h
  | [], _, _ :: _, _, h1, _, _ => by simp at h1
  | _ :: _, _, [], _, h1, _, _ => by simp at h1
  | _, [], _, _ :: _, _, h2, _ => by simp at h2
  | _, _ :: _, _, [], _, h2, _ => by simp at h2
theorem dOu_eqs {x y : Ou} (h : dOu x = dOu y) : x.k = y.k ∧ x.s = y.s ∧ x.c = y.c ∧ x.d = y.d ∧ x.h = y.h ∧ x.p = y.p := by
  unfold dOu at h
  simpa using h
theorem same27_yes {K : Bool → WP} {xs ys : List Ou} {a a' : Option Addr} {c c' : Nat} (hx : xs.length ≤ 16777216) (hr : Rd ctx a (oucs xs)) (hr' : Rd ctx a' (oucs ys)) (hxs : ∀ x ∈ xs, Rd ctx x.a (u8 x.d)) (hys : ∀ x ∈ ys, Rd ctx x.a (u8 x.d)) (heq : xs.map dOu = ys.map dOu)
    (h : Ent e ctx (K true)) : Ent e ctx (ref27_Same (.slice a xs.length c) (.slice a' ys.length c') K) := by
  have hl : xs.length = ys.length := by simpa using congrArg List.length heq
  (refine Ent.fn ref27_Same_ok ?_; unfold ref27_Same_sh)
  refine Ent.wlen ?_
  refine Ent.wlen ?_
  refine Ent.wF ?_ (bne_eq_false_iff_eq.2 (by rw [hl]))
  refine Ent.loop1 (k0 := .int .i64) (fun N (i : Int) => pur (0 ≤ i ∧ i ≤ xs.length ∧ N = xs.length - i.toNat) :: ctx) xs.length (Imp.pur ⟨by omega, by omega, by omega⟩ (Imp.refl _)) fun N j2 hj2 i => ?_
  refine Ent.pur fun ⟨f1, f2, f3⟩ => ?_
  obtain ⟨k, rfl⟩ := Int.eq_ofNat_of_zero_le f1
  refine Ent.wlen ?_
  refine Ent.condD (fun hlt => ?_) fun hge => h
  obtain ⟨x, gx⟩ : ∃ x, xs[k]? = some x := ⟨_, List.getElem?_eq_getElem (by omega)⟩
  obtain ⟨y, gy⟩ : ∃ y, ys[k]? = some y := ⟨_, List.getElem?_eq_getElem (by omega)⟩
  have gx' : xs[((k : Nat) : Int).toNat]? = some x := gx
  have gy' : ys[((k : Nat) : Int).toNat]? = some y := gy
  have hd : dOu x = dOu y := by
    have := congrArg (fun l => l[k]?) heq
    simpa [gx, gy] using this
  obtain ⟨q1, q2, q3, q4, q5, q6⟩ := dOu_eqs hd
  refine Ent.wiAr (f := ouC) (xs := xs) (y := x) hr ?_ rfl rfl rfl (by omega) (by omega) (fun _ => rfl) (by decide) gx'
  refine Ent.alloc' fun xb => ?_
  refine Ent.wstoA (l' := ouC x) ?_ (vs := ouC x) (hl := rfl) (hu := by (repeat (first | exact Upd.hd | apply Upd.tl)))
  refine Ent.wiAr (f := ouC) (xs := ys) (y := y) (hr'.mono (by (focus (repeat (first | exact Imp.refl _ | exact Imp.nil _ | apply Imp.drop))))) ?_ rfl rfl rfl (by omega) (by omega) (fun _ => rfl) (by decide) gy'
  refine Ent.alloc' fun yb => ?_
  refine Ent.wstoA (l' := ouC y) ?_ (vs := ouC y) (hl := rfl) (hu := by (repeat (first | exact Upd.hd | apply Upd.tl)))
  refine Ent.join1 (kd := .bool) (fun v => pur (v = false) :: ctx) ?_ ?_
  rotate_left
  · intro j3 hj3
    refine Ent.wfI ?_
    refine Ent.wfI ?_
    refine Ent.wF ?_ (bne_eq_false_iff_eq.2 q1)
    refine Ent.wfI ?_
    refine Ent.wfI ?_
    refine Ent.wF ?_ (bne_eq_false_iff_eq.2 q2)
    refine Ent.wfI ?_
    refine Ent.wfI ?_
    refine Ent.wF ?_ (bne_eq_false_iff_eq.2 q3)
    refine Ent.wfR ?_
    refine obytes ((hxs x (List.mem_of_getElem? gx)).mono (by (focus (repeat (first | exact Imp.refl _ | exact Imp.nil _ | apply Imp.drop))))) ?_
    refine Ent.wfR ?_
    refine obytes ((hys y (List.mem_of_getElem? gy)).mono (by (focus (repeat (first | exact Imp.refl _ | exact Imp.nil _ | apply Imp.drop))))) ?_
    refine Ent.opB (st_neS).still ?_
    rw [ba_eqb, decide_eq_true q4]
    refine Ent.wF ?_
    refine Ent.wfS ?_
    refine Ent.wfS ?_
    refine Ent.opB (st_neS).still ?_
    rw [ba_eqb, decide_eq_true q5]
    refine Ent.wF ?_
    refine Ent.wfI ?_
    refine Ent.wfI ?_
    refine (hj3 _).imp (Imp.pur (bne_eq_false_iff_eq.2 q6) (by (focus (repeat (first | exact Imp.refl _ | exact Imp.nil _ | apply Imp.drop)))))
  intro v
  refine Ent.pur fun hv => ?_
  subst hv
  refine Ent.wF ?_
  refine Ent.war ?_
  exact (hj2 (N - 1) (by omega) ((k : Int) + 1)).imp (Imp.pur ⟨by omega, by omega, by omega⟩ (Imp.refl _))
theorem same28_yes {K : Bool → WP} {x y : Dr} {R' : List HProp} (hM : Has ctx (Sl.ro M)) (hx : DrM M R x) (hy : DrM M R' y) (hR : Imp ctx R) (hR' : Imp ctx R') (heq : dDr x = dDr y) (h : Ent e ctx (K true)) :
    Ent e ctx (ref28_Same (.agg (drC x).toArray) (.agg (drC y).toArray) K) := by
  unfold dDr at heq
  obtain ⟨e1, heq⟩ := Prod.mk.inj heq
  obtain ⟨e2, heq⟩ := Prod.mk.inj heq
  obtain ⟨e3, e4⟩ := zip_inj hx.n hy.n heq
  have e5 : x.os.length = y.os.length := by simpa using congrArg List.length e4
  have e6 : x.ws.length = y.ws.length := by rw [e3]
  have hlo := hx.lo
  have hxn := hx.n
  (refine Ent.fn ref28_Same_ok ?_; unfold ref28_Same_sh)
  refine Ent.box' fun xb => ?_
  refine Ent.box' fun yb => ?_
  refine Ent.join1 (kd := .bool) (fun v => pur (v = false) :: pt yb (drC y) :: pt xb (drC x) :: ctx) ?_ ?_
  rotate_left
  · intro j1 hj1
    refine Ent.wfI ?_
    refine Ent.wfI ?_
    refine Ent.wF ?_ (bne_eq_false_iff_eq.2 e1)
    refine Ent.wfI ?_
    refine Ent.wfI ?_
    refine Ent.wF ?_ (bne_eq_false_iff_eq.2 e2)
    refine Ent.wfR ?_
    refine Ent.wlen ?_
    refine Ent.wfR ?_
    refine Ent.wlen ?_
    refine Ent.wF ?_ (bne_eq_false_iff_eq.2 (by rw [e6]))
    refine Ent.wfR ?_
    refine Ent.wfR ?_
    refine same27_yes (xs := x.os) (ys := y.os) (by omega) (hx.o.rd (.tl (.tl hM))) (hy.o.rd (.tl (.tl hM))) (fun z hz => (hx.d z hz).2.mono (Imp.drop (Imp.drop hR))) (fun z hz => (hy.d z hz).2.mono (Imp.drop (Imp.drop hR'))) e4 ?_
    exact (hj1 _).imp (Imp.pur rfl (Imp.refl _))
  intro v
  refine Ent.pur fun hv => ?_
  subst hv
  refine Ent.wF ?_
  refine Ent.loop1 (k0 := .int .i64) (fun N (i : Int) => pur (0 ≤ i ∧ i ≤ x.ws.length ∧ N = x.ws.length - i.toNat) :: pt yb (drC y) :: pt xb (drC x) :: ctx) x.ws.length (Imp.pur ⟨by omega, by omega, by omega⟩ (Imp.refl _)) fun N j2 hj2 i => ?_
  refine Ent.pur fun ⟨f1, f2, f3⟩ => ?_
  obtain ⟨k, rfl⟩ := Int.eq_ofNat_of_zero_le f1
  refine Ent.wfR ?_
  refine Ent.wlen ?_
  refine Ent.condD (fun hlt => ?_) fun hge => h.drop.drop
  obtain ⟨n, gx⟩ : ∃ n, x.ws[k]? = some n := ⟨_, List.getElem?_eq_getElem (by omega)⟩
  have gy : y.ws[k]? = some n := by rw [← e3]; exact gx
  refine Ent.draw (pt yb (drC y) :: pt xb (drC x) :: ctx) (Imp.refl _) ?_
  refine Ent.wgR (v := .slice x.wa x.ws.length x.wc) ?_
  refine Ent.wjIr (hx.w.rd (.tl (.tl hM))) ?_ rfl rfl rfl (by omega) (by omega) (by rw [Int.toNat_natCast]; simp only [iis, List.getElem?_map, gx, Option.map_some]; rfl)
  refine Ent.wgR (v := .slice y.wa y.ws.length y.wc) ?_
  refine Ent.wjIr (hy.w.rd (.tl (.tl hM))) ?_ rfl rfl rfl (by omega) (by omega) (by rw [Int.toNat_natCast]; simp only [iis, List.getElem?_map, gy, Option.map_some]; rfl)
  refine Ent.wF ?_ (bne_eq_false_iff_eq.2 rfl)
  refine Ent.war ?_
  exact (hj2 (N - 1) (by omega) ((k : Int) + 1)).imp (Imp.pur ⟨by omega, by omega, by omega⟩ (Imp.refl _))
theorem samerows_yes {K : Bool → WP} {xs ys : List Dr} {a a' : Option Addr} {c c' : Nat} {R' : List HProp} (hl : xs.length ≤ 16777216) (hM : Has ctx (Sl.ro M)) (hr : RdM M a (drcs xs)) (hr' : RdM M a' (drcs ys)) (hx : ∀ x ∈ xs, DrM M R x) (hy : ∀ y ∈ ys, DrM M R' y) (hR : Imp ctx R) (hR' : Imp ctx R')
    (heq : xs.map dDr = ys.map dDr) (h : Ent e ctx (K true)) : Ent e ctx (ref31_SameRows (.slice a xs.length c) (.slice a' ys.length c') K) := by
  have hll : xs.length = ys.length := by simpa using congrArg List.length heq
  (refine Ent.fn ref31_SameRows_ok ?_; unfold ref31_SameRows_sh)
  refine Ent.wlen ?_
  refine Ent.wlen ?_
  refine Ent.wF ?_ (bne_eq_false_iff_eq.2 (by rw [hll]))
  refine Ent.loop1 (k0 := .int .i64) (fun N (i : Int) => pur (0 ≤ i ∧ i ≤ xs.length ∧ N = xs.length - i.toNat) :: ctx) xs.length (Imp.pur ⟨by omega, by omega, by omega⟩ (Imp.refl _)) fun N j2 hj2 i => ?_
  refine Ent.pur fun ⟨f1, f2, f3⟩ => ?_
  obtain ⟨k, rfl⟩ := Int.eq_ofNat_of_zero_le f1
  refine Ent.wlen ?_
  refine Ent.condD (fun hlt => ?_) fun hge => h
  obtain ⟨x, gx⟩ : ∃ x, xs[k]? = some x := ⟨_, List.getElem?_eq_getElem (by omega)⟩
  obtain ⟨y, gy⟩ : ∃ y, ys[k]? = some y := ⟨_, List.getElem?_eq_getElem (by omega)⟩
  have hd : dDr x = dDr y := by
    have := congrArg (fun l => l[k]?) heq
    simpa [gx, gy] using this
  refine Ent.draw ctx (Imp.refl _) ?_
  refine Ent.wjAm (f := drC) (xs := xs) hr gx ?_ (hM := hM)
  refine Ent.wjAm (f := drC) (xs := ys) hr' gy ?_ (hM := hM)
  refine same28_yes hM (hx x (List.mem_of_getElem? gx)) (hy y (List.mem_of_getElem? gy)) hR hR' hd ?_
  refine Ent.wF ?_
  refine Ent.war ?_
  exact (hj2 (N - 1) (by omega) ((k : Int) + 1)).imp (Imp.pur ⟨by omega, by omega, by omega⟩ (Imp.refl _))
end
end Go.Proofs.YtoneapgooihajaaGreatDoor.Qa
