/-
  THE DOCUMENT's ROWS AS THE PROGRAM's (layer 31).
-/
import Derived.Test.YtoneapgooihajaaGreatDoorXd
import Derived.Test.YtoneapgooihajaaGreatDoorPz
set_option maxRecDepth 100000
set_option linter.unusedVariables false
set_option linter.unusedSectionVars false
set_option linter.unusedSimpArgs false
set_option maxHeartbeats 0
namespace Go.Proofs.YtoneapgooihajaaGreatDoor.Qa
open Go Sh Sl
open Go.RowKit
attribute [local irreducible] condK ArK NilK OpK FnK StK joinK loopK DrawK andK PuK NxK EnK vS uS bS callS invokeS
structure Dr where
  k : Int
  er : Int
  wa : Option Addr
  wc : Nat
  ws : List Int
  oa : Option Addr
  oc : Nat
  os : List Ou
abbrev drC (x : Dr) : List Value := [.int .i64 x.k, .int .i64 x.er, .slice x.wa x.ws.length x.wc, .slice x.oa x.os.length x.oc]
def drcs (l : List Dr) : List Value := (l.map fun y => drC y).flatten
@[simp] theorem drcs_len (l : List Dr) : (drcs l).length = l.length * 4 := flat_len (fun y => drC y) 4 (fun _ => rfl) l
def iis (l : List Int) : List Value := l.map fun n => .int .i64 n
def oucs (l : List Ou) : List Value := (l.map fun y => ouC y).flatten
@[simp] theorem oucs_len (l : List Ou) : (oucs l).length = l.length * 6 := flat_len (fun y => ouC y) 6 (fun _ => rfl) l
/-- a row of the document's, as the program has it -/
def dDr (x : Dr) : dR := (x.k, x.er, (x.ws.zip x.os).map fun p => (p.1, dOu p.2))
structure DrR (R : List HProp) (x : Dr) : Prop where
  er : I64 x.er
  rw_ : Rd R x.wa (iis x.ws)
  ro_ : Rd R x.oa (oucs x.os)
  w : ∀ n ∈ x.ws, I64 n
  o : ∀ y ∈ x.os, OuR y ∧ Rd R y.a (u8 y.d)
  lw : x.ws.length ≤ 1048576
  lo : x.os.length ≤ 1048576
theorem DrR.mono {R R' : List HProp} {x : Dr} (h : DrR R x) (hi : Imp R' R) : DrR R' x := ⟨h.er, h.rw_.mono hi, h.ro_.mono hi, h.w, fun y hy => ⟨(h.o y hy).1, (h.o y hy).2.mono hi⟩, h.lw, h.lo⟩
/-- a row of the program's: its things lie still, their bytes are an argument's -/
structure RwX (M : Hp) (R : List HProp) (x : Rw) : Prop where
  er : I64 x.er
  r : RdM M x.a (scs x.l)
  l : ∀ y ∈ x.l, I64 y.1 ∧ OuR y.2 ∧ Rd R y.2.a (u8 y.2.d)
  n : x.l.length ≤ 1048576
  c : x.l.length ≤ x.c
theorem RwX.mono {M M' : Hp} {R : List HProp} {x : Rw} (h : RwX M R x) (hl : Hp.le M M') : RwX M' R x := ⟨h.er, h.r.mono hl, h.l, h.n, h.c⟩
theorem RwX.rwr {M : Hp} {R ctx : List HProp} {x : Rw} (h : RwX M R x) (hM : Has ctx (Sl.ro M)) (hi : Imp ctx R) : RwR ctx x :=
  ⟨h.er, h.r.rd hM, fun y hy => ⟨(h.l y hy).1, (h.l y hy).2.1, (h.l y hy).2.2.mono hi⟩, h.n⟩
section
variable {e : Env} {ctx rest R : List HProp} {M : Hp}
theorem conv_spec {K : Value → WP} {xs : List Dr} {a : Option Addr} {c : Nat} (hn : xs.length ≤ 16777216) (hr : Rd rest a (drcs xs)) (hxs : ∀ x ∈ xs, DrR rest x)
    (h : ∀ (ys : List Rw) a2 c2 M', Hp.le M M' → ys.map dRw = xs.map dDr → (∀ y ∈ ys, RwX M' rest y) → Ent e (SlO a2 ys.length c2 3 (rwcs ys) :: Sl.ro M' :: rest) (K (.slice a2 ys.length c2))) :
    Ent e (Sl.ro M :: rest) (law31_rows (.slice a xs.length c) K) := by
  (refine Ent.fn law31_rows_ok ?_; unfold law31_rows_sh)
  refine Ent.loop2 (k0 := .raw) (k1 := .int .i64) (fun N (out : Value) (i : Int) => (exs fun (p : Hp × List Rw × Option Addr × Nat) => sepL [pur (out = .slice p.2.2.1 p.2.1.length p.2.2.2 ∧ i = (p.2.1.length : Int) ∧ p.2.1.length ≤ xs.length ∧ N = xs.length - p.2.1.length ∧ Hp.le M p.1 ∧ p.2.1.map dRw = (xs.take p.2.1.length).map dDr ∧ ∀ y ∈ p.2.1, RwX p.1 rest y),
      SlO p.2.2.1 p.2.1.length p.2.2.2 3 (rwcs p.2.1), Sl.ro p.1]) :: rest) xs.length ?_ fun N j2 hj2 out i => ?_
  · refine Imp.trans (Imp.slN (sz := 3) (Imp.refl _)) ?_
    exact Imp.exs (M, [], none, 0) (Imp.g3 (Imp.pur ⟨rfl, rfl, Nat.zero_le _, rfl, Hp.le_refl _, rfl, fun x hx => by cases hx⟩ (Imp.refl _)))
  refine Ent.exs fun ⟨M1, ys, a1, c1⟩ => Ent.g3 (Ent.pur fun ⟨f1, f2, f3, f4, f5, f6, f7⟩ => ?_)
  dsimp only at f1 f2 f3 f4 f5 f6 f7
  dsimp only
  subst f1 f2
  refine Ent.wlen ?_
  refine Ent.condD (fun hlt => ?_) fun hge => ?_
  · obtain ⟨x, hx⟩ : ∃ x, xs[ys.length]? = some x := ⟨_, List.getElem?_eq_getElem (by omega)⟩
    have hxm := hxs x (List.mem_of_getElem? hx)
    have lw := hxm.lw
    have lo := hxm.lo
    refine Ent.draw rest (by (focus (repeat (first | exact Imp.refl _ | exact Imp.nil _ | apply Imp.drop)))) ?_
    refine Ent.wixHQ hr hx fun b1 o1 p1 => ?_
    refine Ent.wgIz p1 ?_
    refine Ent.wixHQ hr hx fun b2 o2 p2 => ?_
    refine Ent.wgIz p2 ?_
    refine Ent.puR (st_build (out := rwC ⟨x.k, x.er, none, 0, []⟩) rfl rfl rfl) ?_
    refine Ent.alloc' fun xb => ?_
    refine Ent.wand ?_ (hS := by (focus (repeat (first | exact Imp.refl _ | exact Imp.nil _ | apply Imp.drop))))
    refine Ent.wstoA (l' := rwC ⟨x.k, x.er, none, 0, []⟩) ?_ (vs := rwC ⟨x.k, x.er, none, 0, []⟩) (hl := rfl) (hu := by (repeat (first | exact Upd.hd | apply Upd.tl)))
    refine Ent.loop1 (k0 := .int .i64) (fun N2 (k : Int) => (exs fun (p : List Se × Option Addr × Nat) => sepL [pur (k = (p.1.length : Int) ∧ p.1.length ≤ x.ws.length ∧ p.1.length ≤ x.os.length ∧ N2 = x.ws.length - p.1.length ∧ p.1.map dSe = ((x.ws.zip x.os).take p.1.length).map (fun q => (q.1, dOu q.2)) ∧
        ∀ z ∈ p.1, I64 z.1 ∧ OuR z.2 ∧ Rd rest z.2.a (u8 z.2.d)), pt xb (rwC ⟨x.k, x.er, p.2.1, p.2.2, p.1⟩), SlO p.2.1 p.1.length p.2.2 7 (scs p.1)]) :: SlO a1 ys.length c1 3 (rwcs ys) :: Sl.ro M1 :: rest) x.ws.length ?_ fun N2 j4 hj4 k => ?_
    · refine Imp.trans (Imp.slN (sz := 7) (Imp.refl _)) ?_
      refine Imp.exs ([], none, 0) (Imp.g3 (Imp.pur ⟨rfl, Nat.zero_le _, Nat.zero_le _, rfl, rfl, fun z hz => by cases hz⟩ ?_))
      show Imp (SlO none 0 0 7 [] :: pt xb (rwC ⟨x.k, x.er, none, 0, []⟩) :: _) (pt xb (rwC ⟨x.k, x.er, none, 0, []⟩) :: SlO none 0 0 7 [] :: _)
      (focus ((repeat ((with_reducible apply Imp.pick); (repeat (first | exact Pick.hd | apply Pick.tl)))); (repeat (first | exact Imp.refl _ | exact Imp.nil _ | apply Imp.drop)); done))
    refine Ent.exs fun ⟨zs, za, zc⟩ => Ent.g3 (Ent.pur fun ⟨g1, g2, g3, g4, g5, g6⟩ => ?_)
    dsimp only at g1 g2 g3 g4 g5 g6
    dsimp only
    subst g1
    refine Ent.join1 (kd := .bool) (fun v => pur (v = decide (zs.length < x.ws.length ∧ zs.length < x.os.length)) :: pt xb (rwC ⟨x.k, x.er, za, zc, zs⟩) :: SlO za zs.length zc 7 (scs zs) :: SlO a1 ys.length c1 3 (rwcs ys) :: Sl.ro M1 :: rest) ?_ ?_
    rotate_left
    · intro j5 hj5
      refine Ent.wixH hr hx fun b3 o3 p3 => ?_
      refine Ent.wfRz p3 ?_
      refine Ent.wlen ?_
      refine Ent.condD (fun hk1 => ?_) fun hk1 => ?_
      · refine Ent.wixH hr hx fun b4 o4 p4 => ?_
        refine Ent.wfRz p4 ?_
        refine Ent.wlen ?_
        refine (hj5 _).imp (Imp.pur ?_ (Imp.refl _))
        exact decide_eq_decide.2 (by omega)
      · refine (hj5 _).imp (Imp.pur ?_ (Imp.refl _))
        rw [decide_eq_false (by omega)]
    intro v
    refine Ent.pur fun hv => ?_
    subst hv
    refine Ent.condD (fun hk2 => ?_) fun hk2 => ?_
    · obtain ⟨wn, hwn⟩ : ∃ wn, x.ws[zs.length]? = some wn := ⟨_, List.getElem?_eq_getElem (by omega)⟩
      obtain ⟨on, hon⟩ : ∃ on, x.os[zs.length]? = some on := ⟨_, List.getElem?_eq_getElem (by omega)⟩
      have hzip : (x.ws.zip x.os)[zs.length]? = some (wn, on) := by rw [List.getElem?_zip_eq_some]; exact ⟨hwn, hon⟩
      refine Ent.draw (pt xb (rwC ⟨x.k, x.er, za, zc, zs⟩) :: rest) (Imp.cons (by (focus (repeat (first | exact Imp.refl _ | exact Imp.nil _ | apply Imp.drop))))) ?_
      refine Ent.wgR (v := .slice za zs.length zc) ?_
      refine Ent.wixHQ hr hx fun b3 o3 p3 => ?_
      refine Ent.wgRz p3 ?_
      refine Ent.wjIr (hxm.rw_.mono (by (focus (repeat (first | exact Imp.refl _ | exact Imp.nil _ | apply Imp.drop))))) ?_ rfl rfl rfl (by omega) (by omega) (by rw [Int.toNat_natCast]; simp only [iis, List.getElem?_map, hwn, Option.map_some]; rfl)
      refine Ent.wixHQ hr hx fun b4 o4 p4 => ?_
      refine Ent.wgRz p4 ?_
      refine Ent.wjAz (f := ouC) (xs := x.os) hxm.ro_ hon ?_
      refine Ent.puR (st_build (out := sC (wn, on)) rfl rfl rfl) ?_
      refine Ent.slice (out := sC (wn, on)) rfl rfl rfl rfl (by decide) (by decide) (by rfl) fun b5 => ?_
      refine Ent.wand ?_ (hS := Imp.drop (Imp.cons (by (focus (repeat (first | exact Imp.refl _ | exact Imp.nil _ | apply Imp.drop))))))
      refine Ent.appN (sz := 7) (by_ := 80) (m := 1) (Rd.pt .hd) (fun a3 c3 => ?_) (hp := .tl (.tl .hd)) (hl := rfl) (h1 := fun v hv => by
        simp only [List.mem_cons, List.not_mem_nil, or_false] at hv
        rcases hv with rfl | rfl | rfl | rfl | rfl | rfl | rfl <;> rfl)
      refine Ent.wand ?_ (hS := Imp.drop (Imp.drop (Imp.cons (by (focus (repeat (first | exact Imp.refl _ | exact Imp.nil _ | apply Imp.drop)))))))
      refine Ent.wqR ?_
      refine Ent.wsto (l' := rwC ⟨x.k, x.er, a3, c3, zs ++ [(wn, on)]⟩) ?_ (hl := by simp) (hu := .tl (.tl .hd))
      refine Ent.war ?_
      refine (hj4 (N2 - 1) (by omega) _).imp ?_
      have e1 : (zs ++ [(wn, on)]).length = zs.length + 1 := by simp
      have e2 : scs (zs ++ [(wn, on)]) = scs zs ++ sC (wn, on) := by rw [scs_app]; simp [scs]
      refine Imp.exs (zs ++ [(wn, on)], a3, c3) (Imp.g3 (Imp.pur ⟨by rw [e1]; omega, by rw [e1]; omega, by rw [e1]; omega, by rw [e1]; omega, ?_, fun z hz => ?_⟩ ?_))
      · dsimp only
        rw [e1, take_snoc hzip, List.map_append, List.map_append, g5]; rfl
      · rcases List.mem_append.1 hz with hz | hz
        · exact g6 z hz
        · rw [List.mem_singleton.1 hz]
          exact ⟨hxm.w wn (List.mem_of_getElem? hwn), (hxm.o on (List.mem_of_getElem? hon)).1, (hxm.o on (List.mem_of_getElem? hon)).2⟩
      · dsimp only
        rw [e1, e2]
        (focus ((repeat ((with_reducible apply Imp.pick); (repeat (first | exact Pick.hd | apply Pick.tl)))); (repeat (first | exact Imp.refl _ | exact Imp.nil _ | apply Imp.drop)); done))
    · have hzl : zs.length = (x.ws.zip x.os).length := by rw [List.length_zip]; omega
      rw [hzl, List.take_length] at g5
      obtain ⟨X, hX⟩ : ∃ X : Rw, X = ⟨x.k, x.er, za, zc, zs⟩ := ⟨_, rfl⟩
      rw [← hX]
      refine Ent.wlA (cs := rwC X) ?_
      refine Ent.app1 (sz := 3) (cs := rwC X) (fun a2 c2 => ?_) (hp := .tl (.tl .hd))
      refine Ent.war ?_
      refine Ent.imp (ctx' := SlO za zs.length zc 7 (scs zs) :: Sl.ro M1 :: SlO a2 (ys.length + 1) c2 3 (rwcs ys ++ rwC X) :: rest) (by (focus ((repeat ((with_reducible apply Imp.pick); (repeat (first | exact Pick.hd | apply Pick.tl)))); (repeat (first | exact Imp.refl _ | exact Imp.nil _ | apply Imp.drop)); done))) ?_
      refine Ent.keepS fun M3 hM3 hrm _ hcz _ => ?_
      refine (hj2 (N - 1) (by omega) _ _).imp ?_
      have e1 : (ys ++ [X]).length = ys.length + 1 := by simp
      have e2 : rwcs (ys ++ [X]) = rwcs ys ++ rwC X := by rw [rwcs_app, rwcs_one]
      have hdX : dRw X = dDr x := by
        rw [hX]
        unfold dRw dDr
        dsimp only
        rw [g5]
      refine Imp.exs (M3, ys ++ [X], a2, c2) (Imp.g3 (Imp.pur ⟨(by simp), (by simp), (by simp; omega), (by simp; omega), Hp.le_trans f5 hM3, ?_, fun z hz => ?_⟩ ?_))
      · dsimp only
        rw [e1, take_snoc hx, List.map_append, List.map_append, f6, List.map_cons, List.map_cons, hdX]; rfl
      · rcases List.mem_append.1 hz with hz | hz
        · exact (f7 z hz).mono hM3
        · rw [List.mem_singleton.1 hz, hX]
          exact ⟨hxm.er, hrm, g6, by dsimp only; omega, hcz⟩
      · dsimp only
        rw [e1, e2]
        (focus ((repeat ((with_reducible apply Imp.pick); (repeat (first | exact Pick.hd | apply Pick.tl)))); (repeat (first | exact Imp.refl _ | exact Imp.nil _ | apply Imp.drop)); done))
  · have hye : ys.length = xs.length := by omega
    rw [hye, List.take_length] at f6
    exact h ys a1 c1 M1 f5 f6 f7
end
end Go.Proofs.YtoneapgooihajaaGreatDoor.Qa
