/- ShellOuts: WHAT WENT OUT STANDS BEHIND ITS TICK, LINE BY LINE (any rows, any out): within the bulk. -/
import Derived.Test.YtoneapgooihajaaDoorXf
import Derived.Test.YtoneapgooihajaaDoorGl
import Derived.Test.YtoneapgooihajaaDoorCards
import Derived.Test.YtoneapgooihajaaDoorTie
import Derived.Deep.DeepHandedRow
import Derived.Lib.LaidTab
set_option linter.unusedVariables false
set_option linter.unusedSimpArgs false
set_option maxRecDepth 100000
set_option maxHeartbeats 0
namespace Go.Proofs.YtoneapgooihajaaDoor.shellOuts
open Go Sh Sl Qa
open Go.ChangeShapes Go.WideShapes Go.ChangeAt Go.RowKit
theorem rgo_no {ls : List Bs} {ds st : List dR} {k : Nat} {x : Bs} (h : rgo [] ls = some ds) (h1 : ls[k]? = some x) (h2 : rgo [] (ls.take k) = some st) : rstep st x ≠ none := fun hh => by
  have hlt := (List.getElem?_eq_some_iff.1 h1).1
  have e1 : ls = ls.take k ++ x :: ls.drop (k + 1) := by
    have h3 := (List.getElem?_eq_some_iff.1 h1).2
    rw [← h3, List.getElem_cons_drop hlt, List.take_append_drop]
  rw [e1, rgo_app, h2] at h
  have h4 : (rstep st x).bind (fun st' => rgo st' (ls.drop (k + 1))) = some ds := h
  rw [hh] at h4
  cases h4
theorem rwText_ok {ds : List dR} (h : (rwText ds).2 = 0) : (∀ d ∈ ds, (rwT d).2 = true) ∧ (rwText ds).1 = rwTx ds ∧ (rwTx ds).length ≤ 131072 := by
  unfold rwText at h ⊢
  split at h
  · rename_i ha
    by_cases hl : (rwTx ds).length > 131072
    · rw [if_pos hl] at h
      exact absurd h (by decide)
    · rw [if_pos ha, if_neg hl]
      exact ⟨fun d hd => List.all_eq_true.1 ha d hd, rfl, by omega⟩
  · exact absurd h (by decide)
theorem rwText_len {ds : List dR} : (rwText ds).1.length ≤ 131072 := by
  unfold rwText
  split
  · split
    · simp
    · dsimp only; omega
  · simp
theorem hd8 : hdL 8 0 = [116, 105, 99, 107, 32, 111, 107, 10] := by decide +kernel
theorem lns_one {x : Bs} (h : Ended x) : lns x = [x] := by
  have := lns_flat [x] [] (fun y hy => by rw [List.mem_singleton.1 hy]; exact h)
  simpa [lns, lnsA] using this
section
attribute [local irreducible] condK ArK NilK OpK FnK StK joinK loopK DrawK andK PuK NxK EnK vS uS bS callS invokeS
variable {e : Env} {ctx rest : List HProp} {M : Hp}
theorem parserows_any {K : Value → Int → Int → WP} {s : Bs} (hs : s.length ≤ 1048576) (hG : GL e rest) (h : ∀ v n er M', Hp.le M M' → Ent e (Sl.ro M' :: rest) (K v n er)) : Ent e (Sl.ro M :: rest) (shell_ParseRows (ba s) K) :=
  parserows_spec hs hG (fun _ => h _ _ _ M (Hp.le_refl _)) (fun k x st M' _ _ _ _ hM => h _ _ _ M' hM) fun xs a c M' _ _ hM _ => (h _ _ _ M' hM).drop
theorem first_spec {K : Value → WP} {y : Rw} {a : Option Addr} {c : Nat} (hr : RdM M a (rwcs [y])) (hy : RdM M y.a (scs y.l)) (hc : y.l.length ≤ y.c) (hM : Has ctx (Sl.ro M))
    (h : ∀ a' c', RdM M a' (scs (y.l.take 1)) → Ent e ctx (K (.slice a' (y.l.take 1).length c'))) : Ent e ctx (law31_first (.slice a 1 c) K) := by
  (refine Ent.fn law31_first_ok ?_; unfold law31_first_sh)
  refine Ent.loop1 (k0 := .int .i64) (fun N (i : Int) => pur ((i = 0 ∧ N = 1) ∨ (i = 1 ∧ N = 0 ∧ y.l = [])) :: ctx) 1 (Imp.pur (.inl ⟨rfl, rfl⟩) (Imp.refl _)) fun N j2 hj2 i => ?_
  refine Ent.pur fun hi => ?_
  refine Ent.wlen ?_
  rcases hi with ⟨rfl, rfl⟩ | ⟨rfl, rfl, hnil⟩
  · refine Ent.wT ?_
    refine Ent.wix (i := 0) (xs := [y]) (f := fun y => rwC y) hr rfl fun b o hp => ?_
    refine Ent.wfRp ?_ (hM := hM)
    refine Ent.wlen ?_
    refine Ent.condD (fun hl => ?_) fun hl => ?_
    · refine Ent.wix (i := 0) (xs := [y]) (f := fun y => rwC y) hr rfl fun b o hp => ?_
      refine Ent.wfRp ?_ (hM := hM)
      refine Ent.opR (st_slH (k := .i64) rfl rfl (by omega) (by omega)).still ?_
      have h1 : (y.l.take 1).length = 1 := by rw [List.length_take]; omega
      have e1 : scs (y.l.take 1) = (scs y.l).take 7 := by
        cases hc' : y.l with
        | nil => rw [hc'] at hl; simp at hl
        | cons z r => simp [scs]
      have h2 := h (cut y.a 0 y.c 7) y.c (by
        rw [e1]
        have := (hy.cut (n := 0) (c := y.c) (sz := 7) (by rw [scs_len]; omega)).sub 7
        simpa using this)
      rw [h1] at h2
      exact h2
    · have hnil : y.l = [] := List.length_eq_zero_iff.1 (by omega)
      refine Ent.war ?_
      exact (hj2 0 (by omega) 1).imp (Imp.pur (.inr ⟨rfl, rfl, hnil⟩) (Imp.refl _))
  · refine Ent.wF ?_
    rw [hnil] at h
    exact h none 0 RdM.nil
theorem spec {K : Bool → WP} {xs : List Dr} {x : Dr} {a : Option Addr} {c : Nat} (hn : xs.length ≤ 1048576) (hr : Rd ctx a (drcs xs)) (hxs : ∀ y ∈ xs, DrR ctx y) (hx : DrR ctx x) (hsum : (xs.map fun x => x.os.length + 1).sum ≤ 1048576) (hG : GL e ctx) (h : Ent e ctx (K true)) :
    Ent e ctx (law31_ShellOuts (.slice a xs.length c) (.agg (drC x).toArray) K) := by
  have hxo := hx.lo
  (refine Ent.fn law31_ShellOuts_ok ?_; unfold law31_ShellOuts_sh)
  have wk : ∀ (C : List HProp) (f : Bool → WP), Imp C ctx → Ent e C (f true) → Ent e C (law31_wakes fun t => f t) := fun C f hC hf => wakes_spec (hG.mono hC) hf
  refine Ent.box' fun ob => ?_
  refine Ent.imp (ctx' := Sl.ro (fun _ => none) :: pt ob (drC x) :: ctx) (fun hp k => ⟨fun _ => none, hp, fun _ => .inl rfl, (fun _ _ hh => by cases hh), Hp.le_refl _, (fun _ _ hh => by cases hh), k⟩) ?_
  obtain ⟨M0, hM0⟩ : ∃ M0 : Hp, M0 = fun _ => none := ⟨_, rfl⟩
  rw [← hM0]
  refine conv_spec (xs := xs) (by omega) (hr.mono (by (focus (repeat (first | exact Imp.refl _ | exact Imp.nil _ | apply Imp.drop))))) (fun y hy => (hxs y hy).mono (by (focus (repeat (first | exact Imp.refl _ | exact Imp.nil _ | apply Imp.drop))))) fun ys a2 c2 M1 hM1 hys hyx => ?_
  have hyl : ys.length = xs.length := by simpa using congrArg List.length hys
  refine Ent.keepS fun M2 hM2 hr2 _ _ _ => ?_
  have hyx2 : ∀ y ∈ ys, RwX M2 (pt ob (drC x) :: ctx) y := fun y hy => (hyx y hy).mono hM2
  have hbig : ∀ k, (rwTx ((ys.take k).map dRw)).length ≤ 140737488355328 := rows_big (fun y hy => ⟨(hyx y hy).er, fun z hz => ⟨((hyx y hy).l z hz).1, ((hyx y hy).l z hz).2.1⟩⟩) (by
    rw [len_dRw, hys]
    have := len_dDr (xs := xs)
    omega)
  refine rows_spec (xs := ys) (by omega) hbig (hr2.rd .hd) (fun y hy => (hyx2 y hy).rwr .hd (by (focus (repeat (first | exact Imp.refl _ | exact Imp.nil _ | apply Imp.drop))))) (hG.mono (by (focus (repeat (first | exact Imp.refl _ | exact Imp.nil _ | apply Imp.drop))))) ?_
  obtain ⟨ds, hds⟩ : ∃ ds, ds = ys.map dRw := ⟨_, rfl⟩
  have hdl : ds.length = ys.length := by rw [hds]; simp
  have hdi : ∀ d ∈ ds, I64 d.2.1 ∧ ∀ z ∈ d.2.2, dI z := fun d hd => by
    rw [hds] at hd
    obtain ⟨y, hy, rfl⟩ := List.mem_map.1 hd
    refine ⟨(hyx y hy).er, fun z hz => ?_⟩
    obtain ⟨z', hz', rfl⟩ := List.mem_map.1 hz
    obtain ⟨q1, q2, _⟩ := (hyx y hy).l z' hz'
    exact ⟨q1, q2.s, q2.c, q2.p⟩
  rw [← hds]
  refine Ent.wlA (cs := drC x) ?_
  refine Ent.slice (out := drcs [x]) (by_ := 64) rfl rfl rfl rfl (by decide) (by decide) (by rfl) fun b3 => ?_
  refine Ent.imp (ctx' := Sl.ro M2 :: pt b3 (drcs [x]) :: pt ob (drC x) :: ctx) (by (focus ((repeat ((with_reducible apply Imp.pick); (repeat (first | exact Pick.hd | apply Pick.tl)))); (repeat (first | exact Imp.refl _ | exact Imp.nil _ | apply Imp.drop)); done))) ?_
  refine conv_spec (xs := [x]) (by simp) (Rd.pt .hd) (fun y hy => by rw [List.mem_singleton.1 hy]; exact hx.mono (by (focus (repeat (first | exact Imp.refl _ | exact Imp.nil _ | apply Imp.drop))))) fun zs a4 c4 M4 hM4 hzs hzx => ?_
  obtain ⟨y, rfl⟩ : ∃ y, zs = [y] := by
    have : zs.length = 1 := by simpa using congrArg List.length hzs
    match zs, this with
    | [y], _ => exact ⟨y, rfl⟩
  have hy := hzx y (by simp)
  have hdy : dRw y = dDr x := by simpa using hzs
  refine Ent.keepS fun M5 hM5 hr5 _ _ _ => ?_
  have hy5 := hy.mono hM5
  refine first_spec hr5 hy5.r hy5.c .hd fun a6 c6 hr6 => ?_
  obtain ⟨Lz, hLz⟩ : ∃ Lz, Lz = y.l.take 1 := ⟨_, rfl⟩
  have hLl : Lz.length ≤ 1 := by rw [hLz, List.length_take]; omega
  have hLm : ∀ z ∈ Lz, z ∈ y.l := fun z hz => by rw [hLz] at hz; exact List.mem_of_mem_take hz
  rw [← hLz] at hr6 ⊢
  refine Ent.opR (st_build (out := rwC ⟨8, 0, a6, c6, Lz⟩) rfl rfl rfl).still ?_
  refine Ent.slice (out := rwcs [⟨8, 0, a6, c6, Lz⟩]) (by_ := 40) rfl rfl rfl rfl (by decide) (by decide) (by rfl) fun b6 => ?_
  obtain ⟨X, hX⟩ : ∃ X : Rw, X = ⟨8, 0, a6, c6, Lz⟩ := ⟨_, rfl⟩
  rw [← hX]
  have hXl : X.l = Lz := by rw [hX]
  have hXi : ∀ z ∈ X.l, I64 z.1 ∧ OuR z.2 := fun z hz => ⟨(hy.l z (hLm z (hXl ▸ hz))).1, (hy.l z (hLm z (hXl ▸ hz))).2.1⟩
  have h00 : I64 0 := ⟨by omega, by omega⟩
  refine rows_spec (xs := [X]) (a := some ⟨b6, 0, none⟩) (c := 1) (by simp) (rows_big (ys := [X]) (fun w hw => by rw [List.mem_singleton.1 hw]; exact ⟨by rw [hX]; exact h00, hXi⟩) (by simp [hXl]; omega)) (Rd.pt .hd) (fun w hw => by
    rw [List.mem_singleton.1 hw]
    refine ⟨by rw [hX]; exact h00, ?_, fun z hz => ?_, by rw [hXl]; omega⟩
    · rw [hX]; exact hr6.rd (.tl .hd)
    · have := hy.l z (hLm z (hXl ▸ hz))
      exact ⟨this.1, this.2.1, this.2.2.mono (by (focus (repeat (first | exact Imp.refl _ | exact Imp.nil _ | apply Imp.drop))))⟩) (hG.mono (by (focus (repeat (first | exact Imp.refl _ | exact Imp.nil _ | apply Imp.drop))))) ?_
  obtain ⟨d0, hd0⟩ : ∃ d0 : dR, d0 = (8, 0, Lz.map dSe) := ⟨_, rfl⟩
  have hdX : [X].map dRw = [d0] := by rw [hX, hd0]; rfl
  rw [hdX]
  have l1 := rwText_len (ds := ds)
  have l2 := rwText_len (ds := [d0])
  have z1 : ((ba (rwText ds).1).size : Int) = ((rwText ds).1.length : Int) := by simp [ByteArray.size]
  have z2 : ((ba (rwText [d0]).1).size : Int) = ((rwText [d0]).1.length : Int) := by simp [ByteArray.size]
  refine Ent.imp (ctx' := Sl.ro M5 :: ctx) (by (focus ((repeat ((with_reducible apply Imp.pick); (repeat (first | exact Pick.hd | apply Pick.tl)))); (repeat (first | exact Imp.refl _ | exact Imp.nil _ | apply Imp.drop)); done))) ?_
  have hr25 := hr2.mono (Hp.le_trans hM4 hM5)
  refine Ent.join1 (kd := .bool) (fun v => pur (v = decide ((rwText ds).2 ≠ 0 ∨ (rwText [d0]).2 ≠ 0 ∨ 131072 < (rwText ds).1.length + (rwText [d0]).1.length)) :: Sl.ro M5 :: ctx) ?_ ?_
  rotate_left
  · intro j1 hj1
    refine Ent.condN (fun h1 => (hj1 _).imp (Imp.pur ?_ (Imp.refl _))) fun h1 => ?_
    · rw [decide_eq_true (.inl h1)]
    refine Ent.condN (fun h2 => (hj1 _).imp (Imp.pur ?_ (Imp.refl _))) fun h2 => ?_
    · rw [decide_eq_true (.inr (.inl h2))]
    refine Ent.wlenS ?_
    refine Ent.wlenS ?_
    rw [z1, z2]
    refine Ent.war ?_
    refine (hj1 _).imp (Imp.pur ?_ (Imp.refl _))
    refine decide_eq_decide.2 ⟨fun hh => .inr (.inr (by omega)), fun hh => ?_⟩
    rcases hh with hh | hh | hh
    · exact absurd h1 hh
    · exact absurd h2 hh
    · omega
  intro v
  refine Ent.pur fun hv => ?_
  subst hv
  refine Ent.condD (fun hbad => ?_) fun hgood => ?_
  · exact wk _ _ (by (focus (repeat (first | exact Imp.refl _ | exact Imp.nil _ | apply Imp.drop)))) (h.imp (by (focus (repeat (first | exact Imp.refl _ | exact Imp.nil _ | apply Imp.drop)))))
  have he1 : (rwText ds).2 = 0 := Classical.byContradiction fun hh => hgood (.inl hh)
  have he2 : (rwText [d0]).2 = 0 := Classical.byContradiction fun hh => hgood (.inr (.inl hh))
  have hlen : (rwText ds).1.length + (rwText [d0]).1.length ≤ 131072 := Nat.le_of_not_lt fun hh => hgood (.inr (.inr hh))
  obtain ⟨t1, t2, _⟩ := rwText_ok he1
  obtain ⟨s1, s2, _⟩ := rwText_ok he2
  have hgs : ∀ d ∈ ds, (rwT d).2 = true ∧ I64 d.2.1 ∧ ∀ z ∈ d.2.2, dI z := fun d hd => ⟨t1 d hd, (hdi d hd).1, (hdi d hd).2⟩
  have s3 := s1 d0 (by simp)
  obtain ⟨q1, _, _, q4, _⟩ := rwT_form s3
  obtain ⟨ln, hln⟩ : ∃ ln, ln = ((Lz.map dSe).map fun y => (sL y).1).flatten := ⟨_, rfl⟩
  have ht2 : (rwText [d0]).1 = [116, 105, 99, 107, 32, 111, 107, 10] ++ ln := by
    have e1 : rwTx [d0] = (rwT d0).1 := by simp [rwTx]
    rw [s2, e1, q1, hd0, hln]
    unfold rLines
    rw [List.flatten_cons, hd8]
  rw [t2] at hlen z1 ⊢
  rw [ht2] at hlen z2 ⊢
  rw [List.length_append] at hlen
  have hlen8 : ([116, 105, 99, 107, 32, 111, 107, 10] : Bs).length = 8 := rfl
  refine Ent.wlenS ?_
  rw [z2]
  refine Ent.wF ?_ (decide_eq_false (by rw [List.length_append]; omega))
  refine Ent.opS (st_slSL (l := [116, 105, 99, 107, 32, 111, 107, 10] ++ ln) rfl (by omega) (by rw [List.length_append]; omega)).still ?_
  rw [show (([116, 105, 99, 107, 32, 111, 107, 10] : Bs) ++ ln).drop (8 : Int).toNat = ln from rfl]
  refine addB (by omega) ?_
  have hcat : (rwTx ds ++ ln).length = (rwTx ds).length + ln.length := List.length_append
  have hrun : rgo [] (lns (rwTx ds ++ ln)) = rgo ds (lns ln) := rgo_text hgs
  have hxl : ((xs.length : Nat) : Int) = (ys.length : Int) := by rw [hyl]
  have eq0 : ∀ {C : List HProp} {A B : WP}, Ent e C (condK (decide (ln = [])) A B) → Ent e C (oB (bS .eql 9 (.tmp 63) (.const (.string (⟨#[]⟩ : ByteArray))) (.string (ba ln)) (.string (⟨#[]⟩ : ByteArray))) fun t64 => condK t64 A B) := fun {C A B} hC => by
    refine Ent.opB (st_eqS).still ?_
    rw [show decide (ba ln = (⟨#[]⟩ : ByteArray)) = decide (ln = []) from ba_eqb ln []]
    exact hC
  match hcz : Lz, hLl with
  | _ :: _ :: _, hLl => simp at hLl
  | [], _ =>
    have hl0 : ln = [] := by rw [hln]; rfl
    rw [hl0] at hrun hcat
    have hrun' : rgo [] (lns (rwTx ds ++ [])) = some ds := hrun
    rw [hl0]
    refine parserows_spec (s := rwTx ds ++ []) (by omega) (hG.mono (by (focus (repeat (first | exact Imp.refl _ | exact Imp.nil _ | apply Imp.drop))))) (fun hb => absurd hb (by omega)) (fun k x' st M' _ hx' hst hno _ => absurd hno (rgo_no hrun' hx' hst)) fun rs a7 c7 M7 _ hrs hM7 hrsm => ?_
    rw [hrun'] at hrs
    have hrl : rs.length = ys.length := by
      have := congrArg List.length (Option.some.inj hrs)
      rw [List.length_map, hdl] at this
      exact this.symm
    refine Ent.wlen ?_
    refine Ent.war ?_
    refine Ent.opB (st_eqS).still ?_
    refine Ent.wT ?_
    refine Ent.join1 (kd := .bool) (fun v => pur (v = true) :: ctx) ?_ ?_
    rotate_left
    · intro j2 hj2
      refine Ent.wT ?_
      refine Ent.wlen ?_
      refine Ent.wlen ?_
      refine Ent.wT ?_ (beq_iff_eq.2 (by rw [hrl]))
      exact wk _ _ (by (focus (repeat (first | exact Imp.refl _ | exact Imp.nil _ | apply Imp.drop)))) ((hj2 _).imp (Imp.pur rfl (by (focus (repeat (first | exact Imp.refl _ | exact Imp.nil _ | apply Imp.drop))))))
    intro v
    refine Ent.pur fun hv => ?_
    subst hv
    exact h
  | [z], _ =>
    have hl1 : ln = (sL (dSe z)).1 := by rw [hln]; simp
    have hzv : (sL (dSe z)).2 = true := by
      rw [hd0] at q4
      exact q4 (dSe z) (by simp)
    have hzi : dI (dSe z) := by
      have := hy.l z (hLm z (by simp))
      exact ⟨this.1, this.2.1.s, this.2.1.c, this.2.1.p⟩
    have hone : lns ln = [ln] := by rw [hl1]; exact lns_one (sL_ended _).1
    have hne : ln ≠ [] := by
      obtain ⟨p, hp, _⟩ := (sL_ended (dSe z)).1
      rw [hl1, hp]; simp
    obtain ⟨g1, g2⟩ := sent_of hzi (Prod.ext rfl hzv)
    have hrun' : rgo [] (lns (rwTx ds ++ ln)) = rstep ds ln := by
      rw [hrun, hone]
      show (rstep ds ln).bind _ = _
      cases rstep ds ln <;> rfl
    have hhead : ln.head? = some 62 := by rw [hl1]; exact (sL_ended _).2
    have hsok : sentOk ln = true ∧ (sentR ln).1 = dSe z := by rw [hl1]; exact ⟨g1, g2⟩
    rcases List.eq_nil_or_concat ys with hys0 | ⟨pre, w, hysw⟩
    · have hno : rstep ds ln = none := by
        rw [hds, hys0]
        unfold rstep
        rw [if_pos hhead]; rfl
      rw [hno] at hrun'
      refine parserows_spec (s := rwTx ds ++ ln) (by omega) (hG.mono (by (focus (repeat (first | exact Imp.refl _ | exact Imp.nil _ | apply Imp.drop))))) (fun hb => absurd hb (by omega)) (fun k x' st M' _ hx' hst hno2 _ => ?_) fun rs a7 c7 M7 _ hrs hM7 hrsm => absurd (hrun'.symm.trans hrs) (by simp)
      refine Ent.wlen ?_
      refine Ent.war ?_
      refine eq0 ?_
      refine Ent.wF ?_ (decide_eq_false hne)
      refine Ent.join1 (kd := .bool) (fun v => pur (v = true) :: ctx) ?_ ?_
      rotate_left
      · intro j3 hj3
        refine Ent.wT ?_ (decide_eq_true (by rw [hys0]; simp))
        exact (hj3 _).imp (Imp.pur rfl (by (focus (repeat (first | exact Imp.refl _ | exact Imp.nil _ | apply Imp.drop)))))
      intro v
      refine Ent.pur fun hv => ?_
      subst hv
      refine Ent.wT ?_
      refine Ent.join1 (kd := .bool) (fun v => pur (v = true) :: ctx) ?_ ?_
      rotate_left
      · intro j4 hj4
        refine Ent.wT ?_
        refine Ent.wlen ?_
        refine Ent.wT ?_
        exact wk _ _ (by (focus (repeat (first | exact Imp.refl _ | exact Imp.nil _ | apply Imp.drop)))) ((hj4 _).imp (Imp.pur rfl (by (focus (repeat (first | exact Imp.refl _ | exact Imp.nil _ | apply Imp.drop))))))
      intro v
      refine Ent.pur fun hv => ?_
      subst hv
      exact h
    · rw [List.concat_eq_append] at hysw
      subst hysw
      have hl3 : (((pre ++ [w]).length : Nat) : Int) - 1 = (pre.length : Int) := by simp
      have hgw : (pre ++ [w])[pre.length]? = some w := by simp
      have hstep : rstep ds ln = if w.k = 8 ∧ w.er = 0 then some (pre.map dRw ++ [(w.k, w.er, w.l.map dSe ++ [dSe z])]) else none := by
        rw [hds]
        unfold rstep
        rw [if_pos hhead, List.map_append, List.map_cons, List.map_nil, List.getLast?_append, List.getLast?_singleton, List.dropLast_concat]
        show (if sentOk ln = true ∧ w.k = 8 ∧ w.er = 0 then _ else _) = _
        rw [hsok.1, hsok.2]
        simp only [true_and]
        rfl
      rw [hstep] at hrun'
      have ask : ∀ (M' : Hp) (C : List HProp) (f : Bool → WP), Hp.le M5 M' → Has C (Sl.ro M') → Ent e C (f (!decide (w.k = 8 ∧ w.er = 0))) → Ent e C (joinK [(94, .bool)] (fun (j3 : Bool → WP) =>
          condK (decide ((pre.length : Int) < 0)) (j3 true) (oR (vS (Instr.indexAt 42 (.slice a2 (pre ++ [w]).length c2) (.int .i64 (pre.length : Int)))) fun t82 => fI 49 t82 0 3 .i64 fun t84 =>
            condK (t84 != 8) (j3 true) (oR (vS (Instr.indexAt 42 (.slice a2 (pre ++ [w]).length c2) (.int .i64 (pre.length : Int)))) fun t90 => fI 49 t90 1 30 .i64 fun t92 => j3 (t92 != 0))))
          fun t94 => f t94) := fun M' C f hM' hh hf => by
        refine Ent.join1 (kd := .bool) (fun v => pur (v = !decide (w.k = 8 ∧ w.er = 0)) :: C) ?_ ?_
        rotate_left
        · intro j3 hj3
          refine Ent.wF ?_ (decide_eq_false (by omega))
          refine Ent.wix (i := pre.length) (xs := pre ++ [w]) (f := fun y => rwC y) (hr25.mono hM') hgw (fun b o hp => ?_) (h1 := by simp)
          refine Ent.wfIp ?_ (hM := hh)
          refine Ent.condN (fun hk => (hj3 _).imp (Imp.pur ?_ (Imp.refl _))) fun hk => ?_
          · rw [decide_eq_false fun hh => hk hh.1]; rfl
          refine Ent.wix (i := pre.length) (xs := pre ++ [w]) (f := fun y => rwC y) (hr25.mono hM') hgw (fun b o hp => ?_) (h1 := by simp)
          refine Ent.wfIp ?_ (hM := hh)
          refine (hj3 _).imp (Imp.pur ?_ (Imp.refl _))
          by_cases he : w.er = 0
          · rw [decide_eq_true ⟨hk, he⟩, he]; rfl
          · rw [decide_eq_false fun hh => he hh.2]; exact bne_iff_ne.2 he
        intro v
        refine Ent.pur fun hv => ?_
        subst hv
        exact hf
      by_cases hgd : w.k = 8 ∧ w.er = 0
      · rw [if_pos hgd] at hrun'
        refine parserows_spec (s := rwTx ds ++ ln) (by omega) (hG.mono (by (focus (repeat (first | exact Imp.refl _ | exact Imp.nil _ | apply Imp.drop))))) (fun hb => absurd hb (by omega)) (fun k x' st M' _ hx' hst hno2 _ => absurd hno2 (rgo_no hrun' hx' hst)) fun rs a7 c7 M7 _ hrs hM7 hrsm => ?_
        rw [hrun'] at hrs
        have hrs' := Option.some.inj hrs
        have hrl : rs.length = (pre ++ [w]).length := by
          have := congrArg List.length hrs'
          simp at this
          simp; omega
        obtain ⟨u, hu⟩ : ∃ u, rs[pre.length]? = some u := ⟨_, List.getElem?_eq_getElem (by rw [hrl]; simp)⟩
        have hul : u.l.length = w.l.length + 1 := by
          have := congrArg (fun l => l[pre.length]?) hrs'
          simp only [List.getElem?_map, hu, Option.map_some] at this
          rw [List.getElem?_append_right (by simp), List.length_map, Nat.sub_self, List.getElem?_cons_zero] at this
          have h2 := congrArg (fun d : dR => d.2.2.length) (Option.some.inj this)
          simpa [dRw] using h2.symm
        have hwn := (hyx w (by simp)).n
        refine Ent.keepS fun M8 hM8 hr8 _ _ _ => ?_
        refine Ent.wlen ?_
        refine Ent.war ?_
        rw [hl3]
        refine eq0 ?_
        refine Ent.wF ?_ (decide_eq_false hne)
        refine ask M8 _ _ (Hp.le_trans hM7 hM8) .hd ?_
        refine Ent.wF ?_ (by rw [decide_eq_true hgd]; rfl)
        refine Ent.draw [Sl.ro M8] (by (focus ((repeat ((with_reducible apply Imp.pick); (repeat (first | exact Pick.hd | apply Pick.tl)))); (repeat (first | exact Imp.refl _ | exact Imp.nil _ | apply Imp.drop)); done))) ?_
        refine Ent.wT ?_
        refine Ent.wsI ?_
        refine Ent.wsI ?_
        refine Ent.wT ?_ (beq_iff_eq.2 (by rw [hrl]))
        refine Ent.wixQ (i := pre.length) (xs := rs) (f := fun y => rwC y) hr8 hu (fun b o hp => ?_) (h1 := by rw [hrl]; simp)
        refine Ent.wgRp ?_
        refine Ent.wsI ?_
        refine Ent.wixQ (i := pre.length) (xs := pre ++ [w]) (f := fun y => rwC y) (hr25.mono (Hp.le_trans hM7 hM8)) hgw (fun b o hp => ?_) (h1 := by simp)
        refine Ent.wgRp ?_
        refine Ent.wsI ?_
        refine Ent.war ?_
        refine Ent.wT ?_ (beq_iff_eq.2 (by rw [hul]; push_cast; rfl))
        refine wakes_spec (hG.mono (by (focus (repeat (first | exact Imp.refl _ | exact Imp.nil _ | apply Imp.drop))))) ?_
        refine Ent.wand ?_
        exact h.imp (by (focus (repeat (first | exact Imp.refl _ | exact Imp.nil _ | apply Imp.drop))))
      · rw [if_neg hgd] at hrun'
        refine parserows_spec (s := rwTx ds ++ ln) (by omega) (hG.mono (by (focus (repeat (first | exact Imp.refl _ | exact Imp.nil _ | apply Imp.drop))))) (fun hb => absurd hb (by omega)) (fun k x' st M7 _ hx' hst hno2 hM7 => ?_) fun rs a7 c7 M7 _ hrs hM7 hrsm => absurd (hrun'.symm.trans hrs) (by simp)
        refine Ent.wlen ?_
        refine Ent.war ?_
        rw [hl3]
        refine eq0 ?_
        refine Ent.wF ?_ (decide_eq_false hne)
        refine ask M7 _ _ hM7 .hd ?_
        refine Ent.wT ?_ (by rw [decide_eq_false hgd]; rfl)
        refine Ent.join1 (kd := .bool) (fun v => pur (v = true) :: ctx) ?_ ?_
        rotate_left
        · intro j4 hj4
          refine Ent.wT ?_
          refine Ent.wlen ?_
          refine Ent.wT ?_
          exact wk _ _ (by (focus (repeat (first | exact Imp.refl _ | exact Imp.nil _ | apply Imp.drop)))) ((hj4 _).imp (Imp.pur rfl (by (focus (repeat (first | exact Imp.refl _ | exact Imp.nil _ | apply Imp.drop))))))
        intro v
        refine Ent.pur fun hv => ?_
        subst hv
        exact h
end
section
variable {H : Type} {enc : TypeId × Value → H} {W : World}
theorem walk {H : Type} {enc : TypeId × Value → H} {W : World} (base : Nat) (args : Array Value) (ds : List (DataW H)) (hval : ∀ (j : Nat) t v, Tryd.f6.params[j]? = some t → args[j]? = some v → Value.okWide Tryd.prog W .any base t v)
    (hA : ∃ p, DataW.TrodAll enc P W 0 (fun _ => true) true Tryd.f6.params.toList args.toList ds p)
    (hL : laidMetH P Qa.laidL W) (hsh : W.ShapedOpen P) (hk : Rows.uptoBulkAll ds ≤ 1048576) :
    Calls P 6 args W fun e W' => e = .returned (.bool true) ∧ Below W.heap.size W W' := by
  obtain ⟨p, hA⟩ := hA
  have hp : Tryd.f6.params.toList = [37, 41] := rfl
  rw [hp] at hA
  obtain ⟨v0, vs0, d0, ds0, q0, hv0, rfl, t0, hA⟩ := Lift.tr_cons hA
  obtain ⟨v1, vs1, d1, ds1, q1, hv1, rfl, t1, hA⟩ := Lift.tr_cons hA
  obtain ⟨rfl, rfl⟩ := Lift.tr_nil hA
  simp only [Rows.uptoBulkAll] at hk
  obtain ⟨a, c, xs, h0, hn, hr, hxs, hsum⟩ := tr_drs rfl t0 (by omega)
  obtain ⟨x, h1, hx1, hx2⟩ := tr_dr t1
  obtain ⟨l', rfl⟩ : ∃ l : List Value, args = l.toArray := ⟨args.toList, by simp⟩
  simp only [List.toList_toArray] at hv0
  subst hv0 hv1
  obtain rfl := Lift.val_slice rfl (hval 0 _ _ rfl rfl) h0
  obtain rfl := Lift.val_struct rfl (hval 1 _ _ rfl rfl) h1
  exact Lift.calls_of fun K h => spec (by omega) hr hxs (hx1.r (by omega)) (by omega) (gl_of hL hsh) h
end
theorem own : ownKnob Tryd.prog.godebug = none := by kernel_rfl
theorem contract (H : Type) (enc : TypeId × Value → H) (W : World) (base : Nat) (args : Array Value) (ds gs : List (DataW H)) (before : List MemPlace) (hval : ∀ (j : Nat) t v, Tryd.f6.params[j]? = some t → args[j]? = some v → Value.okWide Tryd.prog W .any base t v)
    (hW : DataW.Whole enc Tryd.prog Tryd.f6.params.toList Rows.shellOutsSpec.vars false W args.toList ds gs before) (hk : Rows.uptoBulkAll (ds ++ gs) ≤ 1048576) (hL : laidMetH Tryd.prog Qa.laidL W) (hsh : W.ShapedOpen Tryd.prog) :
    Calls Tryd.prog 6 args W fun e W' => ∃ v, e = .returned v ∧ Rows.shellOutsSpec.post enc Tryd.prog Tryd.f6 false true false false W args v W' := by
  have hgs : gs = [] := by
    obtain ⟨p, q, _, hV, _⟩ := hW
    cases gs <;> simp_all [DataW.TrodVars, Rows.shellOutsSpec]
  subst hgs
  rw [List.append_nil] at hk
  have hA : ∃ p, DataW.TrodAll enc P W 0 (fun _ => true) true Tryd.f6.params.toList args.toList ds p := by
    obtain ⟨p, q, hA, _⟩ := hW
    exact ⟨p, hA⟩
  refine (walk base args ds hval hA hL hsh hk).mono fun e W' ⟨he, hb⟩ => ?_
  exact ⟨_, he, Lift.law_post' (by kernel_rfl) rfl rfl rfl (fun ds h => by first | (rcases ds with _ | ⟨d1, _ | ⟨d2, _ | ⟨d3, _ | ⟨d4, ds⟩⟩⟩⟩ <;> first | rfl | (exfalso; simp [Tryd.f6] at h; done))) (by kernel_rfl) hW hb⟩
noncomputable def flat : Nat → DataW Unit → List Value
  | 0, _ => []
  | n + 1, .lit (.int k i) => [.int k i]
  | n + 1, .agg l => l.flatMap (flat n)
  | _, _ => []
noncomputable def lay (name : String) (d : DataW Unit) (h : Array Obj) : Array Obj := h.modify ((Tryd.prog.globalNamed name).getD 0) fun
  | .cells _ t frozen => .cells (flat 3 d).toArray t frozen
  | o => o
noncomputable def low : Nat := (World.holding Tryd.prog default ⟨#[], #[], []⟩).heap.size
noncomputable def layP (name : String) (b : Nat) (h : Array Obj) : Array Obj := h.modify ((Tryd.prog.globalNamed name).getD 0) fun
  | .cells _ t frozen => .cells #[.iface 151 (.pointer (some ⟨b, 0, none⟩))] t frozen
  | o => o
noncomputable def w0 (os : Os) : World := World.holding Tryd.prog os ⟨#[.cells #[.string (⟨#[118, 97, 108, 117, 101, 32, 111, 117, 116, 32, 111, 102, 32, 114, 97, 110, 103, 101]⟩ : ByteArray)] 153, .cells #[.string (⟨#[105, 110, 118, 97, 108, 105, 100, 32, 115, 121, 110, 116, 97, 120]⟩ : ByteArray)] 153], #[], []⟩
noncomputable def laidHeap (os : Os) : Array Obj :=
  layP "strconv.ErrRange" low <| layP "strconv.ErrSyntax" (low + 1) <| lay "unicode/utf8.first" Rows.laid_unicode_utf8_first <| lay "unicode/utf8.acceptRanges" Rows.laid_unicode_utf8_acceptRanges <|
      lay "internal/strconv.uint64pow10" Rows.laid_internal_strconv_uint64pow10 <| lay "math/bits.deBruijn32tab" Rows.laid_math_bits_deBruijn32tab <| lay "math/bits.deBruijn64tab" Rows.laid_math_bits_deBruijn64tab (w0 os).heap
/-- the settled world, the tables and the two errors laid -/
noncomputable def laidWorld (os : Os) : World :=
  { w0 os with heap := laidHeap os }
theorem laid_met (os : Os) : laidMet Tryd.prog Rows.shellOutsRow.laid ((laidWorld os).forCall (fun _ _ => 0) ⟨#[], #[.slice none 0 0, .agg #[.int .i64 0, .int .i64 0, .slice none 0 0, .slice none 0 0]], []⟩).memory :=
  laidMet_of_run' 8 (by kernel_rfl) (by kernel_rfl)
theorem reads (os : Os) {H : Type} (enc : TypeId × Value → H) : ∃ places, DataW.whole enc Tryd.prog ((laidWorld os).forCall (fun _ _ => 0) ⟨#[], #[.slice none 0 0, .agg #[.int .i64 0, .int .i64 0, .slice none 0 0, .slice none 0 0]], []⟩).memory Tryd.f6.params.toList Rows.shellOutsSpec.vars false #[.slice none 0 0, .agg #[.int .i64 0, .int .i64 0, .slice none 0 0, .slice none 0 0]].toList 8 = some ([.nil, .agg [.lit (.int .i64 0), .lit (.int .i64 0), .nil, .nil]], [], places) :=
  ⟨[], by kernel_rfl⟩
set_option maxRecDepth 100000 in
theorem lifted (os : Os) (started : os.Started) (H : Type) (enc : TypeId × Value → H) (F : Stop.Interp) :
    ReturnsInHanded {} Tryd.checked os 6 .any ((Rows.OpenSpec.upto Rows.shellOutsSpec).preRow enc Tryd.prog Tryd.f6 Rows.shellOutsUptoRow.domain false Rows.shellOutsUptoRow.laid) (((Rows.OpenSpec.upto Rows.shellOutsSpec).at F).post enc Tryd.prog Tryd.f6 false true false false) := by
  obtain ⟨places, hx⟩ := reads os enc
  refine returnsInHanded_of_row (C := Tryd.checked) (s := Rows.OpenSpec.upto Rows.shellOutsSpec) own started (by kernel_rfl) Tryd.func6
    (witness_row_at (enc := enc) (C := Tryd.checked) false (laidWorld os) #[.slice none 0 0, .agg #[.int .i64 0, .int .i64 0, .slice none 0 0, .slice none 0 0]] rfl (by kernel_rfl) (by kernel_rfl) (by kernel_rfl)
      (OpenSpec.preRow_of_cond 8 hx (by kernel_rfl) (fun k hk => by cases hk; kernel_rfl) (by kernel_rfl) (laid_met os))) ?_
  intro W base args ds gs before hval hW _ hcond _ hL hsh _
  exact contract H enc W base args ds gs before hval hW (of_decide_eq_true (hcond _ rfl)) hL hsh
theorem over : Rows.ShellOutsUptoSaid :=
  OpenClaim.holds_of_cond 6 Tryd.f6 rfl rfl rfl rfl rfl rfl rfl ⟨rfl, rfl, rfl, rfl, rfl⟩ rfl rfl rfl rfl rfl (by kernel_rfl) Tryd.func6 (by kernel_rfl)
    (of_decide_eq_true (by kernel_rfl)) (by unfold Func.isWrapper; first | (rw [if_pos (by decide +kernel)]; kernel_rfl) | (rw [if_neg (by decide +kernel)]; exact ⟨rfl, rfl⟩))
    (fun os started H enc _ F => by rw [OpenClaim.pre_eq_preRow]; exact lifted os started H enc F)
theorem plain (f : FuncId) (fn : Func) (hf : Tryd.pinned.checked.prog.funcNamed "tollhouse/tollhouselaw31.ShellOuts" = some f) (hfn : Tryd.pinned.checked.prog.funcs[f]? = some fn) :
    true = Tryd.pinned.checked.prog.looks [] ∧ ∀ (j : Nat) t, fn.params[j]? = some t → Tryd.pinned.checked.prog.wantsStandIn t = false := by
  obtain rfl : f = 6 := Option.some.inj ((show Tryd.prog.funcNamed "tollhouse/tollhouselaw31.ShellOuts" = some 6 by kernel_rfl).symm.trans hf) |>.symm
  obtain rfl : fn = Tryd.f6 := (Option.some.inj (Tryd.func6.symm.trans hfn)).symm
  refine ⟨by kernel_rfl, fun j t ht => ?_⟩
  have := List.all_eq_true.1 (show (Tryd.f6.params.toList.all fun t => !Tryd.prog.wantsStandIn t) = true by kernel_rfl) t (by simpa using Array.mem_of_getElem? ht)
  exact (by simpa using this : Tryd.prog.wantsStandIn t = false)
theorem proved : Rows.ShellOutsUptoCardSaid :=
  Claim7.holds_tied_plain_at .later [] _ _ _ _ over (fun _ h => by cases h) (by kernel_rfl) (fun _ h => by cases h) shellOutsUpto_row_tie rfl ⟨rfl, rfl⟩ (by kernel_rfl) rfl plain (by kernel_rfl)

end Go.Proofs.YtoneapgooihajaaDoor.shellOuts
