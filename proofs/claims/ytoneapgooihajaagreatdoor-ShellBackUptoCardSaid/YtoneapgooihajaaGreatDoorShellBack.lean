/- ShellBack: TEXT, THERE AND BACK (any events, any rows, any text): within the bulk. -/
import Derived.Test.YtoneapgooihajaaGreatDoorYb
import Derived.Test.YtoneapgooihajaaGreatDoorUe
import Derived.Test.YtoneapgooihajaaGreatDoorRa
import Derived.Test.YtoneapgooihajaaGreatDoorGl
import Derived.Test.YtoneapgooihajaaGreatDoorCards
import Derived.Test.YtoneapgooihajaaGreatDoorTie
import Derived.Deep.DeepHandedRow
import Derived.Lib.LaidTab
set_option linter.unusedVariables false
set_option linter.unusedSimpArgs false
set_option maxRecDepth 100000
set_option maxHeartbeats 0
namespace Go.Proofs.YtoneapgooihajaaGreatDoor.shellBack
open Go Sh Sl Qa
open Go.ChangeShapes Go.WideShapes Go.ChangeAt Go.RowKit
theorem rgo_no {ls : List Bs} {ds st : List dR} {k : Nat} {x : Bs} (h : rgo [] ls = some ds) (h1 : ls[k]? = some x) (h2 : rgo [] (ls.take k) = some st) : rstep st x ≠ none := fun hh => by
  have hlt := (List.getElem?_eq_some_iff.1 h1).1
  have e1 : ls = ls.take k ++ x :: ls.drop (k + 1) := by
    have h3 := (List.getElem?_eq_some_iff.1 h1).2
    rw [← h3, List.getElem_cons_drop hlt, List.take_append_drop]
  rw [e1, rgo_app, h2] at h
  have h4 : (rstep st x).bind (fun st' => rgo st' (ls.drop (k + 1))) = some ds := h
  rw [hh] at h4
  cases h4
theorem rwText_ok {ds : List dR} (h : (rwText ds).2 = 0) : (∀ d ∈ ds, (rwT d).2 = true) ∧ (rwText ds).1 = rwTx ds ∧ (rwTx ds).length ≤ 131072 := by
  unfold rwText at h ⊢
  split at h
  · rename_i ha
    by_cases hl : (rwTx ds).length > 131072
    · rw [if_pos hl] at h
      exact absurd h (by decide)
    · rw [if_pos ha, if_neg hl]
      exact ⟨fun d hd => List.all_eq_true.1 ha d hd, rfl, by omega⟩
  · exact absurd h (by decide)
theorem rwText_no {ds : List dR} (h : (rwText ds).2 ≠ 0) : (rwText ds).1 = [] ∧ ((rwText ds).2 = 1 ∨ (rwText ds).2 = 3) := by
  unfold rwText at h ⊢
  split
  · rename_i ha
    rw [if_pos ha] at h
    split
    · exact ⟨rfl, .inr rfl⟩
    · rename_i hl
      rw [if_neg hl] at h
      exact absurd rfl h
  · exact ⟨rfl, .inl rfl⟩
theorem rwText_of {ds : List dR} (h : ∀ d ∈ ds, (rwT d).2 = true) (hl : (rwTx ds).length ≤ 131072) : rwText ds = (rwTx ds, 0) := by
  unfold rwText
  rw [if_pos (List.all_eq_true.2 h), if_neg (by omega)]
theorem evText_ok {ds : List dE'} (h : (evText ds).2 = 0) : (∀ d ∈ ds, (evL d).2 = true) ∧ (evText ds).1 = evTx ds ∧ (evTx ds).length ≤ 131072 := by
  unfold evText at h ⊢
  split at h
  · rename_i ha
    by_cases hl : (evTx ds).length > 131072
    · rw [if_pos hl] at h
      exact absurd h (by decide)
    · rw [if_pos ha, if_neg hl]
      exact ⟨fun d hd => List.all_eq_true.1 ha d hd, rfl, by omega⟩
  · exact absurd h (by decide)
theorem evText_no {ds : List dE'} (h : (evText ds).2 ≠ 0) : (evText ds).1 = [] ∧ ((evText ds).2 = 1 ∨ (evText ds).2 = 3) := by
  unfold evText at h ⊢
  split
  · rename_i ha
    rw [if_pos ha] at h
    split
    · exact ⟨rfl, .inr rfl⟩
    · rename_i hl
      rw [if_neg hl] at h
      exact absurd rfl h
  · exact ⟨rfl, .inl rfl⟩
section
attribute [local irreducible] condK ArK NilK OpK FnK StK joinK loopK DrawK andK PuK NxK EnK vS uS bS callS invokeS
variable {e : Env} {ctx rest : List HProp} {M : Hp}
theorem neE {X Y : Operand} {t : TypeId} {C : List HProp} {A B : WP} {b : Bs} (k : Ent e C (condK (!decide (b = [])) A B)) : Ent e C (oB (bS .neq t X Y (.string (ba b)) (.string (⟨#[]⟩ : ByteArray))) fun t58 => condK t58 A B) := by
  refine Ent.opB (st_neS).still ?_
  rw [show decide (ba b = (⟨#[]⟩ : ByteArray)) = decide (b = []) from ba_eqb b []]
  exact k
theorem spec {K : Bool → WP} {es : List Ev} {ea : Option Addr} {ec : Nat} {xs : List Dr} {a : Option Addr} {c : Nat} {s : Bs}
    (hen : es.length ≤ 1048576) (her : Rd ctx ea (evcs es)) (hes : ∀ x ∈ es, EvR x ∧ Rd ctx x.a (u8 x.b))
    (hn : xs.length ≤ 1048576) (hr : Rd ctx a (drcs xs)) (hxs : ∀ y ∈ xs, DrR ctx y) (hsum : (xs.map fun x => x.os.length + 1).sum ≤ 1048576) (hs : s.length ≤ 1048576) (hG : GL e ctx) (h : Ent e ctx (K true)) :
    Ent e ctx (law31_ShellBack (.slice ea es.length ec) (.slice a xs.length c) (ba s) K) := by
  (refine Ent.fn law31_ShellBack_ok ?_; unfold law31_ShellBack_sh)
  have wk : ∀ (C : List HProp) (f : Bool → WP), Imp C ctx → Ent e C (f true) → Ent e C (law31_wakes fun t => f t) := fun C f hC hf => wakes_spec (hG.mono hC) hf
  refine Ent.imp (ctx' := Sl.ro (fun _ => none) :: ctx) (fun hp k => ⟨fun _ => none, hp, fun _ => .inl rfl, (fun _ _ hh => by cases hh), Hp.le_refl _, (fun _ _ hh => by cases hh), k⟩) ?_
  obtain ⟨M0, hM0⟩ : ∃ M0 : Hp, M0 = fun _ => none := ⟨_, rfl⟩
  rw [← hM0]
  -- the events
  refine ours_spec (xs := es) (by omega) her hes fun ys a2 c2 M1 _ hy hyM => ?_
  have hyl : ys.length = es.length := by simpa using congrArg List.length hy
  refine Ent.rdS fun r2 _ => ?_
  refine text_spec (xs := ys) (by omega) (r2 _ .hd) (fun y hy => ⟨(hyM y hy).b, (hyM y hy).r.rd (.tl .hd)⟩) (hG.mono (by (focus (repeat (first | exact Imp.refl _ | exact Imp.nil _ | apply Imp.drop))))) ?_
  rw [hy]
  obtain ⟨T, hT⟩ : ∃ T, T = evText (es.map dEv) := ⟨_, rfl⟩
  rw [← hT]
  refine Ent.imp (ctx' := Sl.ro M1 :: ctx) (by (focus ((repeat ((with_reducible apply Imp.pick); (repeat (first | exact Pick.hd | apply Pick.tl)))); (repeat (first | exact Imp.refl _ | exact Imp.nil _ | apply Imp.drop)); done))) ?_
  refine Ent.join0 (Sl.ro M1 :: ctx) ?_ ?_
  rotate_left
  · intro j1 hj1
    refine Ent.condE (fun h0 => ?_) fun h0 => ?_
    · obtain ⟨t1, t2, t3⟩ := evText_ok (ds := es.map dEv) (by rw [← hT]; exact h0)
      have hT1 : T.1 = evTx (es.map dEv) := by rw [hT]; exact t2
      obtain ⟨b1, b2⟩ := evs_back (ds := es.map dEv) fun d hd => by
        obtain ⟨x, hx, rfl⟩ := List.mem_map.1 hd
        exact ⟨t1 _ hd, (hes x hx).1.t, (hes x hx).1.n⟩
      rw [hT1]
      have z1 : ((ba (evTx (es.map dEv))).size : Int) = ((evTx (es.map dEv)).length : Int) := by simp [ByteArray.size]
      refine parse_spec (s := evTx (es.map dEv)) (by omega) (hG.mono (by (focus (repeat (first | exact Imp.refl _ | exact Imp.nil _ | apply Imp.drop))))) (fun hb => absurd hb (by omega)) (fun k x M2 _ hx _ ho _ => ?_) fun zs a3 c3 M2 _ hok hd hM2 hzs => ?_
      · have := b1 x (List.mem_of_getElem? hx)
        rw [ho] at this; cases this
      rw [b2] at hd
      have hzl : zs.length = es.length := by simpa using congrArg List.length hd
      refine Ent.keepS fun M3 hM3 hrz _ _ _ => ?_
      refine Ent.wF ?_
      refine Ent.wF ?_
      refine theirs_spec (xs := zs) (by omega) (hrz.rd .hd) fun a4 c4 => ?_
      refine Ent.rdS fun r4 _ => ?_
      refine same_yes (xs := zs) (ys := es) (by omega) (r4 _ .hd) (her.mono (by (focus (repeat (first | exact Imp.refl _ | exact Imp.nil _ | apply Imp.drop))))) (fun x hx => ((hzs x hx).mono hM3).r.rd (.tl .hd)) (fun x hx => (hes x hx).2.mono (by (focus (repeat (first | exact Imp.refl _ | exact Imp.nil _ | apply Imp.drop))))) hd ?_
      refine Ent.wF ?_
      refine Ent.wlenS ?_
      rw [z1]
      refine Ent.wF ?_ (decide_eq_false (by omega))
      refine hj1.imp ?_
      refine Imp.drop ?_
      exact Imp.ro (Hp.le_trans hM2 hM3)
    · obtain ⟨t1, t2⟩ := evText_no (ds := es.map dEv) (by rw [← hT]; exact h0)
      rw [← hT] at t1 t2
      rw [t1]
      refine neE ?_
      refine Ent.wF ?_
      refine Ent.condN (fun h1 => ?_) fun _ => hj1
      refine Ent.condN (fun h3 => ?_) fun _ => hj1
      rcases t2 with t2 | t2
      · exact absurd t2 h1
      · exact absurd t2 h3
  -- the rows
  refine conv_spec (xs := xs) (by omega) hr hxs fun ws a5 c5 M5 hM5 hws hwx => ?_
  have hwl : ws.length = xs.length := by simpa using congrArg List.length hws
  refine Ent.keepS fun M6 hM6 hr6 _ _ _ => ?_
  have hwx6 : ∀ y ∈ ws, RwX M6 ctx y := fun y hy => (hwx y hy).mono hM6
  have hbig : ∀ k, (rwTx ((ws.take k).map dRw)).length ≤ 140737488355328 := rows_big (fun y hy => ⟨(hwx y hy).er, fun z hz => ⟨((hwx y hy).l z hz).1, ((hwx y hy).l z hz).2.1⟩⟩) (by
    rw [len_dRw, hws]
    have := len_dDr (xs := xs)
    omega)
  refine rows_spec (xs := ws) (by omega) hbig (hr6.rd .hd) (fun y hy => (hwx6 y hy).rwr .hd (by (focus (repeat (first | exact Imp.refl _ | exact Imp.nil _ | apply Imp.drop))))) (hG.mono (by (focus (repeat (first | exact Imp.refl _ | exact Imp.nil _ | apply Imp.drop))))) ?_
  obtain ⟨ds, hds⟩ : ∃ ds, ds = ws.map dRw := ⟨_, rfl⟩
  have hdl : ds.length = ws.length := by rw [hds]; simp
  have hdi : ∀ d ∈ ds, I64 d.2.1 ∧ ∀ z ∈ d.2.2, dI z := fun d hd => by
    rw [hds] at hd
    obtain ⟨y, hy, rfl⟩ := List.mem_map.1 hd
    refine ⟨(hwx y hy).er, fun z hz => ?_⟩
    obtain ⟨z', hz', rfl⟩ := List.mem_map.1 hz
    obtain ⟨q1, q2, _⟩ := (hwx y hy).l z' hz'
    exact ⟨q1, q2.s, q2.c, q2.p⟩
  rw [← hds]
  have rsl : ∀ {rs : List Rw} {s : Bs}, s.length ≤ 131072 → rgo [] (lns s) = some (rs.map dRw) → rs.length ≤ 131073 ∧ ∀ y ∈ rs, y.l.length ≤ 131073 := fun {rs s} hl hg => by
    obtain ⟨g1, g2⟩ := rgo_len _ [] _ 0 (fun d hd => by cases hd) hg
    have hll : (lns s).length ≤ s.length + 1 := lns_len s []
    refine ⟨by simp at g1; omega, fun y hy => ?_⟩
    have := g2 (dRw y) (List.mem_map.2 ⟨y, hy, rfl⟩)
    have e1 : (dRw y).2.2.length = y.l.length := by simp [dRw]
    omega
  refine Ent.join0 (Sl.ro M6 :: ctx) ?_ ?_
  rotate_left
  · intro j2 hj2
    refine Ent.condE (fun h0 => ?_) fun h0 => ?_
    · obtain ⟨t1, t2, t3⟩ := rwText_ok h0
      rw [t2]
      have hrun : rgo [] (lns (rwTx ds)) = some ds := by
        have := rgo_text (ds := ds) (t := []) fun d hd => ⟨t1 d hd, (hdi d hd).1, (hdi d hd).2⟩
        rw [List.append_nil] at this
        exact this
      have z1 : ((ba (rwTx ds)).size : Int) = ((rwTx ds).length : Int) := by simp [ByteArray.size]
      refine parserows_spec (s := rwTx ds) (by omega) (hG.mono (by (focus (repeat (first | exact Imp.refl _ | exact Imp.nil _ | apply Imp.drop))))) (fun hb => absurd hb (by omega)) (fun k x st M' _ hx hst hno _ => absurd hno (rgo_no hrun hx hst)) fun rs a7 c7 M7 _ hrs hM7 hrsm => ?_
      obtain ⟨n1, n2⟩ := rsl t3 hrs
      rw [hrun] at hrs
      have hrs' := Option.some.inj hrs
      refine Ent.keepS fun M8 hM8 hr8 _ _ _ => ?_
      refine Ent.wF ?_
      refine Ent.wF ?_
      refine told_spec (R := [Sl.ro M8]) (ys := rs) (by omega) hr8 (fun y hy => ((hrsm y hy).mono hM8).d .hd (by have := n2 y hy; omega)) fun ts a9 c9 M9 hM9 hts htm => ?_
      refine Ent.keepS fun M10 hM10 hr10 _ _ _ => ?_
      have l610 := Hp.le_trans hM7 (Hp.le_trans hM8 (Hp.le_trans hM9 hM10))
      refine told_spec (R := ctx) (ys := ws) (by omega) (hr6.mono l610) (fun y hy => ((hwx6 y hy).mono l610).d) fun us a11 c11 M11 hM11 hus hum => ?_
      refine Ent.keepS fun M12 hM12 hr12 _ _ _ => ?_
      have hd : ts.map dDr = us.map dDr := by rw [hts, hus, ← hrs', hds]
      have htl : ts.length = rs.length := by simpa using congrArg List.length hts
      refine samerows_yes (M := M12) (R := [Sl.ro M8]) (R' := ctx) (xs := ts) (ys := us) (by omega) .hd (hr10.mono (Hp.le_trans hM11 hM12)) hr12 (fun x hx => (htm x hx).mono (Hp.le_trans hM10 (Hp.le_trans hM11 hM12))) (fun x hx => (hum x hx).mono hM12) ?_ (by (focus (repeat (first | exact Imp.refl _ | exact Imp.nil _ | apply Imp.drop)))) hd ?_
      · exact Imp.trans (Imp.ro (Hp.le_trans hM9 (Hp.le_trans hM10 (Hp.le_trans hM11 hM12)))) (Imp.cons (Imp.nil _))
      refine Ent.wF ?_
      refine Ent.wlenS ?_
      rw [z1]
      refine Ent.wF ?_ (decide_eq_false (by omega))
      refine hj2.imp ?_
      exact Imp.ro (Hp.le_trans l610 (Hp.le_trans hM11 hM12))
    · obtain ⟨t1, t2⟩ := rwText_no h0
      rw [t1]
      refine neE ?_
      refine Ent.wF ?_
      refine Ent.condN (fun h1 => ?_) fun _ => hj2
      refine Ent.condN (fun h3 => ?_) fun _ => hj2
      rcases t2 with t2 | t2
      · exact absurd t2 h1
      · exact absurd t2 h3
  -- the text, as rows
  have last : ∀ M', Ent e (Sl.ro M' :: ctx) (shell_ParseRows (ba s) fun t140 t140_1 t140_2 =>
      condK (t140_2 == 0) (shell_Rows t140 fun t148 t148_1 => joinK [(6, .bool)] (fun (j4 : Bool → WP) => condK (t140_1 == 0) (condK (t148_1 == 0)
        (oB (bS .eql 9 (.tmp 158) (.tmp 159) (.string t148) (.string (ba s))) fun t160 => condK t160 (law31_wakes fun t163 => j4 t163) (j4 false)) (j4 false)) (j4 false)) fun t6 => K t6)
      (len 39 3 t140 fun t166 => condK (t166 == 0) (law31_wakes fun t169 => K t169) (K false))) := fun M' => by
    refine parserows_spec hs (hG.mono (by (focus (repeat (first | exact Imp.refl _ | exact Imp.nil _ | apply Imp.drop))))) (fun hb => ?_) (fun k x st M2 _ _ _ _ _ => ?_) fun rs a7 c7 M7 hl hrs hM7 hrsm => ?_
    · refine Ent.wF ?_
      refine Ent.wlen ?_
      refine Ent.wT ?_
      exact wk _ _ (by (focus (repeat (first | exact Imp.refl _ | exact Imp.nil _ | apply Imp.drop)))) (h.imp (by (focus (repeat (first | exact Imp.refl _ | exact Imp.nil _ | apply Imp.drop)))))
    · refine Ent.wF ?_
      refine Ent.wlen ?_
      refine Ent.wT ?_
      exact wk _ _ (by (focus (repeat (first | exact Imp.refl _ | exact Imp.nil _ | apply Imp.drop)))) (h.imp (by (focus (repeat (first | exact Imp.refl _ | exact Imp.nil _ | apply Imp.drop)))))
    · obtain ⟨n1, n2⟩ := rsl hl hrs
      obtain ⟨g1, g2⟩ := rows_text hrs
      have htx : rwText (rs.map dRw) = (s, 0) := by rw [rwText_of (fun d hd => (g1 d hd).1) (by rw [g2]; exact hl), g2]
      refine Ent.keepS fun M8 hM8 hr8 _ _ _ => ?_
      refine Ent.wT ?_
      have hb2 : ∀ k, (rwTx ((rs.take k).map dRw)).length ≤ 140737488355328 := fun k => by
        have h1 : (rwTx ((rs.take k).map dRw)).length ≤ (rwTx (rs.map dRw)).length := by
          have e1 : rwTx (rs.map dRw) = rwTx ((rs.take k).map dRw) ++ rwTx ((rs.drop k).map dRw) := by
            have : rs.map dRw = (rs.take k).map dRw ++ (rs.drop k).map dRw := by rw [← List.map_append, List.take_append_drop]
            rw [this]
            unfold rwTx
            rw [List.flatMap_append]
          rw [e1, List.length_append]
          omega
        rw [g2] at h1
        omega
      refine rows_spec (xs := rs) (by omega) hb2 (hr8.rd .hd) (fun y hy => ((hrsm y hy).mono hM8).rwr .hd (by have := n2 y hy; omega)) (hG.mono (by (focus (repeat (first | exact Imp.refl _ | exact Imp.nil _ | apply Imp.drop))))) ?_
      rw [htx]
      refine Ent.join1 (kd := .bool) (fun v => pur (v = true) :: ctx) ?_ ?_
      rotate_left
      · intro j4 hj4
        refine Ent.wT ?_
        refine Ent.wT ?_
        refine yesS rfl ?_
        exact wk _ _ (by (focus (repeat (first | exact Imp.refl _ | exact Imp.nil _ | apply Imp.drop)))) ((hj4 _).imp (Imp.pur rfl (by (focus (repeat (first | exact Imp.refl _ | exact Imp.nil _ | apply Imp.drop))))))
      intro v
      refine Ent.pur fun hv => ?_
      subst hv
      exact h
  -- the text, as events
  refine parse_spec hs (hG.mono (by (focus (repeat (first | exact Imp.refl _ | exact Imp.nil _ | apply Imp.drop))))) (fun hb => ?_) (fun k x M2 _ _ _ _ _ => ?_) fun zs a3 c3 M2 hb hok hd hM2 hzs => ?_
  · refine Ent.join0 (Sl.ro M6 :: ctx) (last _) fun j3 hj3 => ?_
    refine Ent.wF ?_
    refine Ent.wlen ?_
    refine Ent.wF ?_
    exact hj3
  · refine Ent.join0 (Sl.ro M2 :: ctx) (last _) fun j3 hj3 => ?_
    refine Ent.wF ?_
    refine Ent.wlen ?_
    refine Ent.wF ?_
    exact hj3
  · have hll : (lns s).length ≤ s.length + 1 := lns_len s []
    have hzl : zs.length = (lns s).length := by simpa using congrArg List.length hd
    refine Ent.keepS fun M3 hM3 hrz _ _ _ => ?_
    refine Ent.join0 (Sl.ro M3 :: ctx) (last _) fun j3 hj3 => ?_
    refine Ent.wT ?_
    refine text_spec (xs := zs) (by omega) (hrz.rd .hd) (fun y hy => ⟨(hzs y hy).b, ((hzs y hy).mono hM3).r.rd .hd⟩) (hG.mono (by (focus (repeat (first | exact Imp.refl _ | exact Imp.nil _ | apply Imp.drop))))) ?_
    have htx : evText (zs.map dEv) = (s, 0) := by
      rw [hd]
      exact evs_text (fun x hx => hok x (by rw [List.take_length]; exact hx)) hb
    rw [htx]
    refine Ent.wF ?_
    refine Ent.wF ?_
    refine Ent.opB (st_neS).still ?_
    rw [decide_eq_true rfl]
    refine Ent.wF ?_
    exact hj3
end
section
variable {H : Type} {enc : TypeId × Value → H} {W : World}
theorem walk {H : Type} {enc : TypeId × Value → H} {W : World} (base : Nat) (args : Array Value) (ds : List (DataW H)) (hval : ∀ (j : Nat) t v, Tryz.f5.params[j]? = some t → args[j]? = some v → Value.okWide Tryz.prog W .any base t v)
    (hA : ∃ p, DataW.TrodAll enc P W 0 (fun _ => true) true Tryz.f5.params.toList args.toList ds p)
    (hL : laidMetH P Qa.laidL W) (hsh : W.ShapedOpen P) (hk : Rows.uptoBulkAll ds ≤ 1048576) :
    Calls P 5 args W fun e W' => e = .returned (.bool true) ∧ Below W.heap.size W W' := by
  obtain ⟨p, hA⟩ := hA
  have hp : Tryz.f5.params.toList = [22, 38, 9] := rfl
  rw [hp] at hA
  obtain ⟨v0, vs0, d0, ds0, q0, hv0, rfl, t0, hA⟩ := Lift.tr_cons hA
  obtain ⟨v1, vs1, d1, ds1, q1, hv1, rfl, t1, hA⟩ := Lift.tr_cons hA
  obtain ⟨v2, vs2, d2, ds2, q2, hv2, rfl, t2, hA⟩ := Lift.tr_cons hA
  obtain ⟨rfl, rfl⟩ := Lift.tr_nil hA
  simp only [Rows.uptoBulkAll] at hk
  obtain ⟨ea, ec, es, h0, hen, her, hes⟩ := tr_evs rfl t0 (by omega)
  obtain ⟨a, c, xs, h1, hn, hr, hxs, hsum⟩ := tr_drs rfl t1 (by omega)
  obtain ⟨t, h2, ht⟩ := Lift.tr_str rfl t2
  obtain ⟨l', rfl⟩ : ∃ l : List Value, args = l.toArray := ⟨args.toList, by simp⟩
  simp only [List.toList_toArray] at hv0
  subst hv0 hv1 hv2
  obtain rfl := Lift.val_slice rfl (hval 0 _ _ rfl rfl) h0
  obtain rfl := Lift.val_slice rfl (hval 1 _ _ rfl rfl) h1
  obtain rfl := Lift.val_str rfl (hval 2 _ _ rfl rfl) h2
  exact Lift.calls_of fun K h => spec (by omega) her hes (by omega) hr hxs (by omega) (by omega) (gl_of hL hsh) h
end
theorem own : ownKnob Tryz.prog.godebug = none := by kernel_rfl
theorem contract (H : Type) (enc : TypeId × Value → H) (W : World) (base : Nat) (args : Array Value) (ds gs : List (DataW H)) (before : List MemPlace) (hval : ∀ (j : Nat) t v, Tryz.f5.params[j]? = some t → args[j]? = some v → Value.okWide Tryz.prog W .any base t v)
    (hW : DataW.Whole enc Tryz.prog Tryz.f5.params.toList Rows.shellBackSpec.vars false W args.toList ds gs before) (hk : Rows.uptoBulkAll (ds ++ gs) ≤ 1048576) (hL : laidMetH Tryz.prog Qa.laidL W) (hsh : W.ShapedOpen Tryz.prog) :
    Calls Tryz.prog 5 args W fun e W' => ∃ v, e = .returned v ∧ Rows.shellBackSpec.post enc Tryz.prog Tryz.f5 false true false false W args v W' := by
  have hgs : gs = [] := by
    obtain ⟨p, q, _, hV, _⟩ := hW
    cases gs <;> simp_all [DataW.TrodVars, Rows.shellBackSpec]
  subst hgs
  rw [List.append_nil] at hk
  have hA : ∃ p, DataW.TrodAll enc P W 0 (fun _ => true) true Tryz.f5.params.toList args.toList ds p := by
    obtain ⟨p, q, hA, _⟩ := hW
    exact ⟨p, hA⟩
  refine (walk base args ds hval hA hL hsh hk).mono fun e W' ⟨he, hb⟩ => ?_
  exact ⟨_, he, Lift.law_post' (by kernel_rfl) rfl rfl rfl (fun ds h => by first | (rcases ds with _ | ⟨d1, _ | ⟨d2, _ | ⟨d3, _ | ⟨d4, ds⟩⟩⟩⟩ <;> first | rfl | (exfalso; simp [Tryz.f5] at h; done))) (by kernel_rfl) hW hb⟩
noncomputable def flat : Nat → DataW Unit → List Value
  | 0, _ => []
  | n + 1, .lit (.int k i) => [.int k i]
  | n + 1, .agg l => l.flatMap (flat n)
  | _, _ => []
noncomputable def lay (name : String) (d : DataW Unit) (h : Array Obj) : Array Obj := h.modify ((Tryz.prog.globalNamed name).getD 0) fun
  | .cells _ t frozen => .cells (flat 3 d).toArray t frozen
  | o => o
noncomputable def low : Nat := (World.holding Tryz.prog default ⟨#[], #[], []⟩).heap.size
noncomputable def layP (name : String) (b : Nat) (h : Array Obj) : Array Obj := h.modify ((Tryz.prog.globalNamed name).getD 0) fun
  | .cells _ t frozen => .cells #[.iface 182 (.pointer (some ⟨b, 0, none⟩))] t frozen
  | o => o
noncomputable def w0 (os : Os) : World := World.holding Tryz.prog os ⟨#[.cells #[.string (⟨#[118, 97, 108, 117, 101, 32, 111, 117, 116, 32, 111, 102, 32, 114, 97, 110, 103, 101]⟩ : ByteArray)] 184, .cells #[.string (⟨#[105, 110, 118, 97, 108, 105, 100, 32, 115, 121, 110, 116, 97, 120]⟩ : ByteArray)] 184], #[], []⟩
noncomputable def laidHeap (os : Os) : Array Obj :=
  layP "strconv.ErrRange" low <| layP "strconv.ErrSyntax" (low + 1) <| lay "unicode/utf8.first" Rows.laid_unicode_utf8_first <| lay "unicode/utf8.acceptRanges" Rows.laid_unicode_utf8_acceptRanges <|
      lay "internal/strconv.uint64pow10" Rows.laid_internal_strconv_uint64pow10 <| lay "math/bits.deBruijn32tab" Rows.laid_math_bits_deBruijn32tab <| lay "math/bits.deBruijn64tab" Rows.laid_math_bits_deBruijn64tab (w0 os).heap
/-- the settled world, the tables and the two errors laid -/
noncomputable def laidWorld (os : Os) : World :=
  { w0 os with heap := laidHeap os }
theorem laid_met (os : Os) : laidMet Tryz.prog Rows.shellBackRow.laid ((laidWorld os).forCall (fun _ _ => 0) ⟨#[], #[.slice none 0 0, .slice none 0 0, .string ⟨#[]⟩], []⟩).memory :=
  laidMet_of_run' 8 (by kernel_rfl) (by kernel_rfl)
theorem reads (os : Os) {H : Type} (enc : TypeId × Value → H) : ∃ places, DataW.whole enc Tryz.prog ((laidWorld os).forCall (fun _ _ => 0) ⟨#[], #[.slice none 0 0, .slice none 0 0, .string ⟨#[]⟩], []⟩).memory Tryz.f5.params.toList Rows.shellBackSpec.vars false #[.slice none 0 0, .slice none 0 0, .string ⟨#[]⟩].toList 8 = some ([.nil, .nil, .lit (.string [])], [], places) :=
  ⟨[], by kernel_rfl⟩
set_option maxRecDepth 100000 in
theorem lifted (os : Os) (started : os.Started) (H : Type) (enc : TypeId × Value → H) (F : Stop.Interp) :
    ReturnsInHanded {} Tryz.checked os 5 .any ((Rows.OpenSpec.upto Rows.shellBackSpec).preRow enc Tryz.prog Tryz.f5 Rows.shellBackUptoRow.domain false Rows.shellBackUptoRow.laid) (((Rows.OpenSpec.upto Rows.shellBackSpec).at F).post enc Tryz.prog Tryz.f5 false true false false) := by
  obtain ⟨places, hx⟩ := reads os enc
  refine returnsInHanded_of_row (C := Tryz.checked) (s := Rows.OpenSpec.upto Rows.shellBackSpec) own started (by kernel_rfl) Tryz.func5
    (witness_row_at (enc := enc) (C := Tryz.checked) false (laidWorld os) #[.slice none 0 0, .slice none 0 0, .string ⟨#[]⟩] rfl (by kernel_rfl) (by kernel_rfl) (by kernel_rfl)
      (OpenSpec.preRow_of_cond 8 hx (by kernel_rfl) (fun k hk => by cases hk; kernel_rfl) (by kernel_rfl) (laid_met os))) ?_
  intro W base args ds gs before hval hW _ hcond _ hL hsh _
  exact contract H enc W base args ds gs before hval hW (of_decide_eq_true (hcond _ rfl)) hL hsh
theorem over : Rows.ShellBackUptoSaid :=
  OpenClaim.holds_of_cond 5 Tryz.f5 rfl rfl rfl rfl rfl rfl rfl ⟨rfl, rfl, rfl, rfl, rfl⟩ rfl rfl rfl rfl rfl (by kernel_rfl) Tryz.func5 (by kernel_rfl)
    (of_decide_eq_true (by kernel_rfl)) (by unfold Func.isWrapper; first | (rw [if_pos (by decide +kernel)]; kernel_rfl) | (rw [if_neg (by decide +kernel)]; exact ⟨rfl, rfl⟩))
    (fun os started H enc _ F => by rw [OpenClaim.pre_eq_preRow]; exact lifted os started H enc F)
theorem plain (f : FuncId) (fn : Func) (hf : Tryz.pinned.checked.prog.funcNamed "tollhouse/tollhouselaw31.ShellBack" = some f) (hfn : Tryz.pinned.checked.prog.funcs[f]? = some fn) :
    true = Tryz.pinned.checked.prog.looks [] ∧ ∀ (j : Nat) t, fn.params[j]? = some t → Tryz.pinned.checked.prog.wantsStandIn t = false := by
  obtain rfl : f = 5 := Option.some.inj ((show Tryz.prog.funcNamed "tollhouse/tollhouselaw31.ShellBack" = some 5 by kernel_rfl).symm.trans hf) |>.symm
  obtain rfl : fn = Tryz.f5 := (Option.some.inj (Tryz.func5.symm.trans hfn)).symm
  refine ⟨by kernel_rfl, fun j t ht => ?_⟩
  have := List.all_eq_true.1 (show (Tryz.f5.params.toList.all fun t => !Tryz.prog.wantsStandIn t) = true by kernel_rfl) t (by simpa using Array.mem_of_getElem? ht)
  exact (by simpa using this : Tryz.prog.wantsStandIn t = false)
theorem proved : Rows.ShellBackUptoCardSaid :=
  Claim7.holds_tied_plain_at .later [] _ _ _ _ over (fun _ h => by cases h) (by kernel_rfl) (fun _ h => by cases h) shellBackUpto_row_tie rfl ⟨rfl, rfl⟩ (by kernel_rfl) rfl plain (by kernel_rfl)

end Go.Proofs.YtoneapgooihajaaGreatDoor.shellBack
