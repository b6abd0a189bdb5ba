/- ShellRows: ANY ROWS AS LINES, ANY TEXT AS ROWS: within the bulk. -/
import Derived.Test.YtoneapgooihajaaGreatDoorYd
import Derived.Test.YtoneapgooihajaaGreatDoorGl
import Derived.Test.YtoneapgooihajaaGreatDoorCards
import Derived.Test.YtoneapgooihajaaGreatDoorTie
import Derived.Deep.DeepHandedRow
import Derived.Lib.LaidTab
set_option linter.unusedVariables false
set_option linter.unusedSimpArgs false
set_option maxRecDepth 100000
set_option maxHeartbeats 0
namespace Go.Proofs.YtoneapgooihajaaGreatDoor.shellRows
open Go Sh Sl Qa
open Go.ChangeShapes Go.WideShapes Go.ChangeAt Go.RowKit
theorem rgo_cut {ls : List Bs} {st : List dR} {k : Nat} {x : Bs} (h1 : ls[k]? = some x) (h2 : rgo [] (ls.take k) = some st) : rgo [] ls = (rstep st x).bind fun st' => rgo st' (ls.drop (k + 1)) := by
  have hlt := (List.getElem?_eq_some_iff.1 h1).1
  have e1 : ls = ls.take k ++ x :: ls.drop (k + 1) := by
    have h3 := (List.getElem?_eq_some_iff.1 h1).2
    rw [← h3, List.getElem_cons_drop hlt, List.take_append_drop]
  conv => lhs; rw [e1, rgo_app, h2]
  rfl
theorem rgo_no {ls : List Bs} {ds st : List dR} {k : Nat} {x : Bs} (h : rgo [] ls = some ds) (h1 : ls[k]? = some x) (h2 : rgo [] (ls.take k) = some st) : rstep st x ≠ none := fun hh => by
  rw [rgo_cut h1 h2, hh] at h
  cases h
theorem rgo_le {ls : List Bs} {st st' : List dR} {k k' : Nat} {x : Bs} (h1 : ls[k]? = some x) (h2 : rgo [] (ls.take k) = some st) (h3 : rstep st x = none) (h4 : rgo [] (ls.take k') = some st') : k' ≤ k := by
  rcases Nat.lt_or_ge k k' with h | h
  · exfalso
    have e1 : (ls.take k')[k]? = some x := by rw [List.getElem?_take, if_pos h]; exact h1
    have e2 : (ls.take k').take k = ls.take k := by rw [List.take_take, Nat.min_eq_left (by omega)]
    exact rgo_no h4 e1 (by rw [e2]; exact h2) h3
  · exact h
section
attribute [local irreducible] condK ArK NilK OpK FnK StK joinK loopK DrawK andK PuK NxK EnK vS uS bS callS invokeS
variable {e : Env} {ctx rest : List HProp} {M : Hp}
theorem spec {K : Bool → WP} {xs : List Dr} {a : Option Addr} {c : Nat} {s : Bs}
    (hn : xs.length ≤ 1048576) (hr : Rd ctx a (drcs xs)) (hxs : ∀ y ∈ xs, DrR ctx y) (hsum : (xs.map fun x => x.os.length + 1).sum ≤ 1048576) (hs : s.length ≤ 1048576) (hG : GL e ctx) (h : Ent e ctx (K true)) :
    Ent e ctx (law31_ShellRows (.slice a xs.length c) (ba s) K) := by
  (refine Ent.fn law31_ShellRows_ok ?_; unfold law31_ShellRows_sh)
  have wk : ∀ (C : List HProp) (f : Bool → WP), Imp C ctx → Ent e C (f true) → Ent e C (law31_wakes fun t => f t) := fun C f hC hf => wakes_spec (hG.mono hC) hf
  refine Ent.imp (ctx' := Sl.ro (fun _ => none) :: ctx) (fun hp k => ⟨fun _ => none, hp, fun _ => .inl rfl, (fun _ _ hh => by cases hh), Hp.le_refl _, (fun _ _ hh => by cases hh), k⟩) ?_
  obtain ⟨M0, hM0⟩ : ∃ M0 : Hp, M0 = fun _ => none := ⟨_, rfl⟩
  rw [← hM0]
  refine conv_spec (xs := xs) (by omega) hr hxs fun ws a5 c5 M5 hM5 hws hwx => ?_
  have hwl : ws.length = xs.length := by simpa using congrArg List.length hws
  refine Ent.keepS fun M6 hM6 hr6 _ _ _ => ?_
  have hwx6 : ∀ y ∈ ws, RwX M6 ctx y := fun y hy => (hwx y hy).mono hM6
  have hbig : ∀ k, (rwTx ((ws.take k).map dRw)).length ≤ 140737488355328 := rows_big (fun y hy => ⟨(hwx y hy).er, fun z hz => ⟨((hwx y hy).l z hz).1, ((hwx y hy).l z hz).2.1⟩⟩) (by
    rw [len_dRw, hws]
    have := len_dDr (xs := xs)
    omega)
  refine rows_spec (xs := ws) (by omega) hbig (hr6.rd .hd) (fun y hy => (hwx6 y hy).rwr .hd (by (focus (repeat (first | exact Imp.refl _ | exact Imp.nil _ | apply Imp.drop))))) (hG.mono (by (focus (repeat (first | exact Imp.refl _ | exact Imp.nil _ | apply Imp.drop))))) ?_
  refine told_spec (R := ctx) (ys := ws) (by omega) hr6 (fun y hy => (hwx6 y hy).d) fun ts a9 c9 M9 hM9 hts htm => ?_
  refine Ent.keepS fun M10 hM10 hr10 _ _ _ => ?_
  have htl : ts.length = ws.length := by simpa using congrArg List.length hts
  refine refrows_spec (R := ctx) (xs := ts) (by omega) (fun k => ?_) .hd hr10 (fun x hx => (htm x hx).mono hM10) (by (focus (repeat (first | exact Imp.refl _ | exact Imp.nil _ | apply Imp.drop)))) ?_
  · rw [List.map_take, hts, ← List.map_take]
    exact hbig k
  rw [hts]
  obtain ⟨T, hT⟩ : ∃ T, T = rwText (ws.map dRw) := ⟨_, rfl⟩
  rw [← hT]
  have rsl : ∀ {ds : List dR} {s : Bs}, s.length ≤ 131072 → rgo [] (lns s) = some ds → ds.length ≤ 131073 ∧ ∀ d ∈ ds, d.2.2.length ≤ 131073 := fun {ds s} hl hg => by
    obtain ⟨g1, g2⟩ := rgo_len _ [] _ 0 (fun d hd => by cases hd) hg
    have hll : (lns s).length ≤ s.length + 1 := lns_len s []
    refine ⟨by simp at g1; omega, fun d hd => ?_⟩
    have := g2 d hd
    omega
  have fin : ∀ (C : List HProp), Imp C ctx → ∀ (v1 v2 : Value) (k er : Int), (∀ f : Bool → WP, Ent e ctx (f true) → Ent e C (law31_told v1 fun t48 => ref31_SameRows t48 v2 fun t50 => f t50)) →
      Ent e C (oB (bS .eql 9 (.tmp 41) (.tmp 42) (.string (ba T.1)) (.string (ba T.1))) fun t43 =>
        condK t43 (condK (T.2 == T.2) (law31_told v1 fun t51 => ref31_SameRows t51 v2 fun t53 => condK t53 (condK (k == k) (condK (er == er) (law31_wakes fun t66 => K t66) (K false)) (K false)) (K false)) (K false)) (K false)) := fun C hC v1 v2 k er hf => by
    refine yesS rfl ?_
    refine Ent.wT ?_ (beq_self_eq_true _)
    refine hf _ ?_
    refine Ent.wT ?_
    refine Ent.wT ?_ (beq_self_eq_true _)
    refine Ent.wT ?_ (beq_self_eq_true _)
    exact wk _ _ (Imp.refl _) h
  have nul : ∀ (M' : Hp) (f : Bool → WP), Ent e ctx (f true) → Ent e (Sl.ro M' :: ctx) (law31_told (.slice none 0 0) fun t48 => ref31_SameRows t48 (.slice none 0 0) fun t50 => f t50) := fun M' f hf => by
    refine told_spec (R := ctx) (ys := []) (by simp) RdM.nil (fun y hy => by cases hy) fun us a11 c11 M11 hM11 hus hum => ?_
    obtain rfl : us = [] := by simpa using hus
    refine Ent.keepS fun M12 hM12 hr12 _ _ _ => ?_
    refine samerows_yes (M := M12) (R := ctx) (R' := ctx) (xs := []) (ys := []) (by simp) .hd hr12 RdM.nil (fun x hx => by cases hx) (fun x hx => by cases hx) (by (focus (repeat (first | exact Imp.refl _ | exact Imp.nil _ | apply Imp.drop)))) (by (focus (repeat (first | exact Imp.refl _ | exact Imp.nil _ | apply Imp.drop)))) rfl ?_
    exact hf.imp (by (focus (repeat (first | exact Imp.refl _ | exact Imp.nil _ | apply Imp.drop))))
  refine parserows_spec hs (hG.mono (by (focus (repeat (first | exact Imp.refl _ | exact Imp.nil _ | apply Imp.drop))))) (fun hb => ?_) (fun k x st M2 hb hx hst hno hM2 => ?_) fun rs a3 c3 M2 hb hrs hM2 hrsm => ?_
  · refine refparserows_spec hs (fun _ => ?_) (fun _ _ _ _ hb2 _ _ _ _ => absurd hb2 (by omega)) fun _ _ _ _ hb2 _ _ _ => absurd hb2 (by omega)
    exact fin _ (by (focus (repeat (first | exact Imp.refl _ | exact Imp.nil _ | apply Imp.drop)))) _ _ _ _ (nul _)
  · refine refparserows_spec hs (fun hb2 => absurd hb2 (by omega)) (fun k' x' st' M3 _ hx' hst' hno' _ => ?_) fun _ _ _ _ _ hg _ _ => absurd hno (rgo_no hg hx hst)
    obtain rfl : k' = k := Nat.le_antisymm (rgo_le hx hst hno hst') (rgo_le hx' hst' hno' hst)
    exact fin _ (by (focus (repeat (first | exact Imp.refl _ | exact Imp.nil _ | apply Imp.drop)))) _ _ _ _ (nul _)
  · refine Ent.keepS fun M3 hM3 hrz _ _ _ => ?_
    refine refparserows_spec hs (fun hb2 => absurd hb2 (by omega)) (fun k' x' st' M3 _ hx' hst' hno' _ => absurd hno' (rgo_no hrs hx' hst')) fun qs a5 c5 M4 _ hqs hM4 hqm => ?_
    obtain ⟨n1, n2⟩ := rsl hb hrs
    rw [hrs] at hqs
    have hq := Option.some.inj hqs
    rw [List.length_map] at n1
    have hql : qs.length = rs.length := by simpa using (congrArg List.length hq).symm
    refine Ent.keepS fun M5 hM5 hrw _ _ _ => ?_
    refine fin _ (by (focus (repeat (first | exact Imp.refl _ | exact Imp.nil _ | apply Imp.drop)))) _ _ _ _ fun f hf => ?_
    have l35 := Hp.le_trans hM4 hM5
    refine told_spec (R := [Sl.ro M3]) (ys := rs) (by omega) (hrz.mono l35) (fun y hy => ?_) fun us a11 c11 M11 hM11 hus hum => ?_
    · have hy3 := (hrsm y hy).mono hM3
      have hyn := n2 (dRw y) (List.mem_map.2 ⟨y, hy, rfl⟩)
      have e1 : (dRw y).2.2.length = y.l.length := by simp [dRw]
      exact ⟨hy3.b.er, hy3.r.mono l35, fun z hz => ⟨(hy3.b.l z hz).t, (hy3.b.l z hz).o, (hy3.b.l z hz).r.rd .hd⟩, by omega⟩
    refine Ent.keepS fun M12 hM12 hr12 _ _ _ => ?_
    have hul : us.length = rs.length := by simpa using congrArg List.length hus
    have l512 := Hp.le_trans hM11 hM12
    refine samerows_yes (M := M12) (R := [Sl.ro M3]) (R' := [Sl.ro M4]) (xs := us) (ys := qs) (by omega) .hd hr12 (hrw.mono l512) (fun x hx => (hum x hx).mono hM12) (fun x hx => ?_) ?_ ?_ (by rw [hus, hq]) ?_
    · have hxn := n2 (dDr x) (by rw [hq]; exact List.mem_map.2 ⟨x, hx, rfl⟩)
      have hxl := (hqm x hx).b.n
      have e1 : (dDr x).2.2.length = x.os.length := by simp [dDr, hxl]
      exact ((hqm x hx).d (by omega)).mono (Hp.le_trans hM5 l512)
    · exact Imp.trans (Imp.ro (Hp.le_trans l35 l512)) (Imp.cons (Imp.nil _))
    · exact Imp.trans (Imp.ro (Hp.le_trans hM5 l512)) (Imp.cons (Imp.nil _))
    exact hf.imp (by (focus (repeat (first | exact Imp.refl _ | exact Imp.nil _ | apply Imp.drop))))
end
section
variable {H : Type} {enc : TypeId × Value → H} {W : World}
theorem walk {H : Type} {enc : TypeId × Value → H} {W : World} (base : Nat) (args : Array Value) (ds : List (DataW H)) (hval : ∀ (j : Nat) t v, Tryz.f4.params[j]? = some t → args[j]? = some v → Value.okWide Tryz.prog W .any base t v)
    (hA : ∃ p, DataW.TrodAll enc P W 0 (fun _ => true) true Tryz.f4.params.toList args.toList ds p)
    (hL : laidMetH P Qa.laidL W) (hsh : W.ShapedOpen P) (hk : Rows.uptoBulkAll ds ≤ 1048576) :
    Calls P 4 args W fun e W' => e = .returned (.bool true) ∧ Below W.heap.size W W' := by
  obtain ⟨p, hA⟩ := hA
  have hp : Tryz.f4.params.toList = [38, 9] := rfl
  rw [hp] at hA
  obtain ⟨v0, vs0, d0, ds0, q0, hv0, rfl, t0, hA⟩ := Lift.tr_cons hA
  obtain ⟨v1, vs1, d1, ds1, q1, hv1, rfl, t1, hA⟩ := Lift.tr_cons hA
  obtain ⟨rfl, rfl⟩ := Lift.tr_nil hA
  simp only [Rows.uptoBulkAll] at hk
  obtain ⟨a, c, xs, h0, hn, hr, hxs, hsum⟩ := tr_drs rfl t0 (by omega)
  obtain ⟨t, h1, ht⟩ := Lift.tr_str rfl t1
  obtain ⟨l', rfl⟩ : ∃ l : List Value, args = l.toArray := ⟨args.toList, by simp⟩
  simp only [List.toList_toArray] at hv0
  subst hv0 hv1
  obtain rfl := Lift.val_slice rfl (hval 0 _ _ rfl rfl) h0
  obtain rfl := Lift.val_str rfl (hval 1 _ _ rfl rfl) h1
  exact Lift.calls_of fun K h => spec (by omega) hr hxs (by omega) (by omega) (gl_of hL hsh) h
end
theorem own : ownKnob Tryz.prog.godebug = none := by kernel_rfl
theorem contract (H : Type) (enc : TypeId × Value → H) (W : World) (base : Nat) (args : Array Value) (ds gs : List (DataW H)) (before : List MemPlace) (hval : ∀ (j : Nat) t v, Tryz.f4.params[j]? = some t → args[j]? = some v → Value.okWide Tryz.prog W .any base t v)
    (hW : DataW.Whole enc Tryz.prog Tryz.f4.params.toList Rows.shellRowsSpec.vars false W args.toList ds gs before) (hk : Rows.uptoBulkAll (ds ++ gs) ≤ 1048576) (hL : laidMetH Tryz.prog Qa.laidL W) (hsh : W.ShapedOpen Tryz.prog) :
    Calls Tryz.prog 4 args W fun e W' => ∃ v, e = .returned v ∧ Rows.shellRowsSpec.post enc Tryz.prog Tryz.f4 false true false false W args v W' := by
  have hgs : gs = [] := by
    obtain ⟨p, q, _, hV, _⟩ := hW
    cases gs <;> simp_all [DataW.TrodVars, Rows.shellRowsSpec]
  subst hgs
  rw [List.append_nil] at hk
  have hA : ∃ p, DataW.TrodAll enc P W 0 (fun _ => true) true Tryz.f4.params.toList args.toList ds p := by
    obtain ⟨p, q, hA, _⟩ := hW
    exact ⟨p, hA⟩
  refine (walk base args ds hval hA hL hsh hk).mono fun e W' ⟨he, hb⟩ => ?_
  exact ⟨_, he, Lift.law_post' (by kernel_rfl) rfl rfl rfl (fun ds h => by first | (rcases ds with _ | ⟨d1, _ | ⟨d2, _ | ⟨d3, _ | ⟨d4, ds⟩⟩⟩⟩ <;> first | rfl | (exfalso; simp [Tryz.f4] at h; done))) (by kernel_rfl) hW hb⟩
noncomputable def flat : Nat → DataW Unit → List Value
  | 0, _ => []
  | n + 1, .lit (.int k i) => [.int k i]
  | n + 1, .agg l => l.flatMap (flat n)
  | _, _ => []
noncomputable def lay (name : String) (d : DataW Unit) (h : Array Obj) : Array Obj := h.modify ((Tryz.prog.globalNamed name).getD 0) fun
  | .cells _ t frozen => .cells (flat 3 d).toArray t frozen
  | o => o
noncomputable def low : Nat := (World.holding Tryz.prog default ⟨#[], #[], []⟩).heap.size
noncomputable def layP (name : String) (b : Nat) (h : Array Obj) : Array Obj := h.modify ((Tryz.prog.globalNamed name).getD 0) fun
  | .cells _ t frozen => .cells #[.iface 182 (.pointer (some ⟨b, 0, none⟩))] t frozen
  | o => o
noncomputable def w0 (os : Os) : World := World.holding Tryz.prog os ⟨#[.cells #[.string (⟨#[118, 97, 108, 117, 101, 32, 111, 117, 116, 32, 111, 102, 32, 114, 97, 110, 103, 101]⟩ : ByteArray)] 184, .cells #[.string (⟨#[105, 110, 118, 97, 108, 105, 100, 32, 115, 121, 110, 116, 97, 120]⟩ : ByteArray)] 184], #[], []⟩
noncomputable def laidHeap (os : Os) : Array Obj :=
  layP "strconv.ErrRange" low <| layP "strconv.ErrSyntax" (low + 1) <| lay "unicode/utf8.first" Rows.laid_unicode_utf8_first <| lay "unicode/utf8.acceptRanges" Rows.laid_unicode_utf8_acceptRanges <|
      lay "internal/strconv.uint64pow10" Rows.laid_internal_strconv_uint64pow10 <| lay "math/bits.deBruijn32tab" Rows.laid_math_bits_deBruijn32tab <| lay "math/bits.deBruijn64tab" Rows.laid_math_bits_deBruijn64tab (w0 os).heap
/-- the settled world, the tables and the two errors laid -/
noncomputable def laidWorld (os : Os) : World :=
  { w0 os with heap := laidHeap os }
theorem laid_met (os : Os) : laidMet Tryz.prog Rows.shellRowsRow.laid ((laidWorld os).forCall (fun _ _ => 0) ⟨#[], #[.slice none 0 0, .string ⟨#[]⟩], []⟩).memory :=
  laidMet_of_run' 8 (by kernel_rfl) (by kernel_rfl)
theorem reads (os : Os) {H : Type} (enc : TypeId × Value → H) : ∃ places, DataW.whole enc Tryz.prog ((laidWorld os).forCall (fun _ _ => 0) ⟨#[], #[.slice none 0 0, .string ⟨#[]⟩], []⟩).memory Tryz.f4.params.toList Rows.shellRowsSpec.vars false #[.slice none 0 0, .string ⟨#[]⟩].toList 8 = some ([.nil, .lit (.string [])], [], places) :=
  ⟨[], by kernel_rfl⟩
set_option maxRecDepth 100000 in
theorem lifted (os : Os) (started : os.Started) (H : Type) (enc : TypeId × Value → H) (F : Stop.Interp) :
    ReturnsInHanded {} Tryz.checked os 4 .any ((Rows.OpenSpec.upto Rows.shellRowsSpec).preRow enc Tryz.prog Tryz.f4 Rows.shellRowsUptoRow.domain false Rows.shellRowsUptoRow.laid) (((Rows.OpenSpec.upto Rows.shellRowsSpec).at F).post enc Tryz.prog Tryz.f4 false true false false) := by
  obtain ⟨places, hx⟩ := reads os enc
  refine returnsInHanded_of_row (C := Tryz.checked) (s := Rows.OpenSpec.upto Rows.shellRowsSpec) own started (by kernel_rfl) Tryz.func4
    (witness_row_at (enc := enc) (C := Tryz.checked) false (laidWorld os) #[.slice none 0 0, .string ⟨#[]⟩] rfl (by kernel_rfl) (by kernel_rfl) (by kernel_rfl)
      (OpenSpec.preRow_of_cond 8 hx (by kernel_rfl) (fun k hk => by cases hk; kernel_rfl) (by kernel_rfl) (laid_met os))) ?_
  intro W base args ds gs before hval hW _ hcond _ hL hsh _
  exact contract H enc W base args ds gs before hval hW (of_decide_eq_true (hcond _ rfl)) hL hsh
theorem over : Rows.ShellRowsUptoSaid :=
  OpenClaim.holds_of_cond 4 Tryz.f4 rfl rfl rfl rfl rfl rfl rfl ⟨rfl, rfl, rfl, rfl, rfl⟩ rfl rfl rfl rfl rfl (by kernel_rfl) Tryz.func4 (by kernel_rfl)
    (of_decide_eq_true (by kernel_rfl)) (by unfold Func.isWrapper; first | (rw [if_pos (by decide +kernel)]; kernel_rfl) | (rw [if_neg (by decide +kernel)]; exact ⟨rfl, rfl⟩))
    (fun os started H enc _ F => by rw [OpenClaim.pre_eq_preRow]; exact lifted os started H enc F)
theorem plain (f : FuncId) (fn : Func) (hf : Tryz.pinned.checked.prog.funcNamed "tollhouse/tollhouselaw31.ShellRows" = some f) (hfn : Tryz.pinned.checked.prog.funcs[f]? = some fn) :
    true = Tryz.pinned.checked.prog.looks [] ∧ ∀ (j : Nat) t, fn.params[j]? = some t → Tryz.pinned.checked.prog.wantsStandIn t = false := by
  obtain rfl : f = 4 := Option.some.inj ((show Tryz.prog.funcNamed "tollhouse/tollhouselaw31.ShellRows" = some 4 by kernel_rfl).symm.trans hf) |>.symm
  obtain rfl : fn = Tryz.f4 := (Option.some.inj (Tryz.func4.symm.trans hfn)).symm
  refine ⟨by kernel_rfl, fun j t ht => ?_⟩
  have := List.all_eq_true.1 (show (Tryz.f4.params.toList.all fun t => !Tryz.prog.wantsStandIn t) = true by kernel_rfl) t (by simpa using Array.mem_of_getElem? ht)
  exact (by simpa using this : Tryz.prog.wantsStandIn t = false)
theorem proved : Rows.ShellRowsUptoCardSaid :=
  Claim7.holds_tied_plain_at .later [] _ _ _ _ over (fun _ h => by cases h) (by kernel_rfl) (fun _ h => by cases h) shellRowsUpto_row_tie rfl ⟨rfl, rfl⟩ (by kernel_rfl) rfl plain (by kernel_rfl)

end Go.Proofs.YtoneapgooihajaaGreatDoor.shellRows
