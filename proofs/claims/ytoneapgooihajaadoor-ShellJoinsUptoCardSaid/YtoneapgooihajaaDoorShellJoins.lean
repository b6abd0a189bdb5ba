/- ShellJoins: TWO TEXTS OF EVENTS, ONE BEHIND THE OTHER, ARE THE EVENTS OF BOTH; WHAT IS WRONG IS TOLD AT ITS LINE (any texts): within the bulk. -/
import Derived.Test.YtoneapgooihajaaDoorQp
import Derived.Test.YtoneapgooihajaaDoorGl
import Derived.Test.YtoneapgooihajaaDoorCards
import Derived.Test.YtoneapgooihajaaDoorTie
import Derived.Deep.DeepHandedRow
import Derived.Lib.LaidTab
set_option linter.unusedVariables false
set_option linter.unusedSimpArgs false
set_option maxRecDepth 100000
set_option maxHeartbeats 0
namespace Go.Proofs.YtoneapgooihajaaDoor.shellJoins
open Go Sh Sl Qa
open Go.ChangeShapes Go.WideShapes Go.ChangeAt Go.RowKit
section
attribute [local irreducible] condK ArK NilK OpK FnK StK joinK loopK DrawK andK PuK NxK EnK vS uS bS callS invokeS
variable {e : Env} {ctx rest : List HProp} {M : Hp}
theorem parse_any {K : Value → Int → Int → WP} {s : Bs} (hs : s.length ≤ 1048576) (hG : GL e rest) (h : ∀ v n er M', Hp.le M M' → Ent e (Sl.ro M' :: rest) (K v n er)) : Ent e (Sl.ro M :: rest) (shell_Parse (ba s) K) :=
  parse_spec hs hG (fun _ => h _ _ _ M (Hp.le_refl _)) (fun k x M' _ _ _ _ hM => h _ _ _ M' hM) fun xs a c M' _ _ _ hM _ => (h _ _ _ M' hM).drop
theorem spec {K : Bool → WP} {s t : Bs} (hs : s.length + t.length ≤ 1048576) (hG : GL e ctx) (h : Ent e ctx (K true)) :
    Ent e ctx (law31_ShellJoins (ba s) (ba t) K) := by
  (refine Ent.fn law31_ShellJoins_ok ?_; unfold law31_ShellJoins_sh)
  have z1 : ((ba s).size : Int) = (s.length : Int) := by simp [ByteArray.size]
  have z2 : ((ba t).size : Int) = (t.length : Int) := by simp [ByteArray.size]
  refine Ent.imp (ctx' := Sl.ro (fun _ => none) :: ctx) (fun hp k => ⟨fun _ => none, hp, fun _ => .inl rfl, (fun _ _ hh => by cases hh), Hp.le_refl _, (fun _ _ hh => by cases hh), k⟩) ?_
  obtain ⟨M0, hM0⟩ : ∃ M0 : Hp, M0 = fun _ => none := ⟨_, rfl⟩
  rw [← hM0]
  have wk : ∀ C : List HProp, Imp C ctx → Ent e C (law31_wakes fun t => K t) := fun C hC => wakes_spec (hG.mono hC) (h.imp hC)
  have hst : (s ++ t).length = s.length + t.length := List.length_append
  by_cases hbig : 131072 < s.length + t.length
  · refine parse_any (by omega) hG fun v1 n1 e1 M1 _ => ?_
    refine parse_any (by omega) hG fun v2 n2 e2 M2 _ => ?_
    refine addB (by omega) ?_
    refine parse_any (by omega) hG fun v3 n3 e3 M3 _ => ?_
    refine Ent.join1 (kd := .bool) (fun v => pur (v = true) :: ctx) ?_ ?_
    rotate_left
    · intro j1 hj1
      refine Ent.cond (fun _ => (hj1 _).imp (Imp.pur rfl (by (focus (repeat (first | exact Imp.refl _ | exact Imp.nil _ | apply Imp.drop)))))) fun _ => ?_
      refine Ent.wlenS ?_
      refine Ent.wlenS ?_
      rw [z1, z2]
      refine Ent.war ?_
      refine (hj1 _).imp (Imp.pur (decide_eq_true (by omega)) (by (focus (repeat (first | exact Imp.refl _ | exact Imp.nil _ | apply Imp.drop)))))
    intro v
    refine Ent.pur fun hv => ?_
    subst hv
    refine Ent.wT ?_
    exact wk _ (Imp.refl _)
  refine parse_spec (s := s) (by omega) hG (fun hh => absurd hh (by omega)) (fun k x M1 _ hx _ ho _ => ?_) fun xs a c M1 _ hoks hd hM1 hxs => ?_
  · refine parse_any (by omega) hG fun v2 n2 e2 M2 _ => ?_
    refine addB (by omega) ?_
    refine parse_any (by omega) hG fun v3 n3 e3 M3 _ => ?_
    refine Ent.join1 (kd := .bool) (fun v => pur (v = true) :: ctx) ?_ ?_
    rotate_left
    · intro j1 hj1
      refine Ent.wT ?_
      exact (hj1 _).imp (Imp.pur rfl (by (focus (repeat (first | exact Imp.refl _ | exact Imp.nil _ | apply Imp.drop)))))
    intro v
    refine Ent.pur fun hv => ?_
    subst hv
    refine Ent.wT ?_
    exact wk _ (Imp.refl _)
  have hxl : xs.length = (lns s).length := by simpa using congrArg List.length hd
  have hll := lns_len s []
  have hlt := lns_len t []
  have hxl2 : (lns s).length ≤ s.length + 1 := hll
  have htl2 : (lns t).length ≤ t.length + 1 := hlt
  refine Ent.keepS fun M2 hM2 hrx _ _ _ => ?_
  have hxs2 : ∀ x ∈ xs, EvM M2 x := fun x hx => (hxs x hx).mono hM2
  -- behind the test that lets it by
  have by_ : ∀ (C : List HProp) (r : WP), Ent e C r → Ent e C (joinK [(43, .bool)] (fun (j1 : Bool → WP) =>
      condK ((0 : Int) != 0) (j1 true) (len 9 3 (.string (ba s)) fun t38 => len 9 3 (.string (ba t)) fun t40 => ArK .i64 (t38 + t40) fun t41 => j1 (decide (t41 > 131072))))
      fun t43 => condK t43 (law31_wakes fun t44 => K t44) r) := fun C r hr => by
    refine Ent.join1 (kd := .bool) (fun v => pur (v = false) :: C) ?_ ?_
    rotate_left
    · intro j1 hj1
      refine Ent.wF ?_
      refine Ent.wlenS ?_
      refine Ent.wlenS ?_
      rw [z1, z2]
      refine Ent.war ?_
      refine (hj1 _).imp (Imp.pur (decide_eq_false (by omega)) (Imp.refl _))
    intro v
    refine Ent.pur fun hv => ?_
    subst hv
    refine Ent.wF ?_
    exact hr
  refine parse_spec (s := t) (by omega) hG (fun hh => absurd hh (by omega)) (fun k x M3 _ hx hok ho hM3 => ?_) fun ys a' c' M3 _ hokt hd' hM3 hys => ?_
  · refine addB (by omega) ?_
    refine parse_spec (s := s ++ t) (by omega) hG (fun hh => absurd hh (by omega)) (fun k' x' M4 _ hx' hok' ho' hM4 => ?_) fun zs a3 c3 M4 _ hoks' _ _ _ => absurd hoks' (joins_no hoks hx ho)
    refine by_ _ _ ?_
    refine Ent.join1 (kd := .bool) (fun v => pur (v = false) :: ctx) ?_ ?_
    rotate_left
    · intro j2 hj2
      refine Ent.wF ?_
      exact (hj2 _).imp (Imp.pur rfl (by (focus (repeat (first | exact Imp.refl _ | exact Imp.nil _ | apply Imp.drop)))))
    intro v
    refine Ent.pur fun hv => ?_
    subst hv
    refine Ent.wF ?_
    refine Ent.wF ?_
    refine Ent.wT ?_
    have hkl := (List.getElem?_eq_some_iff.1 hx).1
    refine Ent.wlen ?_
    refine Ent.war ?_
    have hk := joins_bad hoks hx hok ho hx' hok' ho'
    refine Ent.wT ?_ (beq_iff_eq.2 (by rw [hk, hxl]; omega))
    exact wk _ (Imp.refl _)
  have hyl : ys.length = (lns t).length := by simpa using congrArg List.length hd'
  refine Ent.keepS fun M4 hM4 hry _ _ _ => ?_
  have hys2 : ∀ x ∈ ys, EvM M4 x := fun x hx => (hys x hx).mono hM4
  refine addB (by omega) ?_
  refine parse_spec (s := s ++ t) (by omega) hG (fun hh => absurd hh (by omega)) (fun k' x' M5 _ hx' hok' ho' hM5 => absurd (joins_ok hoks hokt (List.mem_of_getElem? hx')) (by rw [ho']; decide)) fun zs a3 c3 M5 _ hokz hd3 hM5 hzs => ?_
  have hzl : zs.length = (lns (s ++ t)).length := by simpa using congrArg List.length hd3
  rw [lns_app hoks, List.length_append] at hzl
  refine Ent.keepS fun M6 hM6 hrz _ _ _ => ?_
  refine by_ _ _ ?_
  refine Ent.join1 (kd := .bool) (fun v => pur (v = false) :: ctx) ?_ ?_
  rotate_left
  · intro j2 hj2
    refine Ent.wT ?_
    refine Ent.wF ?_
    refine theirs_spec (xs := zs) (by omega) (hrz.rd .hd) fun a4 c4 => ?_
    refine Ent.keepS fun M7 hM7 hr4 _ _ _ => ?_
    have l27 := Hp.le_trans hM3 (Hp.le_trans hM4 (Hp.le_trans hM5 (Hp.le_trans hM6 hM7)))
    have l47 := Hp.le_trans hM5 (Hp.le_trans hM6 hM7)
    refine theirs_spec (xs := xs) (by omega) ((hrx.mono l27).rd .hd) fun a5 c5 => ?_
    refine Ent.imp (Imp.perm (.swap _ _ _)) ?_
    have hry7 := hry.mono l47
    refine theirs_spec (xs := ys) (by omega) (hry7.rd .hd) fun a6 c6 => ?_
    refine Ent.rdS fun r6 _ => ?_
    refine Ent.appN (sz := 4) (m := ys.length) (r6 _ .hd) (fun a7 c7 => ?_) (h1 := evcs_one _)
    have e1 : evcs xs ++ evcs ys = evcs (xs ++ ys) := (evcs_app _ _).symm
    have e2 : xs.length + ys.length = (xs ++ ys).length := (List.length_append).symm
    rw [e1, e2]
    refine Ent.imp (ctx' := SlO a7 (xs ++ ys).length c7 4 (evcs (xs ++ ys)) :: Sl.ro M7 :: ctx) (by (focus ((repeat ((with_reducible apply Imp.pick); (repeat (first | exact Pick.hd | apply Pick.tl)))); (repeat (first | exact Imp.refl _ | exact Imp.nil _ | apply Imp.drop)); done))) ?_
    refine Ent.keepS fun M8 hM8 hr7 _ _ _ => ?_
    have l28 := Hp.le_trans l27 hM8
    have l48 := Hp.le_trans l47 hM8
    refine same_spec (xs := zs) (ys := xs ++ ys) (M := M8) (by omega) (by rw [← e2]; omega) (hr4.mono hM8) hr7 (fun x hx => (hzs x hx).mono (Hp.le_trans hM6 (Hp.le_trans hM7 hM8))) (fun x hx => ?_) .hd ?_
    · rcases List.mem_append.1 hx with hx | hx
      · exact (hxs2 x hx).mono l28
      · exact (hys2 x hx).mono l48
    rw [lns_app hoks, List.map_append] at hd3
    rw [decide_eq_true (by rw [List.map_append, hd, hd', hd3])]
    exact (hj2 _).imp (Imp.pur rfl (by (focus (repeat (first | exact Imp.refl _ | exact Imp.nil _ | apply Imp.drop)))))
  intro v
  refine Ent.pur fun hv => ?_
  subst hv
  refine Ent.wF ?_
  refine Ent.wT ?_
  exact wk _ (Imp.refl _)
end
section
variable {H : Type} {enc : TypeId × Value → H} {W : World}
theorem walk {H : Type} {enc : TypeId × Value → H} {W : World} (base : Nat) (args : Array Value) (ds : List (DataW H)) (hval : ∀ (j : Nat) t v, Tryd.f5.params[j]? = some t → args[j]? = some v → Value.okWide Tryd.prog W .any base t v)
    (hA : ∃ p, DataW.TrodAll enc P W 0 (fun _ => true) true Tryd.f5.params.toList args.toList ds p)
    (hL : laidMetH P Qa.laidL W) (hsh : W.ShapedOpen P) (hk : Rows.uptoBulkAll ds ≤ 1048576) :
    Calls P 5 args W fun e W' => e = .returned (.bool true) ∧ Below W.heap.size W W' := by
  obtain ⟨p, hA⟩ := hA
  have hp : Tryd.f5.params.toList = [9, 9] := rfl
  rw [hp] at hA
  obtain ⟨v0, vs0, d0, ds0, q0, hv0, rfl, t0, hA⟩ := Lift.tr_cons hA
  obtain ⟨v1, vs1, d1, ds1, q1, hv1, rfl, t1, hA⟩ := Lift.tr_cons hA
  obtain ⟨rfl, rfl⟩ := Lift.tr_nil hA
  simp only [Rows.uptoBulkAll] at hk
  obtain ⟨s, h0, hs⟩ := Lift.tr_str rfl t0
  obtain ⟨t, h1, ht⟩ := Lift.tr_str rfl t1
  obtain ⟨l', rfl⟩ : ∃ l : List Value, args = l.toArray := ⟨args.toList, by simp⟩
  simp only [List.toList_toArray] at hv0
  subst hv0 hv1
  obtain rfl := Lift.val_str rfl (hval 0 _ _ rfl rfl) h0
  obtain rfl := Lift.val_str rfl (hval 1 _ _ rfl rfl) h1
  exact Lift.calls_of fun K h => spec (by omega) (gl_of hL hsh) h
end
theorem own : ownKnob Tryd.prog.godebug = none := by kernel_rfl
theorem contract (H : Type) (enc : TypeId × Value → H) (W : World) (base : Nat) (args : Array Value) (ds gs : List (DataW H)) (before : List MemPlace) (hval : ∀ (j : Nat) t v, Tryd.f5.params[j]? = some t → args[j]? = some v → Value.okWide Tryd.prog W .any base t v)
    (hW : DataW.Whole enc Tryd.prog Tryd.f5.params.toList Rows.shellJoinsSpec.vars false W args.toList ds gs before) (hk : Rows.uptoBulkAll (ds ++ gs) ≤ 1048576) (hL : laidMetH Tryd.prog Qa.laidL W) (hsh : W.ShapedOpen Tryd.prog) :
    Calls Tryd.prog 5 args W fun e W' => ∃ v, e = .returned v ∧ Rows.shellJoinsSpec.post enc Tryd.prog Tryd.f5 false true false false W args v W' := by
  have hgs : gs = [] := by
    obtain ⟨p, q, _, hV, _⟩ := hW
    cases gs <;> simp_all [DataW.TrodVars, Rows.shellJoinsSpec]
  subst hgs
  rw [List.append_nil] at hk
  have hA : ∃ p, DataW.TrodAll enc P W 0 (fun _ => true) true Tryd.f5.params.toList args.toList ds p := by
    obtain ⟨p, q, hA, _⟩ := hW
    exact ⟨p, hA⟩
  refine (walk base args ds hval hA hL hsh hk).mono fun e W' ⟨he, hb⟩ => ?_
  exact ⟨_, he, Lift.law_post' (by kernel_rfl) rfl rfl rfl (fun ds h => by first | (rcases ds with _ | ⟨d1, _ | ⟨d2, _ | ⟨d3, _ | ⟨d4, ds⟩⟩⟩⟩ <;> first | rfl | (exfalso; simp [Tryd.f5] at h; done))) (by kernel_rfl) hW hb⟩
noncomputable def flat : Nat → DataW Unit → List Value
  | 0, _ => []
  | n + 1, .lit (.int k i) => [.int k i]
  | n + 1, .agg l => l.flatMap (flat n)
  | _, _ => []
noncomputable def lay (name : String) (d : DataW Unit) (h : Array Obj) : Array Obj := h.modify ((Tryd.prog.globalNamed name).getD 0) fun
  | .cells _ t frozen => .cells (flat 3 d).toArray t frozen
  | o => o
noncomputable def low : Nat := (World.holding Tryd.prog default ⟨#[], #[], []⟩).heap.size
noncomputable def layP (name : String) (b : Nat) (h : Array Obj) : Array Obj := h.modify ((Tryd.prog.globalNamed name).getD 0) fun
  | .cells _ t frozen => .cells #[.iface 151 (.pointer (some ⟨b, 0, none⟩))] t frozen
  | o => o
noncomputable def w0 (os : Os) : World := World.holding Tryd.prog os ⟨#[.cells #[.string (⟨#[118, 97, 108, 117, 101, 32, 111, 117, 116, 32, 111, 102, 32, 114, 97, 110, 103, 101]⟩ : ByteArray)] 153, .cells #[.string (⟨#[105, 110, 118, 97, 108, 105, 100, 32, 115, 121, 110, 116, 97, 120]⟩ : ByteArray)] 153], #[], []⟩
noncomputable def laidHeap (os : Os) : Array Obj :=
  layP "strconv.ErrRange" low <| layP "strconv.ErrSyntax" (low + 1) <| lay "unicode/utf8.first" Rows.laid_unicode_utf8_first <| lay "unicode/utf8.acceptRanges" Rows.laid_unicode_utf8_acceptRanges <|
      lay "internal/strconv.uint64pow10" Rows.laid_internal_strconv_uint64pow10 <| lay "math/bits.deBruijn32tab" Rows.laid_math_bits_deBruijn32tab <| lay "math/bits.deBruijn64tab" Rows.laid_math_bits_deBruijn64tab (w0 os).heap
/-- the settled world, the tables and the two errors laid -/
noncomputable def laidWorld (os : Os) : World :=
  { w0 os with heap := laidHeap os }
theorem laid_met (os : Os) : laidMet Tryd.prog Rows.shellJoinsRow.laid ((laidWorld os).forCall (fun _ _ => 0) ⟨#[], #[.string ⟨#[]⟩, .string ⟨#[]⟩], []⟩).memory :=
  laidMet_of_run' 8 (by kernel_rfl) (by kernel_rfl)
theorem reads (os : Os) {H : Type} (enc : TypeId × Value → H) : ∃ places, DataW.whole enc Tryd.prog ((laidWorld os).forCall (fun _ _ => 0) ⟨#[], #[.string ⟨#[]⟩, .string ⟨#[]⟩], []⟩).memory Tryd.f5.params.toList Rows.shellJoinsSpec.vars false #[.string ⟨#[]⟩, .string ⟨#[]⟩].toList 8 = some ([.lit (.string []), .lit (.string [])], [], places) :=
  ⟨[], by kernel_rfl⟩
set_option maxRecDepth 100000 in
theorem lifted (os : Os) (started : os.Started) (H : Type) (enc : TypeId × Value → H) (F : Stop.Interp) :
    ReturnsInHanded {} Tryd.checked os 5 .any ((Rows.OpenSpec.upto Rows.shellJoinsSpec).preRow enc Tryd.prog Tryd.f5 Rows.shellJoinsUptoRow.domain false Rows.shellJoinsUptoRow.laid) (((Rows.OpenSpec.upto Rows.shellJoinsSpec).at F).post enc Tryd.prog Tryd.f5 false true false false) := by
  obtain ⟨places, hx⟩ := reads os enc
  refine returnsInHanded_of_row (C := Tryd.checked) (s := Rows.OpenSpec.upto Rows.shellJoinsSpec) own started (by kernel_rfl) Tryd.func5
    (witness_row_at (enc := enc) (C := Tryd.checked) false (laidWorld os) #[.string ⟨#[]⟩, .string ⟨#[]⟩] rfl (by kernel_rfl) (by kernel_rfl) (by kernel_rfl)
      (OpenSpec.preRow_of_cond 8 hx (by kernel_rfl) (fun k hk => by cases hk; kernel_rfl) (by kernel_rfl) (laid_met os))) ?_
  intro W base args ds gs before hval hW _ hcond _ hL hsh _
  exact contract H enc W base args ds gs before hval hW (of_decide_eq_true (hcond _ rfl)) hL hsh
theorem over : Rows.ShellJoinsUptoSaid :=
  OpenClaim.holds_of_cond 5 Tryd.f5 rfl rfl rfl rfl rfl rfl rfl ⟨rfl, rfl, rfl, rfl, rfl⟩ rfl rfl rfl rfl rfl (by kernel_rfl) Tryd.func5 (by kernel_rfl)
    (of_decide_eq_true (by kernel_rfl)) (by unfold Func.isWrapper; first | (rw [if_pos (by decide +kernel)]; kernel_rfl) | (rw [if_neg (by decide +kernel)]; exact ⟨rfl, rfl⟩))
    (fun os started H enc _ F => by rw [OpenClaim.pre_eq_preRow]; exact lifted os started H enc F)
theorem plain (f : FuncId) (fn : Func) (hf : Tryd.pinned.checked.prog.funcNamed "tollhouse/tollhouselaw31.ShellJoins" = some f) (hfn : Tryd.pinned.checked.prog.funcs[f]? = some fn) :
    true = Tryd.pinned.checked.prog.looks [] ∧ ∀ (j : Nat) t, fn.params[j]? = some t → Tryd.pinned.checked.prog.wantsStandIn t = false := by
  obtain rfl : f = 5 := Option.some.inj ((show Tryd.prog.funcNamed "tollhouse/tollhouselaw31.ShellJoins" = some 5 by kernel_rfl).symm.trans hf) |>.symm
  obtain rfl : fn = Tryd.f5 := (Option.some.inj (Tryd.func5.symm.trans hfn)).symm
  refine ⟨by kernel_rfl, fun j t ht => ?_⟩
  have := List.all_eq_true.1 (show (Tryd.f5.params.toList.all fun t => !Tryd.prog.wantsStandIn t) = true by kernel_rfl) t (by simpa using Array.mem_of_getElem? ht)
  exact (by simpa using this : Tryd.prog.wantsStandIn t = false)
theorem proved : Rows.ShellJoinsUptoCardSaid :=
  Claim7.holds_tied_plain_at .later [] _ _ _ _ over (fun _ h => by cases h) (by kernel_rfl) (fun _ h => by cases h) shellJoinsUpto_row_tie rfl ⟨rfl, rfl⟩ (by kernel_rfl) rfl plain (by kernel_rfl)

end Go.Proofs.YtoneapgooihajaaDoor.shellJoins
