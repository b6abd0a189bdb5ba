/- ShellEvents: ANY EVENTS AS LINES, ANY TEXT AS EVENTS: within the bulk. -/
import Derived.Test.YtoneapgooihajaaGreatDoorUe
import Derived.Test.YtoneapgooihajaaGreatDoorRa
import Derived.Test.YtoneapgooihajaaGreatDoorGl
import Derived.Test.YtoneapgooihajaaGreatDoorCards
import Derived.Test.YtoneapgooihajaaGreatDoorTie
import Derived.Deep.DeepHandedRow
import Derived.Lib.LaidTab
set_option linter.unusedVariables false
set_option linter.unusedSimpArgs false
set_option maxRecDepth 100000
set_option maxHeartbeats 0
namespace Go.Proofs.YtoneapgooihajaaGreatDoor.shellEvents
open Go Sh Sl Qa
open Go.ChangeShapes Go.WideShapes Go.ChangeAt Go.RowKit
theorem one_bad {s : Bs} {k k' : Nat} {x x' : Bs} (h1 : (lns s)[k]? = some x) (h2 : okTo s k) (h3 : evOk x = false) (h4 : (lns s)[k']? = some x') (h5 : okTo s k') (h6 : evOk x' = false) : k' = k := by
  have := joins_bad (s := []) (fun x hx => by simp [lns, lnsA] at hx) h1 h2 h3 h4 h5 h6
  have e : (lns []).length = 0 := rfl
  omega
theorem all_bad {s : Bs} {k : Nat} {x : Bs} (h1 : (lns s)[k]? = some x) (h3 : evOk x = false) : ¬ okTo s (lns s).length := fun h => by
  have := h x (by rw [List.take_length]; exact List.mem_of_getElem? h1)
  rw [h3] at this; cases this
section
attribute [local irreducible] condK ArK NilK OpK FnK StK joinK loopK DrawK andK PuK NxK EnK vS uS bS callS invokeS
variable {e : Env} {ctx rest : List HProp} {M : Hp}
theorem spec {K : Bool → WP} {xs : List Ev} {a : Option Addr} {c : Nat} {s : Bs} (hn : xs.length ≤ 1048576) (hr : Rd ctx a (evcs xs)) (hxs : ∀ x ∈ xs, EvR x ∧ Rd ctx x.a (u8 x.b)) (hs : s.length ≤ 1048576) (hG : GL e ctx) (h : Ent e ctx (K true)) :
    Ent e ctx (law31_ShellEvents (.slice a xs.length c) (ba s) K) := by
  (refine Ent.fn law31_ShellEvents_ok ?_; unfold law31_ShellEvents_sh)
  refine Ent.imp (ctx' := Sl.ro (fun _ => none) :: ctx) (fun hp k => ⟨fun _ => none, hp, fun _ => .inl rfl, (fun _ _ hh => by cases hh), Hp.le_refl _, (fun _ _ hh => by cases hh), k⟩) ?_
  obtain ⟨M0, hM0⟩ : ∃ M0 : Hp, M0 = fun _ => none := ⟨_, rfl⟩
  rw [← hM0]
  have wk : ∀ C : List HProp, Imp C ctx → Ent e C (law31_wakes fun t => K t) := fun C hC => wakes_spec (hG.mono hC) (h.imp hC)
  refine ours_spec (xs := xs) (by omega) hr hxs fun ys a2 c2 M1 _ hy hyM => ?_
  have hyl : ys.length = xs.length := by simpa using congrArg List.length hy
  refine Ent.rdS fun r2 _ => ?_
  refine text_spec (xs := ys) (by omega) (r2 _ .hd) (fun y hy => ⟨(hyM y hy).b, (hyM y hy).r.rd (.tl .hd)⟩) (hG.mono (by (focus (repeat (first | exact Imp.refl _ | exact Imp.nil _ | apply Imp.drop))))) ?_
  refine reftext_spec (xs := xs) (by omega) (hr.mono (by (focus (repeat (first | exact Imp.refl _ | exact Imp.nil _ | apply Imp.drop))))) (fun x hx => ⟨(hxs x hx).1, (hxs x hx).2.mono (by (focus (repeat (first | exact Imp.refl _ | exact Imp.nil _ | apply Imp.drop))))⟩) ?_
  rw [hy]
  refine Ent.imp (ctx' := Sl.ro M1 :: ctx) (by (focus ((repeat ((with_reducible apply Imp.pick); (repeat (first | exact Pick.hd | apply Pick.tl)))); (repeat (first | exact Imp.refl _ | exact Imp.nil _ | apply Imp.drop)); done))) ?_
  have fin : ∀ (C : List HProp), Imp C ctx → ∀ (v1 v2 : Value) (k : Int) (er : Int), (∀ f : Bool → WP, Ent e ctx (f true) → Ent e C (law31_theirs v1 fun t48 => ref31_Same t48 v2 fun t50 => f t50)) →
      Ent e C (oB (bS .eql 9 (.tmp 38) (.tmp 39) (.string (ba (evText (xs.map dEv)).1)) (.string (ba (evText (xs.map dEv)).1))) fun t40 =>
        condK t40 (condK ((evText (xs.map dEv)).2 == (evText (xs.map dEv)).2) (law31_theirs v1 fun t48 => ref31_Same t48 v2 fun t50 => condK t50 (condK (k == k) (condK (er == er) (law31_wakes fun t63 => K t63) (K false)) (K false)) (K false)) (K false)) (K false)) := fun C hC v1 v2 k er hf => by
    refine yesS rfl ?_
    refine Ent.wT ?_ (beq_self_eq_true _)
    refine hf _ ?_
    refine Ent.wT ?_
    refine Ent.wT ?_ (beq_self_eq_true _)
    refine Ent.wT ?_ (beq_self_eq_true _)
    exact wk _ (Imp.refl _)
  have nul : ∀ (M' : Hp) (f : Bool → WP), Ent e ctx (f true) → Ent e (Sl.ro M' :: ctx) (law31_theirs (.slice none 0 0) fun t48 => ref31_Same t48 (.slice none 0 0) fun t50 => f t50) := fun M' f hf => by
    refine theirs_spec (xs := []) (by simp) (Rd.nil _) fun a4 c4 => ?_
    refine Ent.keepS fun M7 hM7 hr4 _ _ _ => ?_
    refine same_spec (xs := []) (ys := []) (M := M7) (by simp) (by simp) hr4 RdM.nil (fun x hx => by cases hx) (fun x hx => by cases hx) .hd ?_
    exact hf.imp (by (focus (repeat (first | exact Imp.refl _ | exact Imp.nil _ | apply Imp.drop))))
  refine parse_spec hs (hG.mono (by (focus (repeat (first | exact Imp.refl _ | exact Imp.nil _ | apply Imp.drop))))) (fun hb => ?_) (fun k x M2 hb hx hok ho hM2 => ?_) fun zs a3 c3 M2 hb hok hd hM2 hzs => ?_
  · refine refparse_spec hs (fun _ => ?_) (fun _ _ _ hb2 _ _ _ _ => absurd hb2 (by omega)) fun _ _ _ _ hb2 _ _ _ _ => absurd hb2 (by omega)
    exact fin _ (by (focus (repeat (first | exact Imp.refl _ | exact Imp.nil _ | apply Imp.drop)))) _ _ _ _ (nul _)
  · refine refparse_spec hs (fun hb2 => absurd hb2 (by omega)) (fun k' x' M3 _ hx' hok' ho' _ => ?_) fun _ _ _ _ _ hok' _ _ _ => absurd hok' (all_bad hx ho)
    rw [one_bad hx hok ho hx' hok' ho']
    exact fin _ (by (focus (repeat (first | exact Imp.refl _ | exact Imp.nil _ | apply Imp.drop)))) _ _ _ _ (nul _)
  · refine Ent.keepS fun M3 hM3 hrz _ _ _ => ?_
    refine refparse_spec hs (fun hb2 => absurd hb2 (by omega)) (fun k' x' M3 _ hx' hok' ho' _ => absurd hok (all_bad hx' ho')) fun ws a5 c5 M4 _ hok' hd' hM4 hws => ?_
    have hzl : zs.length = (lns s).length := by simpa using congrArg List.length hd
    have hwl : ws.length = (lns s).length := by simpa using congrArg List.length hd'
    have hll : (lns s).length ≤ s.length + 1 := lns_len s []
    refine Ent.keepS fun M5 hM5 hrw _ _ _ => ?_
    refine fin _ (by (focus (repeat (first | exact Imp.refl _ | exact Imp.nil _ | apply Imp.drop)))) _ _ _ _ fun f hf => ?_
    refine theirs_spec (xs := zs) (by omega) ((hrz.mono (Hp.le_trans hM4 hM5)).rd .hd) fun a6 c6 => ?_
    refine Ent.keepS fun M6 hM6 hr6 _ _ _ => ?_
    refine same_spec (xs := zs) (ys := ws) (M := M6) (by omega) (by omega) hr6 (hrw.mono hM6) (fun x hx => (hzs x hx).mono (Hp.le_trans hM3 (Hp.le_trans hM4 (Hp.le_trans hM5 hM6)))) (fun x hx => (hws x hx).mono (Hp.le_trans hM5 hM6)) .hd ?_
    rw [decide_eq_true (hd.trans hd'.symm)]
    exact hf.imp (by (focus (repeat (first | exact Imp.refl _ | exact Imp.nil _ | apply Imp.drop))))
end
section
variable {H : Type} {enc : TypeId × Value → H} {W : World}
theorem walk {H : Type} {enc : TypeId × Value → H} {W : World} (base : Nat) (args : Array Value) (ds : List (DataW H)) (hval : ∀ (j : Nat) t v, Tryz.f3.params[j]? = some t → args[j]? = some v → Value.okWide Tryz.prog W .any base t v)
    (hA : ∃ p, DataW.TrodAll enc P W 0 (fun _ => true) true Tryz.f3.params.toList args.toList ds p)
    (hL : laidMetH P Qa.laidL W) (hsh : W.ShapedOpen P) (hk : Rows.uptoBulkAll ds ≤ 1048576) :
    Calls P 3 args W fun e W' => e = .returned (.bool true) ∧ Below W.heap.size W W' := by
  obtain ⟨p, hA⟩ := hA
  have hp : Tryz.f3.params.toList = [22, 9] := rfl
  rw [hp] at hA
  obtain ⟨v0, vs0, d0, ds0, q0, hv0, rfl, t0, hA⟩ := Lift.tr_cons hA
  obtain ⟨v1, vs1, d1, ds1, q1, hv1, rfl, t1, hA⟩ := Lift.tr_cons hA
  obtain ⟨rfl, rfl⟩ := Lift.tr_nil hA
  simp only [Rows.uptoBulkAll] at hk
  obtain ⟨a, c, xs, h0, hn, hr, hxs⟩ := tr_evs rfl t0 (by omega)
  obtain ⟨t, h1, ht⟩ := Lift.tr_str rfl t1
  obtain ⟨l', rfl⟩ : ∃ l : List Value, args = l.toArray := ⟨args.toList, by simp⟩
  simp only [List.toList_toArray] at hv0
  subst hv0 hv1
  obtain rfl := Lift.val_slice rfl (hval 0 _ _ rfl rfl) h0
  obtain rfl := Lift.val_str rfl (hval 1 _ _ rfl rfl) h1
  exact Lift.calls_of fun K h => spec (by omega) hr hxs (by omega) (gl_of hL hsh) h
end
theorem own : ownKnob Tryz.prog.godebug = none := by kernel_rfl
theorem contract (H : Type) (enc : TypeId × Value → H) (W : World) (base : Nat) (args : Array Value) (ds gs : List (DataW H)) (before : List MemPlace) (hval : ∀ (j : Nat) t v, Tryz.f3.params[j]? = some t → args[j]? = some v → Value.okWide Tryz.prog W .any base t v)
    (hW : DataW.Whole enc Tryz.prog Tryz.f3.params.toList Rows.shellEventsSpec.vars false W args.toList ds gs before) (hk : Rows.uptoBulkAll (ds ++ gs) ≤ 1048576) (hL : laidMetH Tryz.prog Qa.laidL W) (hsh : W.ShapedOpen Tryz.prog) :
    Calls Tryz.prog 3 args W fun e W' => ∃ v, e = .returned v ∧ Rows.shellEventsSpec.post enc Tryz.prog Tryz.f3 false true false false W args v W' := by
  have hgs : gs = [] := by
    obtain ⟨p, q, _, hV, _⟩ := hW
    cases gs <;> simp_all [DataW.TrodVars, Rows.shellEventsSpec]
  subst hgs
  rw [List.append_nil] at hk
  have hA : ∃ p, DataW.TrodAll enc P W 0 (fun _ => true) true Tryz.f3.params.toList args.toList ds p := by
    obtain ⟨p, q, hA, _⟩ := hW
    exact ⟨p, hA⟩
  refine (walk base args ds hval hA hL hsh hk).mono fun e W' ⟨he, hb⟩ => ?_
  exact ⟨_, he, Lift.law_post' (by kernel_rfl) rfl rfl rfl (fun ds h => by first | (rcases ds with _ | ⟨d1, _ | ⟨d2, _ | ⟨d3, _ | ⟨d4, ds⟩⟩⟩⟩ <;> first | rfl | (exfalso; simp [Tryz.f3] at h; done))) (by kernel_rfl) hW hb⟩
noncomputable def flat : Nat → DataW Unit → List Value
  | 0, _ => []
  | n + 1, .lit (.int k i) => [.int k i]
  | n + 1, .agg l => l.flatMap (flat n)
  | _, _ => []
noncomputable def lay (name : String) (d : DataW Unit) (h : Array Obj) : Array Obj := h.modify ((Tryz.prog.globalNamed name).getD 0) fun
  | .cells _ t frozen => .cells (flat 3 d).toArray t frozen
  | o => o
noncomputable def low : Nat := (World.holding Tryz.prog default ⟨#[], #[], []⟩).heap.size
noncomputable def layP (name : String) (b : Nat) (h : Array Obj) : Array Obj := h.modify ((Tryz.prog.globalNamed name).getD 0) fun
  | .cells _ t frozen => .cells #[.iface 182 (.pointer (some ⟨b, 0, none⟩))] t frozen
  | o => o
noncomputable def w0 (os : Os) : World := World.holding Tryz.prog os ⟨#[.cells #[.string (⟨#[118, 97, 108, 117, 101, 32, 111, 117, 116, 32, 111, 102, 32, 114, 97, 110, 103, 101]⟩ : ByteArray)] 184, .cells #[.string (⟨#[105, 110, 118, 97, 108, 105, 100, 32, 115, 121, 110, 116, 97, 120]⟩ : ByteArray)] 184], #[], []⟩
noncomputable def laidHeap (os : Os) : Array Obj :=
  layP "strconv.ErrRange" low <| layP "strconv.ErrSyntax" (low + 1) <| lay "unicode/utf8.first" Rows.laid_unicode_utf8_first <| lay "unicode/utf8.acceptRanges" Rows.laid_unicode_utf8_acceptRanges <|
      lay "internal/strconv.uint64pow10" Rows.laid_internal_strconv_uint64pow10 <| lay "math/bits.deBruijn32tab" Rows.laid_math_bits_deBruijn32tab <| lay "math/bits.deBruijn64tab" Rows.laid_math_bits_deBruijn64tab (w0 os).heap
/-- the settled world, the tables and the two errors laid -/
noncomputable def laidWorld (os : Os) : World :=
  { w0 os with heap := laidHeap os }
theorem laid_met (os : Os) : laidMet Tryz.prog Rows.shellEventsRow.laid ((laidWorld os).forCall (fun _ _ => 0) ⟨#[], #[.slice none 0 0, .string ⟨#[]⟩], []⟩).memory :=
  laidMet_of_run' 8 (by kernel_rfl) (by kernel_rfl)
theorem reads (os : Os) {H : Type} (enc : TypeId × Value → H) : ∃ places, DataW.whole enc Tryz.prog ((laidWorld os).forCall (fun _ _ => 0) ⟨#[], #[.slice none 0 0, .string ⟨#[]⟩], []⟩).memory Tryz.f3.params.toList Rows.shellEventsSpec.vars false #[.slice none 0 0, .string ⟨#[]⟩].toList 8 = some ([.nil, .lit (.string [])], [], places) :=
  ⟨[], by kernel_rfl⟩
set_option maxRecDepth 100000 in
theorem lifted (os : Os) (started : os.Started) (H : Type) (enc : TypeId × Value → H) (F : Stop.Interp) :
    ReturnsInHanded {} Tryz.checked os 3 .any ((Rows.OpenSpec.upto Rows.shellEventsSpec).preRow enc Tryz.prog Tryz.f3 Rows.shellEventsUptoRow.domain false Rows.shellEventsUptoRow.laid) (((Rows.OpenSpec.upto Rows.shellEventsSpec).at F).post enc Tryz.prog Tryz.f3 false true false false) := by
  obtain ⟨places, hx⟩ := reads os enc
  refine returnsInHanded_of_row (C := Tryz.checked) (s := Rows.OpenSpec.upto Rows.shellEventsSpec) own started (by kernel_rfl) Tryz.func3
    (witness_row_at (enc := enc) (C := Tryz.checked) false (laidWorld os) #[.slice none 0 0, .string ⟨#[]⟩] rfl (by kernel_rfl) (by kernel_rfl) (by kernel_rfl)
      (OpenSpec.preRow_of_cond 8 hx (by kernel_rfl) (fun k hk => by cases hk; kernel_rfl) (by kernel_rfl) (laid_met os))) ?_
  intro W base args ds gs before hval hW _ hcond _ hL hsh _
  exact contract H enc W base args ds gs before hval hW (of_decide_eq_true (hcond _ rfl)) hL hsh
theorem over : Rows.ShellEventsUptoSaid :=
  OpenClaim.holds_of_cond 3 Tryz.f3 rfl rfl rfl rfl rfl rfl rfl ⟨rfl, rfl, rfl, rfl, rfl⟩ rfl rfl rfl rfl rfl (by kernel_rfl) Tryz.func3 (by kernel_rfl)
    (of_decide_eq_true (by kernel_rfl)) (by unfold Func.isWrapper; first | (rw [if_pos (by decide +kernel)]; kernel_rfl) | (rw [if_neg (by decide +kernel)]; exact ⟨rfl, rfl⟩))
    (fun os started H enc _ F => by rw [OpenClaim.pre_eq_preRow]; exact lifted os started H enc F)
theorem plain (f : FuncId) (fn : Func) (hf : Tryz.pinned.checked.prog.funcNamed "tollhouse/tollhouselaw31.ShellEvents" = some f) (hfn : Tryz.pinned.checked.prog.funcs[f]? = some fn) :
    true = Tryz.pinned.checked.prog.looks [] ∧ ∀ (j : Nat) t, fn.params[j]? = some t → Tryz.pinned.checked.prog.wantsStandIn t = false := by
  obtain rfl : f = 3 := Option.some.inj ((show Tryz.prog.funcNamed "tollhouse/tollhouselaw31.ShellEvents" = some 3 by kernel_rfl).symm.trans hf) |>.symm
  obtain rfl : fn = Tryz.f3 := (Option.some.inj (Tryz.func3.symm.trans hfn)).symm
  refine ⟨by kernel_rfl, fun j t ht => ?_⟩
  have := List.all_eq_true.1 (show (Tryz.f3.params.toList.all fun t => !Tryz.prog.wantsStandIn t) = true by kernel_rfl) t (by simpa using Array.mem_of_getElem? ht)
  exact (by simpa using this : Tryz.prog.wantsStandIn t = false)
theorem proved : Rows.ShellEventsUptoCardSaid :=
  Claim7.holds_tied_plain_at .later [] _ _ _ _ over (fun _ h => by cases h) (by kernel_rfl) (fun _ h => by cases h) shellEventsUpto_row_tie rfl ⟨rfl, rfl⟩ (by kernel_rfl) rfl plain (by kernel_rfl)

end Go.Proofs.YtoneapgooihajaaGreatDoor.shellEvents
