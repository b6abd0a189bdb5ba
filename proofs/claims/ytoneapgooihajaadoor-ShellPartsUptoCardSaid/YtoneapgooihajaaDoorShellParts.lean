/- ShellParts: A WORD IS TOLD APART FROM WHATEVER STANDS BEHIND IT (any bytes, any texts): within the bulk. -/
import Derived.Test.YtoneapgooihajaaDoorGl
import Derived.Test.YtoneapgooihajaaDoorCards
import Derived.Test.YtoneapgooihajaaDoorTie
import Derived.Deep.DeepHandedRow
import Derived.Lib.LaidTab
set_option linter.unusedVariables false
set_option linter.unusedSimpArgs false
set_option maxRecDepth 100000
set_option maxHeartbeats 0
namespace Go.Proofs.YtoneapgooihajaaDoor.shellParts
open Go Sh Sl Qa
open Go.ChangeShapes Go.WideShapes Go.ChangeAt Go.RowKit
theorem q_le (b : Bs) : (q b).length ≤ 4 * b.length + 2 := by
  have := (encs_len b).2
  rw [q_len]; omega
theorem q_eq {a b : Bs} : (q a = q b) = (a = b) := propext ⟨fun h => (q_inj (r := []) (u := []) (by simpa using h)).1, fun h => by rw [h]⟩
section
attribute [local irreducible] condK ArK NilK OpK FnK StK joinK loopK DrawK andK PuK NxK EnK vS uS bS callS invokeS
variable {e : Env} {ctx rest : List HProp}
theorem spec {K : Bool → WP} {a a' : Option Addr} {c c' : Nat} {s t behind : Bs} (hs : s.length ≤ 1048576) (ht : t.length ≤ 1048576) (hb : behind.length ≤ 1048576) (hr : Rd ctx a (u8 s)) (hr' : Rd ctx a' (u8 t)) (hG : GL e ctx) (h : Ent e ctx (K true)) :
    Ent e ctx (law31_ShellParts (.slice a s.length c) (.slice a' t.length c') (ba behind) K) := by
  have l1 := q_le s
  have l2 := q_le t
  (refine Ent.fn law31_ShellParts_ok ?_; unfold law31_ShellParts_sh)
  refine quote_spec (by omega) hr ?_
  refine quote_spec (by omega) hr' ?_
  refine addB (by omega) ?_
  refine unquote_spec (by rw [List.length_append]; omega) (fun x y a1 c1 hh => ?_) fun hn => absurd rfl (hn s behind)
  obtain ⟨rfl, rfl⟩ := q_inj hh
  refine Ent.rdS fun r1 _ => ?_
  refine Ent.join1 (kd := .bool) (fun v => pur (v = false) :: SlO a1 s.length c1 1 (u8 s) :: ctx) ?_ ?_
  rotate_left
  · intro j1 hj1
    refine Ent.wF ?_
    refine obytes (r1 _ (by (repeat (first | exact Has.hd | apply Has.tl)))) ?_
    refine obytes (hr.mono (by (focus (repeat (first | exact Imp.refl _ | exact Imp.nil _ | apply Imp.drop))))) ?_
    refine Ent.opB (b := false) (by have := (st_neS (t := 9) (X := .tmp 30) (Y := .tmp 32) (a := ba s) (b := ba s)).still (e := e) (ctx := SlO a1 s.length c1 1 (u8 s) :: ctx); simpa using this) ?_
    refine Ent.wF ?_
    refine Ent.opB (b := false) (by have := (st_neS (t := 9) (X := .tmp 36) (Y := .tmp 37) (a := ba behind) (b := ba behind)).still (e := e) (ctx := SlO a1 s.length c1 1 (u8 s) :: ctx); simpa using this) ?_
    refine Ent.wF ?_
    refine Ent.opB (b := decide (s = t)) (by have := (st_eqS (t := 9) (X := .tmp 41) (Y := .tmp 42) (a := ba (q s)) (b := ba (q t))).still (e := e) (ctx := SlO a1 s.length c1 1 (u8 s) :: ctx); rw [ba_eqb] at this; simpa only [q_eq] using this) ?_
    refine obytes (hr.mono (by (focus (repeat (first | exact Imp.refl _ | exact Imp.nil _ | apply Imp.drop))))) ?_
    refine obytes (hr'.mono (by (focus (repeat (first | exact Imp.refl _ | exact Imp.nil _ | apply Imp.drop))))) ?_
    refine Ent.opB (b := decide (s = t)) (by have := (st_eqS (t := 9) (X := .tmp 45) (Y := .tmp 47) (a := ba s) (b := ba t)).still (e := e) (ctx := SlO a1 s.length c1 1 (u8 s) :: ctx); rwa [ba_eqb] at this) ?_
    refine Ent.opB (b := false) (by have := (st_neB (t := 4) (X := .tmp 43) (Y := .tmp 48) (a := decide (s = t)) (b := decide (s = t)) rfl).still (e := e) (ctx := SlO a1 s.length c1 1 (u8 s) :: ctx); simpa using this) ?_
    exact (hj1 _).imp (Imp.pur rfl (Imp.refl _))
  intro v
  refine Ent.pur fun hv => ?_
  subst hv
  refine Ent.wF ?_
  have z1 : ((ba (q s)).size : Int) = ((q s).length : Int) := by simp [ByteArray.size]
  have z2 : ((ba (q t)).size : Int) = ((q t).length : Int) := by simp [ByteArray.size]
  refine Ent.join1 (kd := .bool) (fun v => pur (v = false) :: SlO a1 s.length c1 1 (u8 s) :: ctx) ?_ ?_
  rotate_left
  · intro j2 hj2
    have no : Ent e (SlO a1 s.length c1 1 (u8 s) :: ctx) (j2 false) := (hj2 _).imp (Imp.pur rfl (Imp.refl _))
    refine Ent.opB (b := !decide (s = t)) (by have := (st_neS (t := 9) (X := .tmp 51) (Y := .tmp 52) (a := ba (q s)) (b := ba (q t))).still (e := e) (ctx := SlO a1 s.length c1 1 (u8 s) :: ctx); rw [ba_eqb] at this; simpa only [q_eq] using this) ?_
    by_cases hst : s = t
    · rw [show (!decide (s = t)) = false by simp [hst]]
      refine Ent.wF ?_
      exact no
    rw [show (!decide (s = t)) = true by simp [hst]]
    refine Ent.wT ?_
    refine Ent.wlenS ?_
    refine Ent.wlenS ?_
    rw [z1, z2]
    refine Ent.condD (fun hge => ?_) fun _ => no
    refine Ent.wlenS ?_
    rw [z1]
    refine Ent.opS (b := ba ((q t).take (q s).length)) (by have := (st_slSH (t := 9) (l := q t) (k := .i64) (h := ((q s).length : Int)) rfl (by omega) (by omega)).still (e := e) (ctx := SlO a1 s.length c1 1 (u8 s) :: ctx); simpa using this) ?_
    refine Ent.opB (b := false) (by
      have := (st_eqS (t := 9) (X := .tmp 65) (Y := .tmp 66) (a := ba ((q t).take (q s).length)) (b := ba (q s))).still (e := e) (ctx := SlO a1 s.length c1 1 (u8 s) :: ctx)
      rw [ba_eqb, decide_eq_false fun hh => hst ?_] at this
      · exact this
      · have e1 : q s ++ (q t).drop (q s).length = q t ++ [] := by
          have := List.take_append_drop (q s).length (q t)
          rw [hh] at this
          rw [List.append_nil]; exact this
        exact (q_inj e1).1) ?_
    exact no
  intro v
  refine Ent.pur fun hv => ?_
  subst hv
  refine Ent.wF ?_
  refine Ent.loop1 (k0 := .int .i64) (fun N (i : Int) => pur (0 ≤ i ∧ i ≤ (q s).length ∧ N = (q s).length - i.toNat) :: SlO a1 s.length c1 1 (u8 s) :: ctx) (q s).length (Imp.pur ⟨by omega, by omega, by omega⟩ (Imp.refl _)) fun N j4 hj4 i => ?_
  refine Ent.pur fun ⟨h0, h1, hN⟩ => ?_
  refine Ent.wlenS ?_
  rw [z1]
  refine Ent.condD (fun hlt => ?_) fun hge => ?_
  · obtain ⟨x, hx⟩ : ∃ x, (q s)[i.toNat]? = some x := ⟨_, List.getElem?_eq_getElem (by omega)⟩
    have hp := q_printed s x (List.mem_of_getElem? hx)
    refine oIx h0 hx ?_
    refine Ent.condD (fun hh => absurd hh (by omega)) fun _ => ?_
    refine oIx h0 hx ?_
    refine Ent.condD (fun hh => absurd hh (by omega)) fun _ => ?_
    refine Ent.war ?_
    exact (hj4 (N - 1) (by omega) (i + 1)).imp (Imp.pur ⟨by omega, by omega, by omega⟩ (Imp.refl _))
  refine unquote_spec (by omega) (fun x y a2 c2 hs' => ?_) fun hn => ?_
  · refine Ent.rdS fun r2 _ => ?_
    have hx : x.length ≤ behind.length := by
      have := (encs_len x).1
      rw [hs', List.length_append, q_len]; omega
    refine Ent.wF ?_
    refine quote_spec (by omega) (r2 _ (by (repeat (first | exact Has.hd | apply Has.tl)))) ?_
    refine addB (by rw [← List.length_append, ← hs']; omega) ?_
    refine yesS (by rw [← hs']) ?_
    refine wakes_spec (hG.mono (by (focus (repeat (first | exact Imp.refl _ | exact Imp.nil _ | apply Imp.drop))))) ?_
    exact h.imp (by (focus (repeat (first | exact Imp.refl _ | exact Imp.nil _ | apply Imp.drop))))
  · refine Ent.wT ?_
    refine Ent.join1 (kd := .bool) (fun v => pur (v = true) :: ctx) ?_ ?_
    rotate_left
    · intro j5 hj5
      refine Ent.wlen ?_
      refine Ent.wT ?_
      refine yesS rfl ?_
      refine wakes_spec (hG.mono (by (focus (repeat (first | exact Imp.refl _ | exact Imp.nil _ | apply Imp.drop))))) ?_
      exact (hj5 _).imp (Imp.pur rfl (by (focus (repeat (first | exact Imp.refl _ | exact Imp.nil _ | apply Imp.drop)))))
    intro v
    refine Ent.pur fun hv => ?_
    subst hv
    exact h
end
section
variable {H : Type} {enc : TypeId × Value → H} {W : World}
theorem walk {H : Type} {enc : TypeId × Value → H} {W : World} (base : Nat) (args : Array Value) (ds : List (DataW H)) (hval : ∀ (j : Nat) t v, Tryd.f4.params[j]? = some t → args[j]? = some v → Value.okWide Tryd.prog W .any base t v)
    (hA : ∃ p, DataW.TrodAll enc P W 0 (fun _ => true) true Tryd.f4.params.toList args.toList ds p)
    (hL : laidMetH P Qa.laidL W) (hsh : W.ShapedOpen P) (hk : Rows.uptoBulkAll ds ≤ 1048576) :
    Calls P 4 args W fun e W' => e = .returned (.bool true) ∧ Below W.heap.size W W' := by
  obtain ⟨p, hA⟩ := hA
  have hp : Tryd.f4.params.toList = [22, 22, 9] := rfl
  rw [hp] at hA
  obtain ⟨v0, vs0, d0, ds0, q0, hv0, rfl, t0, hA⟩ := Lift.tr_cons hA
  obtain ⟨v1, vs1, d1, ds1, q1, hv1, rfl, t1, hA⟩ := Lift.tr_cons hA
  obtain ⟨v2, vs2, d2, ds2, q2, hv2, rfl, t2, hA⟩ := Lift.tr_cons hA
  obtain ⟨rfl, rfl⟩ := Lift.tr_nil hA
  simp only [Rows.uptoBulkAll] at hk
  obtain ⟨a, c, l, h0, hr0, hr, hb⟩ := Lift.tr_bytes rfl rfl rfl t0
  obtain ⟨a', c', m, h1, hr1, hr', hb'⟩ := Lift.tr_bytes rfl rfl rfl t1
  obtain ⟨t, h2, ht⟩ := Lift.tr_str rfl t2
  obtain ⟨l', rfl⟩ : ∃ l : List Value, args = l.toArray := ⟨args.toList, by simp⟩
  simp only [List.toList_toArray] at hv0
  subst hv0 hv1 hv2
  obtain rfl := Lift.val_slice rfl (hval 0 _ _ rfl rfl) h0
  obtain rfl := Lift.val_slice rfl (hval 1 _ _ rfl rfl) h1
  obtain rfl := Lift.val_str rfl (hval 2 _ _ rfl rfl) h2
  exact Lift.calls_of fun K h => spec (by omega) (by omega) (by omega) hr hr' (gl_of hL hsh) h
end
theorem own : ownKnob Tryd.prog.godebug = none := by kernel_rfl
theorem contract (H : Type) (enc : TypeId × Value → H) (W : World) (base : Nat) (args : Array Value) (ds gs : List (DataW H)) (before : List MemPlace) (hval : ∀ (j : Nat) t v, Tryd.f4.params[j]? = some t → args[j]? = some v → Value.okWide Tryd.prog W .any base t v)
    (hW : DataW.Whole enc Tryd.prog Tryd.f4.params.toList Rows.shellPartsSpec.vars false W args.toList ds gs before) (hk : Rows.uptoBulkAll (ds ++ gs) ≤ 1048576) (hL : laidMetH Tryd.prog Qa.laidL W) (hsh : W.ShapedOpen Tryd.prog) :
    Calls Tryd.prog 4 args W fun e W' => ∃ v, e = .returned v ∧ Rows.shellPartsSpec.post enc Tryd.prog Tryd.f4 false true false false W args v W' := by
  have hgs : gs = [] := by
    obtain ⟨p, q, _, hV, _⟩ := hW
    cases gs <;> simp_all [DataW.TrodVars, Rows.shellPartsSpec]
  subst hgs
  rw [List.append_nil] at hk
  have hA : ∃ p, DataW.TrodAll enc P W 0 (fun _ => true) true Tryd.f4.params.toList args.toList ds p := by
    obtain ⟨p, q, hA, _⟩ := hW
    exact ⟨p, hA⟩
  refine (walk base args ds hval hA hL hsh hk).mono fun e W' ⟨he, hb⟩ => ?_
  exact ⟨_, he, Lift.law_post' (by kernel_rfl) rfl rfl rfl (fun ds h => by first | (rcases ds with _ | ⟨d1, _ | ⟨d2, _ | ⟨d3, _ | ⟨d4, ds⟩⟩⟩⟩ <;> first | rfl | (exfalso; simp [Tryd.f4] at h; done))) (by kernel_rfl) hW hb⟩
noncomputable def flat : Nat → DataW Unit → List Value
  | 0, _ => []
  | n + 1, .lit (.int k i) => [.int k i]
  | n + 1, .agg l => l.flatMap (flat n)
  | _, _ => []
noncomputable def lay (name : String) (d : DataW Unit) (h : Array Obj) : Array Obj := h.modify ((Tryd.prog.globalNamed name).getD 0) fun
  | .cells _ t frozen => .cells (flat 3 d).toArray t frozen
  | o => o
noncomputable def low : Nat := (World.holding Tryd.prog default ⟨#[], #[], []⟩).heap.size
noncomputable def layP (name : String) (b : Nat) (h : Array Obj) : Array Obj := h.modify ((Tryd.prog.globalNamed name).getD 0) fun
  | .cells _ t frozen => .cells #[.iface 151 (.pointer (some ⟨b, 0, none⟩))] t frozen
  | o => o
noncomputable def w0 (os : Os) : World := World.holding Tryd.prog os ⟨#[.cells #[.string (⟨#[118, 97, 108, 117, 101, 32, 111, 117, 116, 32, 111, 102, 32, 114, 97, 110, 103, 101]⟩ : ByteArray)] 153, .cells #[.string (⟨#[105, 110, 118, 97, 108, 105, 100, 32, 115, 121, 110, 116, 97, 120]⟩ : ByteArray)] 153], #[], []⟩
noncomputable def laidHeap (os : Os) : Array Obj :=
  layP "strconv.ErrRange" low <| layP "strconv.ErrSyntax" (low + 1) <| lay "unicode/utf8.first" Rows.laid_unicode_utf8_first <| lay "unicode/utf8.acceptRanges" Rows.laid_unicode_utf8_acceptRanges <|
      lay "internal/strconv.uint64pow10" Rows.laid_internal_strconv_uint64pow10 <| lay "math/bits.deBruijn32tab" Rows.laid_math_bits_deBruijn32tab <| lay "math/bits.deBruijn64tab" Rows.laid_math_bits_deBruijn64tab (w0 os).heap
/-- the settled world, the tables and the two errors laid -/
noncomputable def laidWorld (os : Os) : World :=
  { w0 os with heap := laidHeap os }
theorem laid_met (os : Os) : laidMet Tryd.prog Rows.shellPartsRow.laid ((laidWorld os).forCall (fun _ _ => 0) ⟨#[], #[.slice none 0 0, .slice none 0 0, .string ⟨#[]⟩], []⟩).memory :=
  laidMet_of_run' 8 (by kernel_rfl) (by kernel_rfl)
theorem reads (os : Os) {H : Type} (enc : TypeId × Value → H) : ∃ places, DataW.whole enc Tryd.prog ((laidWorld os).forCall (fun _ _ => 0) ⟨#[], #[.slice none 0 0, .slice none 0 0, .string ⟨#[]⟩], []⟩).memory Tryd.f4.params.toList Rows.shellPartsSpec.vars false #[.slice none 0 0, .slice none 0 0, .string ⟨#[]⟩].toList 8 = some ([.nil, .nil, .lit (.string [])], [], places) :=
  ⟨[], by kernel_rfl⟩
set_option maxRecDepth 100000 in
theorem lifted (os : Os) (started : os.Started) (H : Type) (enc : TypeId × Value → H) (F : Stop.Interp) :
    ReturnsInHanded {} Tryd.checked os 4 .any ((Rows.OpenSpec.upto Rows.shellPartsSpec).preRow enc Tryd.prog Tryd.f4 Rows.shellPartsUptoRow.domain false Rows.shellPartsUptoRow.laid) (((Rows.OpenSpec.upto Rows.shellPartsSpec).at F).post enc Tryd.prog Tryd.f4 false true false false) := by
  obtain ⟨places, hx⟩ := reads os enc
  refine returnsInHanded_of_row (C := Tryd.checked) (s := Rows.OpenSpec.upto Rows.shellPartsSpec) own started (by kernel_rfl) Tryd.func4
    (witness_row_at (enc := enc) (C := Tryd.checked) false (laidWorld os) #[.slice none 0 0, .slice none 0 0, .string ⟨#[]⟩] rfl (by kernel_rfl) (by kernel_rfl) (by kernel_rfl)
      (OpenSpec.preRow_of_cond 8 hx (by kernel_rfl) (fun k hk => by cases hk; kernel_rfl) (by kernel_rfl) (laid_met os))) ?_
  intro W base args ds gs before hval hW _ hcond _ hL hsh _
  exact contract H enc W base args ds gs before hval hW (of_decide_eq_true (hcond _ rfl)) hL hsh
theorem over : Rows.ShellPartsUptoSaid :=
  OpenClaim.holds_of_cond 4 Tryd.f4 rfl rfl rfl rfl rfl rfl rfl ⟨rfl, rfl, rfl, rfl, rfl⟩ rfl rfl rfl rfl rfl (by kernel_rfl) Tryd.func4 (by kernel_rfl)
    (of_decide_eq_true (by kernel_rfl)) (by unfold Func.isWrapper; first | (rw [if_pos (by decide +kernel)]; kernel_rfl) | (rw [if_neg (by decide +kernel)]; exact ⟨rfl, rfl⟩))
    (fun os started H enc _ F => by rw [OpenClaim.pre_eq_preRow]; exact lifted os started H enc F)
theorem plain (f : FuncId) (fn : Func) (hf : Tryd.pinned.checked.prog.funcNamed "tollhouse/tollhouselaw31.ShellParts" = some f) (hfn : Tryd.pinned.checked.prog.funcs[f]? = some fn) :
    true = Tryd.pinned.checked.prog.looks [] ∧ ∀ (j : Nat) t, fn.params[j]? = some t → Tryd.pinned.checked.prog.wantsStandIn t = false := by
  obtain rfl : f = 4 := Option.some.inj ((show Tryd.prog.funcNamed "tollhouse/tollhouselaw31.ShellParts" = some 4 by kernel_rfl).symm.trans hf) |>.symm
  obtain rfl : fn = Tryd.f4 := (Option.some.inj (Tryd.func4.symm.trans hfn)).symm
  refine ⟨by kernel_rfl, fun j t ht => ?_⟩
  have := List.all_eq_true.1 (show (Tryd.f4.params.toList.all fun t => !Tryd.prog.wantsStandIn t) = true by kernel_rfl) t (by simpa using Array.mem_of_getElem? ht)
  exact (by simpa using this : Tryd.prog.wantsStandIn t = false)
theorem proved : Rows.ShellPartsUptoCardSaid :=
  Claim7.holds_tied_plain_at .later [] _ _ _ _ over (fun _ h => by cases h) (by kernel_rfl) (fun _ h => by cases h) shellPartsUpto_row_tie rfl ⟨rfl, rfl⟩ (by kernel_rfl) rfl plain (by kernel_rfl)

end Go.Proofs.YtoneapgooihajaaDoor.shellParts
