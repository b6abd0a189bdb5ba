/-
  AuditKnown: what a run answers; the row's form.
-/
import Derived.Test.YtmdnoijadadjpaaGreatDoorAv
import Derived.Test.YtmdnoijadadjpaaGreatDoorAw
import Derived.Test.YtmdnoijadadjpaaGreatDoorCards
import Derived.Test.YtmdnoijadadjpaaGreatDoorTc
import Derived.Test.YtmdnoijadadjpaaGreatDoorAx
import Derived.Deep.DeepHandedRow
import Derived.Lib.LaidTab
import Derived.Shelf.Vars
import Derived.Stop.LaidErr
import Derived.MakeChecks
set_option linter.unusedVariables false
set_option linter.unusedSimpArgs false
set_option maxRecDepth 100000
set_option maxHeartbeats 0
namespace Go.Proofs.YtmdnoijadadjpaaGreatDoor.Qa
/-- what the row lays -/
abbrev laidL : List (String × DataW Unit) := [("unicode/utf8.first", Rows.laid_unicode_utf8_first), ("unicode/utf8.acceptRanges", Rows.laid_unicode_utf8_acceptRanges), ("strconv.ErrSyntax", Rows.laid_strconv_ErrSyntax), ("strconv.ErrRange", Rows.laid_strconv_ErrRange), ("internal/strconv.uint64pow10", Rows.laid_internal_strconv_uint64pow10), ("math/bits.deBruijn32tab", Rows.laid_math_bits_deBruijn32tab), ("math/bits.deBruijn64tab", Rows.laid_math_bits_deBruijn64tab)]
end Go.Proofs.YtmdnoijadadjpaaGreatDoor.Qa
namespace Go.Proofs.YtmdnoijadadjpaaGreatDoor.auditKnown
open Go Sh Sl
open Go.ChangeShapes Go.WideShapes Go.ChangeAt Go.RowKit
theorem var_still {W w : World} (h : Below W.heap.size W w) {n : String} {cs : Array Value} (hv : W.var? P n = some cs) : w.var? P n = some cs := by
  unfold World.var? at hv ⊢
  cases hg : P.globalNamed n with
  | none => simp [hg] at hv
  | some g =>
    simp only [hg, Option.bind_some] at hv ⊢
    have hlt : g < W.heap.size := by
      rcases Nat.lt_or_ge g W.heap.size with h' | h'
      · exact h'
      · simp [Array.getElem?_eq_none h'] at hv
    rw [h.block g hlt]
    exact hv
theorem tab_of {W : World} (h : laidMetH P Qa.laidL W) : Lib.TabIs P W "internal/strconv.uint64pow10" .u64 Lib.pow10Tab := by
  rw [MakeChecks.laidMetH_plain _ _ _ (by kernel_rfl)] at h
  exact Lib.tabIs_of_head (g := (P.globalNamed "internal/strconv.uint64pow10").getD 0) (e := 56) (t := 492) (n := 20) (by kernel_rfl) (by kernel_rfl) (by kernel_rfl) (by kernel_rfl) (by kernel_rfl) (by kernel_rfl) h.tail.tail.tail.tail
theorem pgW_ok {e : Env} {R : HProp} (h : Ev.TabR e R) : Ev.PgOk e R Ev.pgW := by
  have hA := Ev.pgA_all R h
  refine ⟨hA.ft, fun f x hx args s v s' hv => ?_⟩
  have hx : Ev.xtW f = some x := hx
  unfold Ev.xtW at hx
  split at hx
  · cases hx
    exact Ev.yes_ok Ev.pgA_all (fun _ => rfl) rfl (by kernel_rfl) Ev.awake_runs h _ args s v s' hv
  · exact fun L xs w hg => hA.xt f x hx args s v s' hv L xs w fun g i hi => by cases hi
section
theorem walk {H : Type} {enc : TypeId × Value → H} {W : World} (base : Nat) (args : Array Value) (ds : List (DataW H)) (hval : ∀ (j : Nat) t v, Tryz.f3.params[j]? = some t → args[j]? = some v → Value.okWide Tryz.prog W .any base t v)
    (hA : ∃ p, DataW.TrodAll enc P W 0 (fun _ => true) true Tryz.f3.params.toList args.toList ds p)
    (hL : laidMetH P Qa.laidL W) (hsh : W.ShapedOpen P) :
    Calls P 3 args W fun e W' => e = .returned (.bool true) ∧ Below W.heap.size W W' := by
  obtain ⟨p, hA⟩ := hA
  have hp : Tryz.f3.params.toList = [] := rfl
  rw [hp] at hA
  obtain ⟨h1, rfl⟩ := Lift.tr_nil hA
  obtain ⟨l, rfl⟩ : ∃ l : List Value, args = l.toArray := ⟨args.toList, by simp⟩
  simp only [List.toList_toArray] at h1
  subst h1
  exact Ev.closed_ok (fun w hb => var_still hb (tab_of hL)) (fun R hR => pgW_ok hR) (fun _ => rfl) rfl Ev.auditKnown_runs
end
theorem own : ownKnob Tryz.prog.godebug = none := by kernel_rfl
theorem contract (H : Type) (enc : TypeId × Value → H) (W : World) (base : Nat) (args : Array Value) (ds gs : List (DataW H)) (before : List MemPlace) (hval : ∀ (j : Nat) t v, Tryz.f3.params[j]? = some t → args[j]? = some v → Value.okWide Tryz.prog W .any base t v)
    (hW : DataW.Whole enc Tryz.prog Tryz.f3.params.toList Rows.auditKnownSpec.vars false W args.toList ds gs before) (hL : laidMetH Tryz.prog Qa.laidL W) (hsh : W.ShapedOpen Tryz.prog) :
    Calls Tryz.prog 3 args W fun e W' => ∃ v, e = .returned v ∧ Rows.auditKnownSpec.post enc Tryz.prog Tryz.f3 false true false false W args v W' := by
  have hA : ∃ p, DataW.TrodAll enc P W 0 (fun _ => true) true Tryz.f3.params.toList args.toList ds p := by
    obtain ⟨p, q, hA, _⟩ := hW
    exact ⟨p, hA⟩
  refine (walk base args ds hval hA hL hsh).mono fun e W' ⟨he, hb⟩ => ?_
  exact ⟨_, he, Lift.law_post' (by kernel_rfl) rfl rfl rfl (fun ds h => by first | (rcases ds with _ | ⟨d1, _ | ⟨d2, _ | ⟨d3, _ | ⟨d4, ds⟩⟩⟩⟩ <;> first | rfl | (exfalso; simp [Tryz.f3] at h; done))) (by kernel_rfl) hW hb⟩
noncomputable def flat : Nat → DataW Unit → List Value
  | 0, _ => []
  | n + 1, .lit (.int k i) => [.int k i]
  | n + 1, .agg l => l.flatMap (flat n)
  | _, _ => []
noncomputable def lay (name : String) (d : DataW Unit) (h : Array Obj) : Array Obj := h.modify ((Tryz.prog.globalNamed name).getD 0) fun
  | .cells _ t frozen => .cells (flat 3 d).toArray t frozen
  | o => o
noncomputable def low : Nat := (World.holding Tryz.prog default ⟨#[], #[], []⟩).heap.size
noncomputable def layP (name : String) (b : Nat) (h : Array Obj) : Array Obj := h.modify ((Tryz.prog.globalNamed name).getD 0) fun
  | .cells _ t frozen => .cells #[.iface 488 (.pointer (some ⟨b, 0, none⟩))] t frozen
  | o => o
noncomputable def w0 (os : Os) : World := World.holding Tryz.prog os ⟨#[.cells #[.string (⟨#[118, 97, 108, 117, 101, 32, 111, 117, 116, 32, 111, 102, 32, 114, 97, 110, 103, 101]⟩ : ByteArray)] 490, .cells #[.string (⟨#[105, 110, 118, 97, 108, 105, 100, 32, 115, 121, 110, 116, 97, 120]⟩ : ByteArray)] 490], #[], []⟩
noncomputable def laidHeap (os : Os) : Array Obj :=
  layP "strconv.ErrRange" low <| layP "strconv.ErrSyntax" (low + 1) <| lay "unicode/utf8.first" Rows.laid_unicode_utf8_first <| lay "unicode/utf8.acceptRanges" Rows.laid_unicode_utf8_acceptRanges <|
      lay "internal/strconv.uint64pow10" Rows.laid_internal_strconv_uint64pow10 <| lay "math/bits.deBruijn32tab" Rows.laid_math_bits_deBruijn32tab <| lay "math/bits.deBruijn64tab" Rows.laid_math_bits_deBruijn64tab (w0 os).heap
/-- the settled world, the tables and the two errors laid -/
noncomputable def laidWorld (os : Os) : World :=
  { w0 os with heap := laidHeap os }
theorem laid_met (os : Os) : laidMet Tryz.prog Rows.auditKnownRow.laid ((laidWorld os).forCall (fun _ _ => 0) ⟨#[], #[], []⟩).memory :=
  laidMet_of_run' 8 (by kernel_rfl) (by kernel_rfl)
theorem reads (os : Os) {H : Type} (enc : TypeId × Value → H) : ∃ places, DataW.whole enc Tryz.prog ((laidWorld os).forCall (fun _ _ => 0) ⟨#[], #[], []⟩).memory Tryz.f3.params.toList Rows.auditKnownSpec.vars false #[].toList 8 = some ([], [], places) :=
  ⟨[], by kernel_rfl⟩
set_option maxRecDepth 100000 in
theorem lifted (os : Os) (started : os.Started) (H : Type) (enc : TypeId × Value → H) (F : Stop.Interp) :
    ReturnsInHanded {} Tryz.checked os 3 .any ((OpenSpec.ofChange Rows.auditKnownSpec).preRow enc Tryz.prog Tryz.f3 Rows.auditKnownRow.domain false Rows.auditKnownRow.laid) (((OpenSpec.ofChange Rows.auditKnownSpec).at F).post enc Tryz.prog Tryz.f3 false true false false) := by
  obtain ⟨places, hx⟩ := reads os enc
  refine returnsInHanded_of_row (C := Tryz.checked) (s := OpenSpec.ofChange Rows.auditKnownSpec) own started (by kernel_rfl) Tryz.func3
    (witness_row_at (enc := enc) (C := Tryz.checked) false (laidWorld os) #[] rfl (by kernel_rfl) (by kernel_rfl) (by kernel_rfl)
      (OpenSpec.preRow_of_cond 8 hx (by kernel_rfl) (fun k hk => by cases hk) (by kernel_rfl) (laid_met os))) ?_
  intro W base args ds gs before hval hW _ hcond _ hL hsh _
  exact contract H enc W base args ds gs before hval hW hL hsh
theorem over : Rows.AuditKnownSaid :=
  OpenClaim.holds_of_cond 3 Tryz.f3 rfl rfl rfl rfl rfl rfl rfl ⟨rfl, rfl, rfl, rfl, rfl⟩ rfl rfl rfl rfl rfl (by as_aux_lemma => kernel_rfl) Tryz.func3 facts
    (of_decide_eq_true (by as_aux_lemma => kernel_rfl)) (by unfold Func.isWrapper; first | (rw [if_pos (by decide +kernel)]; kernel_rfl) | (rw [if_neg (by decide +kernel)]; exact ⟨rfl, rfl⟩))
    (fun os started H enc _ F => by rw [OpenClaim.pre_eq_preRow]; exact lifted os started H enc F)

end Go.Proofs.YtmdnoijadadjpaaGreatDoor.auditKnown
