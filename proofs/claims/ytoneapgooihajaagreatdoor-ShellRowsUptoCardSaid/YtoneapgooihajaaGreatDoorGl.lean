/-
  WHAT A SHELL LAW's ROW GIVES OF MEMORY: the table of powers, the two errors, the searches' variable.
-/
import Derived.Test.YtoneapgooihajaaGreatDoorQo
import Derived.Test.YtoneapgooihajaaGreatDoorLift
import Derived.Test.YtoneapgooihajaaGreatDoorRows
import Derived.Lib.LaidTab
import Derived.Stop.LaidErr
import Derived.Shelf.Vars
import Derived.MakeChecks
set_option maxRecDepth 100000
set_option linter.unusedVariables false
set_option maxHeartbeats 0
namespace Go.Proofs.YtoneapgooihajaaGreatDoor.Qa
open Go Sh Sl
open Go.RowKit Go.ChangeShapes
theorem var_still {W w : World} (h : Below W.heap.size W w) {n : String} {cs : Array Value} (hv : W.var? P n = some cs) : w.var? P n = some cs := by
  unfold World.var? at hv ⊢
  cases hg : P.globalNamed n with
  | none => simp [hg] at hv
  | some g =>
    simp only [hg, Option.bind_some] at hv ⊢
    have hlt : g < W.heap.size := by
      rcases Nat.lt_or_ge g W.heap.size with h' | h'
      · exact h'
      · simp [Array.getElem?_eq_none h'] at hv
    rw [h.block g hlt]
    exact hv
abbrev laidL : List (String × DataW Unit) := [("math/bits.deBruijn32tab", Rows.laid_math_bits_deBruijn32tab), ("math/bits.deBruijn64tab", Rows.laid_math_bits_deBruijn64tab), ("internal/strconv.uint64pow10", Rows.laid_internal_strconv_uint64pow10), ("unicode/utf8.acceptRanges", Rows.laid_unicode_utf8_acceptRanges), ("strconv.ErrRange", Rows.laid_strconv_ErrRange), ("strconv.ErrSyntax", Rows.laid_strconv_ErrSyntax), ("unicode/utf8.first", Rows.laid_unicode_utf8_first)]
theorem err_star : "*" ++ "errors.errorString" = "*errors.errorString" := by decide
theorem row_err (u : TypeId) (h : P.typeName? 3 u = some "*errors.errorString") : u = 182 :=
  typeName_ptr_named (nm := "errors.errorString") (by rw [err_star]; kernel_rfl) (by kernel_rfl) (by decide) u (by rw [err_star]; exact h)
theorem under_err : ∃ f : Field, P.underlying 184 = some (.struct #[f]) ∧ f.type = 9 ∧ f.offset = 0 := ⟨_, rfl, rfl, rfl⟩
theorem under_error : ∃ ms, P.underlying 103 = some (.interface ms) := ⟨_, rfl⟩
theorem gl_of {W : World} (h : laidMetH P laidL W) (hs : W.ShapedOpen P) : GL (Lift.envOf W) [Lift.wh W] := by
  rw [MakeChecks.laidMetH_plain _ _ _ (by kernel_rfl)] at h
  have t1 : Lib.TabIs P W "internal/strconv.uint64pow10" .u64 Lib.pow10Tab :=
    Lib.tabIs_of_head (g := (P.globalNamed "internal/strconv.uint64pow10").getD 0) (e := 135) (t := 174) (n := 20) (by kernel_rfl) (by kernel_rfl) (by kernel_rfl) (by kernel_rfl) (by kernel_rfl) (by kernel_rfl) h.tail.tail
  have t2 : ∃ m, W.cell? ⟨0, 0, none⟩ = some (.int .i64 m) :=
    cell_of_shapedOpen_int (zero := #[.int .i64 0]) (t := 3) hs (of_decide_eq_true (by kernel_rfl)) (by kernel_rfl) rfl (by kernel_rfl) (by kernel_rfl) (by kernel_rfl)
  obtain ⟨f, hf, hft, hfo⟩ := under_err
  obtain ⟨ms, hi⟩ := under_error
  obtain ⟨a1, s1, h1, _⟩ := laid_sentinel (g := (P.globalNamed "strconv.ErrRange").getD 0) (ti := 103) (tp := 182) (te := 184) (ts := 9) h.tail.tail.tail.tail (by kernel_rfl) (by kernel_rfl) hi row_err (by kernel_rfl) hf hft hfo (by kernel_rfl) (by kernel_rfl) (by kernel_rfl)
  obtain ⟨a2, s2, h2, _⟩ := laid_sentinel (g := (P.globalNamed "strconv.ErrSyntax").getD 0) (ti := 103) (tp := 182) (te := 184) (ts := 9) h.tail.tail.tail.tail.tail (by kernel_rfl) (by kernel_rfl) hi row_err (by kernel_rfl) hf hft hfo (by kernel_rfl) (by kernel_rfl) (by kernel_rfl)
  intro w hw
  have hb := Lift.below_of hw
  refine ⟨var_still hb t1, ?_, ⟨_, _, var_still hb h2⟩, ⟨_, _, var_still hb h1⟩⟩
  obtain ⟨m, hm⟩ := t2
  refine ⟨m, ?_⟩
  have hlt : 0 < W.heap.size := by
    rcases Nat.lt_or_ge 0 W.heap.size with h' | h'
    · exact h'
    · simp [World.cell?, Array.getElem?_eq_none h'] at hm
  unfold World.cell? at hm ⊢
  rw [show w.heap[(⟨0, 0, none⟩ : Addr).block]? = W.heap[(⟨0, 0, none⟩ : Addr).block]? from hb.block 0 hlt]
  exact hm
end Go.Proofs.YtoneapgooihajaaGreatDoor.Qa
