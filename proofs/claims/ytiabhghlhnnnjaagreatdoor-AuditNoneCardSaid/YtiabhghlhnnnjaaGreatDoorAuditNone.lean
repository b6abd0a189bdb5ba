/- AuditNone: of no proxy and of no machine nothing is found: for every tenant and every number, whatever the operating system answers. The proof: the walk of none, and an evaluator of closed runs, proved sound for the model (texts Ev .. Jd), for the document's examples. -/
import Derived.Test.YtiabhghlhnnnjaaGreatDoorBy
set_option linter.unusedVariables false
set_option linter.unusedSimpArgs false
set_option maxRecDepth 100000
set_option maxHeartbeats 0
namespace Go.Proofs.YtiabhghlhnnnjaaGreatDoor.auditNone
open Go Sh Sl
open Go.ChangeShapes Go.WideShapes Go.ChangeAt Go.RowKit
/-- no function starts a goroutine -/
theorem nogo : Tryz.prog.funcs.toList.all (fun fn => !fn.goes) = true := by kernel_rfl
theorem nogo_at (g : Nat) : (Tryz.prog.funcs[g]?).any Func.goes = false := by
  cases h : Tryz.prog.funcs[g]? with
  | none => rfl
  | some fn =>
    have := List.all_eq_true.1 nogo fn (Array.mem_toList_iff.2 (Array.mem_of_getElem? h))
    simpa using this
theorem goes : false = Rows.auditNoneRow.goesBy Tryz.prog := by
  have h1 : ∀ f, Tryz.prog.goes f = false := fun f => by
    unfold Program.goes
    have e1 : ((Tryz.prog.closure f).any fun g => (Tryz.prog.funcs[g]?).any Func.goes) = false := by
      rw [List.any_eq_false]
      intro g _
      rw [nogo_at g]; simp
    have e2 : Tryz.prog.funcs.any Func.goes = false := by
      rw [← Array.any_toList, List.any_eq_false]
      intro fn hfn
      have := List.all_eq_true.1 nogo fn hfn
      simpa using this
    rw [e1, e2]; simp
  unfold OpenClaim.goesBy Program.goesAt Program.goesFrom
  cases Tryz.prog.funcNamed Rows.auditNoneRow.func with
  | none => rfl
  | some f => simp [h1 f, Rows.auditNoneRow]
theorem plain (f : FuncId) (fn : Func) (hf : Tryz.pinned.checked.prog.funcNamed "tollhouse/tollhouselaw29.AuditNone" = some f) (hfn : Tryz.pinned.checked.prog.funcs[f]? = some fn) :
    true = Tryz.pinned.checked.prog.looks [] ∧ ∀ (j : Nat) t, fn.params[j]? = some t → Tryz.pinned.checked.prog.wantsStandIn t = false := by
  obtain rfl : f = 3 := Option.some.inj ((show Tryz.prog.funcNamed "tollhouse/tollhouselaw29.AuditNone" = some 3 by kernel_rfl).symm.trans hf) |>.symm
  obtain rfl : fn = Tryz.f3 := (Option.some.inj (Tryz.func3.symm.trans hfn)).symm
  refine ⟨by as_aux_lemma => kernel_rfl, fun j t ht => ?_⟩
  have := List.all_eq_true.1 (show (Tryz.f3.params.toList.all fun t => !Tryz.prog.wantsStandIn t) = true by kernel_rfl) t (by simpa using Array.mem_of_getElem? ht)
  exact (by simpa using this : Tryz.prog.wantsStandIn t = false)
theorem proved : Rows.AuditNoneCardSaid :=
  Claim7.holds_tied_plain_at .later [] _ _ _ _ over (fun _ h => by cases h) (by as_aux_lemma => kernel_rfl) (fun _ h => by cases h) auditNone_row_tie rfl ⟨rfl, rfl⟩ (by as_aux_lemma => kernel_rfl) rfl plain goes

end Go.Proofs.YtiabhghlhnnnjaaGreatDoor.auditNone
