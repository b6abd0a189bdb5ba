/-
  READING A LAW's EVENTS (layer 31).
-/
import Derived.Test.YtoneapgooihajaaGreatDoorQo
import Derived.Test.YtoneapgooihajaaGreatDoorLift
set_option linter.unusedVariables false
set_option linter.unusedSimpArgs false
set_option maxRecDepth 100000
namespace Go.Proofs.YtoneapgooihajaaGreatDoor.Qa
open Go Sh Sl
section
variable {H : Type} {enc : TypeId × Value → H} {W : World}
theorem tr_ev {cs : List Value} {d : DataW H} (h : Lift.Tr enc W 57 cs d) :
    ∃ y : Ev, cs = evC y ∧ (I64 y.t ∧ I64 y.n ∧ RdB [Lift.wh W] y.a y.b ∧ y.b.length ≤ y.c) ∧ y.c ≤ Rows.uptoBulk d := by
  obtain ⟨ds, hl, hc, hb, hf⟩ := Lift.tr_struct rfl rfl h
  obtain ⟨d0, e0, t0⟩ := hf 0 _ _ _ _ rfl rfl
  obtain ⟨d1, e1, t1⟩ := hf 1 _ _ _ _ rfl rfl
  obtain ⟨d2, e2, t2⟩ := hf 2 _ _ _ _ rfl rfl
  obtain ⟨d3, e3, t3⟩ := hf 3 _ _ _ _ rfl rfl
  match cs, hc with
  | [v0, v1, v2, v3], _ =>
    obtain ⟨n0, g0, r0⟩ := Lift.tr_int (k := .i64) rfl t0
    obtain ⟨n1, g1, r1⟩ := Lift.tr_int (k := .i64) rfl t1
    obtain ⟨n2, g2, r2⟩ := Lift.tr_int (k := .i64) rfl t2
    obtain ⟨a, c, l, g3, r3, r4, r5⟩ := Lift.tr_bytes (x := 5) rfl rfl rfl t3
    simp only [List.drop_zero, List.take_succ_cons, List.take_zero, List.drop_succ_cons, List.cons.injEq, and_true] at g0 g1 g2 g3
    have := Lift.bulk_mem (List.mem_of_getElem? e3)
    exact ⟨⟨n0, n1, n2, a, c, l⟩, by simp [g0, g1, g2, g3], ⟨r1, r2, r4, r3⟩, by simp only; omega⟩
theorem tr_evs {t : TypeId} {cs : List Value} {d : DataW H} (ht : dd t = some (.sl 57)) (h : Lift.Tr enc W t cs d) (hk : Rows.uptoBulk d ≤ 1048576) :
    ∃ a c xs, cs = [.slice a (xs : List Ev).length c] ∧ xs.length ≤ Rows.uptoBulk d ∧ Rd [Lift.wh W] a (evcs xs) ∧ ∀ y ∈ xs, EvR y ∧ Rd [Lift.wh W] y.a (u8 y.b) := by
  obtain ⟨a, m, c, xs, h1, hn, hcc, hr, hN, hcb, hsum⟩ := Lift.tr_slice (X := Ev) (fun y => evC y) (fun y => I64 y.t ∧ I64 y.n ∧ RdB [Lift.wh W] y.a y.b ∧ y.b.length ≤ y.c) (fun y => y.c) (x := 57) ht rfl (fun cs d h => tr_ev h) h
  subst hn
  refine ⟨a, c, xs, h1, by omega, hr, fun y hy => ?_⟩
  obtain ⟨p1, p2, p3, p4⟩ := hN y hy
  have := Lift.le_sum (fun y : Ev => y.c) hy
  exact ⟨⟨p1, p2, by omega⟩, p3⟩
end
end Go.Proofs.YtoneapgooihajaaGreatDoor.Qa
