/-
  THE DOCUMENT's ROWS AS LINES (layer 31).
-/
import Derived.Test.YtoneapgooihajaaGreatDoorYb
import Derived.Test.YtoneapgooihajaaGreatDoorUe
set_option maxRecDepth 100000
set_option linter.unusedVariables false
set_option linter.unusedSectionVars false
set_option linter.unusedSimpArgs false
set_option maxHeartbeats 0
namespace Go.Proofs.YtoneapgooihajaaGreatDoor.Qa
open Go Sh Sl
open Go.RowKit
attribute [local irreducible] condK ArK NilK OpK FnK StK joinK loopK DrawK andK PuK NxK EnK vS uS bS callS invokeS
/-- the line of what went out, without its end -/
def ouD (t : Int) (x : dO) : Bs × Bool := match x with
  | (k, s, c, d, h, p) => if nameAt goesL k = [] then ([], false) else ((if k = 1 then joinB [[62], Lib.itoa t, nameAt goesL k, Lib.itoa s, q d] else if k = 2 then joinB [[62], Lib.itoa t, nameAt goesL k, Lib.itoa s]
      else if k = 3 then joinB [[62], Lib.itoa t, nameAt goesL k, Lib.itoa c, q h, Lib.itoa p] else if k = 4 then joinB [[62], Lib.itoa t, nameAt goesL k, Lib.itoa c, q d]
      else joinB [[62], Lib.itoa t, nameAt goesL k, Lib.itoa c]), decide (bareD (k, s, c, d, h, p) = (k, s, c, d, h, p)))
theorem ouD_ok (t : Int) (x : dO) : (ouD t x).2 = (ouT t x).2 ∧ ((ouD t x).2 = true → (ouD t x).1 ++ [10] = (ouT t x).1) := by
  obtain ⟨k, s, c, d, h, p⟩ := x
  unfold ouD ouT
  dsimp only
  by_cases hn : nameAt goesL k = []
  · rw [if_pos hn, decide_eq_false (fun hh => hh hn)]
    exact ⟨rfl, fun hh => (by cases hh)⟩
  · rw [if_neg hn, decide_eq_true hn, Bool.true_and]
    exact ⟨rfl, fun _ => rfl⟩
section
variable {e : Env} {ctx rest R : List HProp} {M : Hp}
theorem padS {c2 : List HProp} {t : Nat} {X Y : Operand} {a b : Bs} {C : ByteArray → WP} (hl : a.length + b.length ≤ 9223372036854775807) (hC : Ent e c2 (C (ba (a ++ b)))) : Ent e c2 (qS (bS .add t X Y (.string (ba a)) (.string (ba b))) C) := by
  refine Ent.puS (st_addS (by simp [ba, ByteArray.size]; omega)) ?_
  rw [ba_app]; exact hC
theorem goes_spec {K : ByteArray → WP} {n : Int} (h : Ent e rest (K (ba (nameAt goesL n)))) : Ent e rest (ref31_Goes n K) := by
  (refine Ent.fn ref31_Goes_ok ?_; unfold ref31_Goes_sh)
  refine Ent.opR (st_buildA (out := ss goesL) rfl rfl rfl rfl).still ?_
  refine Ent.alloc' fun lb => ?_
  refine Ent.wstoA (l' := ss goesL) ?_ (vs := ss goesL) (hl := rfl) (hu := by (repeat (first | exact Upd.hd | apply Upd.tl)))
  unfold nameAt at h
  have hl : goesL.length = 6 := rfl
  refine Ent.condD (fun h1 => ?_) fun h1 => ?_
  · rw [if_neg (by omega)] at h
    exact h.drop
  refine Ent.condD (fun h2 => ?_) fun h2 => ?_
  · rw [if_neg (by omega)] at h
    exact h.drop
  rw [if_pos (by omega)] at h
  have hv : (ss goesL)[n.toNat]? = some (.string (ba (goesL.getD n.toNat []))) := by
    have : goesL[n.toNat]? = some (goesL.getD n.toNat []) := by
      rw [List.getD_eq_getElem?_getD, List.getElem?_eq_getElem (by omega)]; rfl
    simp only [ss, List.getElem?_map, this, Option.map_some]
  refine Ent.wiSp ?_ (hv := by simpa using hv)
  exact h.drop
theorem beqD (a b : Int) : (a == b) = decide (a = b) := by
  by_cases h : a = b
  · rw [decide_eq_true h]; exact beq_iff_eq.2 h
  · rw [decide_eq_false h]; exact beq_eq_false_iff_ne.2 h
theorem bnilE {X Y : Operand} {t : TypeId} {C : List HProp} {b : Bs} {f : Bool → WP} (k : Ent e C (f (decide (b = [])))) : Ent e C (qB (bS .eql t X Y (.string (ba b)) (.string (⟨#[]⟩ : ByteArray))) f) := by
  refine Ent.puB st_eqS ?_
  rw [show decide (ba b = (⟨#[]⟩ : ByteArray)) = decide (b = []) from ba_eqb b []]
  exact k
theorem refoutline_spec {K : ByteArray → Bool → WP} {t : Int} {x : Ou} (hx : OuR x) (ht : I64 t) (hr : Rd rest x.a (u8 x.d)) (h : Ent e rest (K (ba (ouD t (dOu x)).1) (ouD t (dOu x)).2)) : Ent e rest (ref31_OutLine t (.agg (ouC x).toArray) K) := by
  have hnl := gname_len x.k
  have l1 := itoa_len t ht
  have l2 := itoa_len x.s hx.s
  have l3 := itoa_len x.c hx.c
  have l4 := itoa_len x.p hx.p
  have l5 := (encs_len x.d).2
  have l6 := (encs_len x.h).2
  have l7 := q_len x.d
  have l8 := q_len x.h
  have l9 := hx.d
  have l10 := hx.h
  have hdl : decide (x.d.length = 0) = decide (x.d = []) := decide_eq_decide.2 List.length_eq_zero_iff
  (refine Ent.fn ref31_OutLine_ok ?_; unfold ref31_OutLine_sh)
  refine Ent.box' fun ob => ?_
  refine Ent.wfI ?_
  refine goes_spec ?_
  refine Ent.opB (st_eqS).still ?_
  rw [show decide (ba (nameAt goesL x.k) = (⟨#[]⟩ : ByteArray)) = decide (nameAt goesL x.k = []) from ba_eqb _ []]
  unfold ouD dOu at h
  dsimp only at h
  refine Ent.condD (fun h0 => ?_) fun h0 => ?_
  · rw [if_pos h0] at h
    exact h.drop
  rw [if_neg h0] at h
  dsimp only at h
  obtain ⟨B, hB⟩ : ∃ B, B = [62, 32] ++ Lib.itoa t ++ [32] ++ nameAt goesL x.k ++ [32] := ⟨_, rfl⟩
  have hBl : B.length ≤ 100 := by rw [hB]; simp; omega
  have j4 : ∀ a : Bs, joinB [[62], Lib.itoa t, nameAt goesL x.k, a] = B ++ a := fun a => by rw [joinB_4, hB]; simp
  have j5 : ∀ a b : Bs, joinB [[62], Lib.itoa t, nameAt goesL x.k, a, b] = B ++ a ++ [32] ++ b := fun a b => by rw [joinB_5, hB]; simp
  have j6 : ∀ a b c : Bs, joinB [[62], Lib.itoa t, nameAt goesL x.k, a, b, c] = B ++ a ++ [32] ++ b ++ [32] ++ c := fun a b c => by rw [joinB_6, hB]; simp
  refine refnum_spec ht ?_
  refine addB (a := [62, 32]) (by simp; omega) ?_
  refine addB (b := [32]) (by simp; omega) ?_
  refine addB (by simp; omega) ?_
  refine addB (b := [32]) (by simp; omega) ?_
  rw [← hB]
  refine Ent.wfI ?_
  refine Ent.condE (fun h1 => ?_) fun h1 => ?_
  · rw [if_pos h1] at h
    have hf : decide (bareD (x.k, x.s, x.c, x.d, x.h, x.p) = (x.k, x.s, x.c, x.d, x.h, x.p)) = decide (x.c = 0 ∧ x.h = [] ∧ x.p = 0) := decide_eq_decide.2 (by
      unfold bareD; dsimp only; rw [if_pos h1]; simp only [Prod.mk.injEq, true_and]
      exact ⟨fun ⟨a, b, c⟩ => ⟨a.symm, b.symm, c.symm⟩, fun ⟨a, b, c⟩ => ⟨a.symm, b.symm, c.symm⟩⟩)
    rw [hf, j5] at h
    refine Ent.join ?_
    refine Ent.draw [pt ob (ouC x)] (by (focus ((repeat ((with_reducible apply Imp.pick); (repeat (first | exact Pick.hd | apply Pick.tl)))); (repeat (first | exact Imp.refl _ | exact Imp.nil _ | apply Imp.drop)); done))) ?_
    refine Ent.wgI ?_
    refine Ent.wgR ?_
    refine Ent.wgI ?_
    refine refnum_spec hx.s ?_
    refine Ent.wand ?_
    refine padS (by omega) ?_
    refine padS (b := [32]) (by simp; omega) ?_
    refine ref_quote_spec (b := x.d) (by omega) (hr.mono (by (focus (repeat (first | exact Imp.refl _ | exact Imp.nil _ | apply Imp.drop))))) ?_
    refine Ent.wand ?_
    refine padS (by simp; omega) ?_
    refine Ent.condE (fun g1 => ?_) fun g1 => ?_
    · refine Ent.wgS ?_
      refine bnilE ?_
      refine Ent.condD (fun g2 => ?_) fun g2 => ?_
      · refine Ent.wgI ?_
        rw [beqD, show decide (x.p = 0) = decide (x.c = 0 ∧ x.h = [] ∧ x.p = 0) from decide_eq_decide.2 ⟨fun g => ⟨g1, g2, g⟩, fun g => g.2.2⟩]
        exact h.drop
      · rw [decide_eq_false fun g => g2 g.2.1] at h
        exact h.drop
    · rw [decide_eq_false fun g => g1 g.1] at h
      exact h.drop
  rw [if_neg h1] at h
  refine Ent.condE (fun h2 => ?_) fun h2 => ?_
  · rw [if_pos h2] at h
    have hf : decide (bareD (x.k, x.s, x.c, x.d, x.h, x.p) = (x.k, x.s, x.c, x.d, x.h, x.p)) = decide (x.c = 0 ∧ x.d = [] ∧ x.h = [] ∧ x.p = 0) := decide_eq_decide.2 (by
      unfold bareD; dsimp only; rw [if_neg h1, if_pos h2]; simp only [Prod.mk.injEq, true_and]
      exact ⟨fun ⟨a, b, c, d⟩ => ⟨a.symm, b.symm, c.symm, d.symm⟩, fun ⟨a, b, c, d⟩ => ⟨a.symm, b.symm, c.symm, d.symm⟩⟩)
    rw [hf, j4] at h
    refine Ent.join ?_
    refine Ent.draw [pt ob (ouC x)] (by (focus ((repeat ((with_reducible apply Imp.pick); (repeat (first | exact Pick.hd | apply Pick.tl)))); (repeat (first | exact Imp.refl _ | exact Imp.nil _ | apply Imp.drop)); done))) ?_
    refine Ent.wgI ?_
    refine Ent.wgI ?_
    refine refnum_spec hx.s ?_
    refine Ent.wand ?_
    refine padS (by omega) ?_
    refine Ent.condE (fun g1 => ?_) fun g1 => ?_
    · refine Ent.wgR ?_
      refine Ent.wsI ?_
      rw [len0, hdl]
      refine Ent.condD (fun g2 => ?_) fun g2 => ?_
      · refine Ent.wgS ?_
        refine bnilE ?_
        refine Ent.condD (fun g3 => ?_) fun g3 => ?_
        · refine Ent.wgI ?_
          rw [beqD, show decide (x.p = 0) = decide (x.c = 0 ∧ x.d = [] ∧ x.h = [] ∧ x.p = 0) from decide_eq_decide.2 ⟨fun g => ⟨g1, g2, g3, g⟩, fun g => g.2.2.2⟩]
          exact h.drop
        · rw [decide_eq_false fun g => g3 g.2.2.1] at h
          exact h.drop
      · rw [decide_eq_false fun g => g2 g.2.1] at h
        exact h.drop
    · rw [decide_eq_false fun g => g1 g.1] at h
      exact h.drop
  rw [if_neg h2] at h
  refine Ent.condE (fun h3 => ?_) fun h3 => ?_
  · rw [if_pos h3] at h
    have hf : decide (bareD (x.k, x.s, x.c, x.d, x.h, x.p) = (x.k, x.s, x.c, x.d, x.h, x.p)) = decide (x.s = 0 ∧ x.d = []) := decide_eq_decide.2 (by
      unfold bareD; dsimp only; rw [if_neg h1, if_neg h2, if_pos h3]; simp only [Prod.mk.injEq, true_and, and_true]
      exact ⟨fun ⟨a, b⟩ => ⟨a.symm, b.symm⟩, fun ⟨a, b⟩ => ⟨a.symm, b.symm⟩⟩)
    rw [hf, j6] at h
    refine Ent.join ?_
    refine Ent.draw [pt ob (ouC x)] (by (focus ((repeat ((with_reducible apply Imp.pick); (repeat (first | exact Pick.hd | apply Pick.tl)))); (repeat (first | exact Imp.refl _ | exact Imp.nil _ | apply Imp.drop)); done))) ?_
    refine Ent.wgI ?_
    refine Ent.wgS ?_
    refine Ent.wgI ?_
    refine Ent.wgI ?_
    refine Ent.and (fun w hw => ?_) ?_
    · refine (show Ent e _ _ from ?_) w hw
      refine refnum_spec hx.c ?_
      refine Ent.wand ?_
      refine padS (by omega) ?_
      refine padS (b := [32]) (by simp; omega) ?_
      refine Ent.s2b rfl rfl rfl (by omega) fun a3 c3 => ?_
      unfold BS
      refine Ent.rdS fun r1 _ => ?_
      refine Ent.wand ?_
      refine ref_quote_spec (b := x.h) (by omega) (r1 _ .hd) ?_
      refine Ent.wand ?_
      refine padS (by simp; omega) ?_
      refine padS (b := [32]) (by simp; omega) ?_
      refine refnum_spec hx.p ?_
      refine Ent.wand ?_
      refine padS (by simp; omega) ?_
      refine Ent.condE (fun g1 => ?_) fun g1 => ?_
      · refine Ent.wgR ?_
        refine Ent.wsI ?_
        rw [len0, hdl, show decide (x.d = []) = decide (x.s = 0 ∧ x.d = []) from decide_eq_decide.2 ⟨fun g => ⟨g1, g⟩, fun g => g.2⟩]
        exact h.imp (by (focus (repeat (first | exact Imp.refl _ | exact Imp.nil _ | apply Imp.drop))))
      · rw [decide_eq_false fun g => g1 g.1] at h
        exact h.imp (by (focus (repeat (first | exact Imp.refl _ | exact Imp.nil _ | apply Imp.drop))))
    · refine Ent.s2b rfl rfl rfl (by omega) fun a3 c3 => ?_
      unfold BS
      refine Ent.rdS fun r1 _ => ?_
      refine Ent.wand ?_
      refine refnum_spec hx.c ?_
      refine Ent.wand ?_
      refine padS (by omega) ?_
      refine padS (b := [32]) (by simp; omega) ?_
      refine ref_quote_spec (b := x.h) (by omega) (r1 _ .hd) ?_
      refine Ent.wand ?_
      refine padS (by simp; omega) ?_
      refine padS (b := [32]) (by simp; omega) ?_
      refine refnum_spec hx.p ?_
      refine Ent.wand ?_
      refine padS (by simp; omega) ?_
      refine Ent.condE (fun g1 => ?_) fun g1 => ?_
      · refine Ent.wgR ?_
        refine Ent.wsI ?_
        rw [len0, hdl, show decide (x.d = []) = decide (x.s = 0 ∧ x.d = []) from decide_eq_decide.2 ⟨fun g => ⟨g1, g⟩, fun g => g.2⟩]
        exact h.imp (by (focus (repeat (first | exact Imp.refl _ | exact Imp.nil _ | apply Imp.drop))))
      · rw [decide_eq_false fun g => g1 g.1] at h
        exact h.imp (by (focus (repeat (first | exact Imp.refl _ | exact Imp.nil _ | apply Imp.drop))))
  rw [if_neg h3] at h
  refine Ent.condE (fun h4 => ?_) fun h4 => ?_
  · rw [if_pos h4] at h
    have hf : decide (bareD (x.k, x.s, x.c, x.d, x.h, x.p) = (x.k, x.s, x.c, x.d, x.h, x.p)) = decide (x.s = 0 ∧ x.h = [] ∧ x.p = 0) := decide_eq_decide.2 (by
      unfold bareD; dsimp only; rw [if_neg h1, if_neg h2, if_neg h3, if_pos h4]; simp only [Prod.mk.injEq, true_and]
      exact ⟨fun ⟨a, b, c⟩ => ⟨a.symm, b.symm, c.symm⟩, fun ⟨a, b, c⟩ => ⟨a.symm, b.symm, c.symm⟩⟩)
    rw [hf, j5] at h
    refine Ent.join ?_
    refine Ent.draw [pt ob (ouC x)] (by (focus ((repeat ((with_reducible apply Imp.pick); (repeat (first | exact Pick.hd | apply Pick.tl)))); (repeat (first | exact Imp.refl _ | exact Imp.nil _ | apply Imp.drop)); done))) ?_
    refine Ent.wgI ?_
    refine Ent.wgR ?_
    refine Ent.wgI ?_
    refine refnum_spec hx.c ?_
    refine Ent.wand ?_
    refine padS (by omega) ?_
    refine padS (b := [32]) (by simp; omega) ?_
    refine ref_quote_spec (b := x.d) (by omega) (hr.mono (by (focus (repeat (first | exact Imp.refl _ | exact Imp.nil _ | apply Imp.drop))))) ?_
    refine Ent.wand ?_
    refine padS (by simp; omega) ?_
    refine Ent.condE (fun g1 => ?_) fun g1 => ?_
    · refine Ent.wgS ?_
      refine bnilE ?_
      refine Ent.condD (fun g2 => ?_) fun g2 => ?_
      · refine Ent.wgI ?_
        rw [beqD, show decide (x.p = 0) = decide (x.s = 0 ∧ x.h = [] ∧ x.p = 0) from decide_eq_decide.2 ⟨fun g => ⟨g1, g2, g⟩, fun g => g.2.2⟩]
        exact h.drop
      · rw [decide_eq_false fun g => g2 g.2.1] at h
        exact h.drop
    · rw [decide_eq_false fun g => g1 g.1] at h
      exact h.drop
  rw [if_neg h4] at h
  have hf : decide (bareD (x.k, x.s, x.c, x.d, x.h, x.p) = (x.k, x.s, x.c, x.d, x.h, x.p)) = decide (x.s = 0 ∧ x.d = [] ∧ x.h = [] ∧ x.p = 0) := decide_eq_decide.2 (by
    unfold bareD; dsimp only; rw [if_neg h1, if_neg h2, if_neg h3, if_neg h4]; simp only [Prod.mk.injEq, true_and]
    exact ⟨fun ⟨a, b, c, d⟩ => ⟨a.symm, b.symm, c.symm, d.symm⟩, fun ⟨a, b, c, d⟩ => ⟨a.symm, b.symm, c.symm, d.symm⟩⟩)
  rw [hf, j4] at h
  refine Ent.draw [pt ob (ouC x)] (by (focus ((repeat ((with_reducible apply Imp.pick); (repeat (first | exact Pick.hd | apply Pick.tl)))); (repeat (first | exact Imp.refl _ | exact Imp.nil _ | apply Imp.drop)); done))) ?_
  refine Ent.wgI ?_
  refine Ent.wgI ?_
  refine refnum_spec hx.c ?_
  refine Ent.wand ?_
  refine padS (by omega) ?_
  refine Ent.condE (fun g1 => ?_) fun g1 => ?_
  · refine Ent.wgR ?_
    refine Ent.wsI ?_
    rw [len0, hdl]
    refine Ent.condD (fun g2 => ?_) fun g2 => ?_
    · refine Ent.wgS ?_
      refine bnilE ?_
      refine Ent.condD (fun g3 => ?_) fun g3 => ?_
      · refine Ent.wgI ?_
        rw [beqD, show decide (x.p = 0) = decide (x.s = 0 ∧ x.d = [] ∧ x.h = [] ∧ x.p = 0) from decide_eq_decide.2 ⟨fun g => ⟨g1, g2, g3, g⟩, fun g => g.2.2.2⟩]
        exact h.drop
      · rw [decide_eq_false fun g => g3 g.2.2.1] at h
        exact h.drop
    · rw [decide_eq_false fun g => g2 g.2.1] at h
      exact h.drop
  · rw [decide_eq_false fun g => g1 g.1] at h
    exact h.drop
theorem dDr_at {x : Dr} {k : Nat} {w : Int} {y : Ou} (hw : x.ws[k]? = some w) (hy : x.os[k]? = some y) : (dDr x).2.2[k]? = some (w, dOu y) := by
  have hzip : (x.ws.zip x.os)[k]? = some (w, y) := by rw [List.getElem?_zip_eq_some]; exact ⟨hw, hy⟩
  simp only [dDr, List.getElem?_map, hzip, Option.map_some]
theorem sL_len' {w : Int} {y : Ou} (h1 : I64 w) (h2 : OuR y) : (sL (w, dOu y)).1.length ≤ 4195000 := sL_len (y := (w, y)) h1 h2
theorem sTx_le {x : Dr} (hw : ∀ n ∈ x.ws, I64 n) (ho : ∀ y ∈ x.os, OuR y) (k : Nat) : (sTx ((dDr x).2.2.take k)).length ≤ 4195000 * k := by
  have h1 : (dDr x).2.2.take k = ((x.ws.zip x.os).take k).map fun p => dSe p := by
    rw [show (dDr x).2.2 = (x.ws.zip x.os).map fun p => dSe p from rfl, List.map_take]
  have h2 := sTx_len (l := (x.ws.zip x.os).take k) fun y hy => by
    have := List.mem_of_mem_take hy
    obtain ⟨a, b⟩ := y
    exact ⟨hw a (List.of_mem_zip this).1, ho b (List.of_mem_zip this).2⟩
  have h3 : ((x.ws.zip x.os).take k).map (fun p => dSe p) = ((x.ws.zip x.os).take k).map dSe := rfl
  rw [h1, h3]
  have h4 : ((x.ws.zip x.os).take k).length ≤ k := List.length_take_le k _
  have := Nat.mul_le_mul_left 4195000 h4
  omega
theorem refrowlines_spec {K : ByteArray → Bool → WP} {x : Dr} (hM : Has ctx (Sl.ro M)) (hx : DrM M R x) (hR : Imp ctx R) (h : Ent e ctx (K (ba (rwT (dDr x)).1) (rwT (dDr x)).2)) : Ent e ctx (ref31_RowLines (.agg (drC x).toArray) K) := by
  have hnl := name_len x.k
  have l1 := itoa_len x.er hx.er
  have hlo := hx.lo
  have hxn := hx.n
  have hml : ((dDr x).2.2 = []) ↔ x.os.length = 0 := by
    have : (dDr x).2.2.length = x.os.length := by simp [dDr, hxn]
    rw [← List.length_eq_zero_iff, this]
  (refine Ent.fn ref31_RowLines_ok ?_; unfold ref31_RowLines_sh)
  refine Ent.box' fun rb => ?_
  refine Ent.wfI ?_
  refine kind_spec ?_
  unfold rwT at h
  have e1 : (dDr x).1 = x.k := rfl
  have e2 : (dDr x).2.1 = x.er := rfl
  rw [e1, e2] at h
  refine Ent.join1 (kd := .bool) (fun v => pur (v = decide (nameAt kindsL x.k = [] ∨ ((dDr x).2.2 ≠ [] ∧ (x.k ≠ 8 ∨ x.er ≠ 0)))) :: pt rb (drC x) :: ctx) ?_ ?_
  rotate_left
  · intro j1 hj1
    refine Ent.opB (st_eqS).still ?_
    rw [show decide (ba (nameAt kindsL x.k) = (⟨#[]⟩ : ByteArray)) = decide (nameAt kindsL x.k = []) from ba_eqb _ []]
    refine Ent.condD (fun hnm => (hj1 _).imp (Imp.pur ?_ (Imp.refl _))) fun hnm => ?_
    · rw [decide_eq_true (.inl hnm)]
    refine Ent.wfR ?_
    refine Ent.wlen ?_
    refine Ent.condD (fun hl => ?_) fun hl => ?_
    · have hl2 : (dDr x).2.2 ≠ [] := fun hh => by have := hml.1 hh; omega
      refine Ent.wfI ?_
      refine Ent.condN (fun h8 => (hj1 _).imp (Imp.pur ?_ (Imp.refl _))) fun h8 => ?_
      · rw [decide_eq_true (.inr ⟨hl2, .inl h8⟩)]
      refine Ent.wfI ?_
      refine (hj1 _).imp (Imp.pur ?_ (Imp.refl _))
      by_cases he : x.er = 0
      · rw [he, decide_eq_false (fun hh => hh.elim hnm fun h2 => h2.2.elim (fun h3 => h3 h8) fun h3 => h3 rfl)]
        rfl
      · rw [decide_eq_true (.inr ⟨hl2, .inr he⟩)]
        exact bne_iff_ne.2 he
    · refine (hj1 _).imp (Imp.pur ?_ (Imp.refl _))
      rw [decide_eq_false (fun hh => hh.elim hnm fun h2 => h2.1 (hml.2 (by omega)))]
  intro v
  refine Ent.pur fun hv => ?_
  subst hv
  refine Ent.condD (fun hc => ?_) fun hc => ?_
  · rw [if_pos hc] at h
    exact h.drop
  rw [if_neg hc] at h
  refine Ent.wfI ?_
  refine Ent.condN (fun he => ?_) fun he => ?_
  · rw [if_pos he] at h
    refine addB (b := [32, 101, 114, 114, 111, 114, 32]) (by simp; omega) ?_
    refine Ent.wfI ?_
    refine refnum_spec hx.er ?_
    refine addB (by simp; omega) ?_
    refine addB (b := [10]) (by simp; omega) ?_
    rw [joinB_3] at h
    have e3 : nameAt kindsL x.k ++ [32, 101, 114, 114, 111, 114, 32] ++ Lib.itoa x.er ++ [10] = nameAt kindsL x.k ++ 32 :: ([101, 114, 114, 111, 114] ++ 32 :: Lib.itoa x.er) ++ [10] := by simp
    rw [e3]
    exact h.drop
  rw [if_neg (by simpa using he)] at h
  refine addB (b := [32, 111, 107, 10]) (by simp; omega) ?_
  obtain ⟨hd, hhd⟩ : ∃ hd, hd = joinB [nameAt kindsL x.k, [111, 107]] ++ [10] := ⟨_, rfl⟩
  have hhl : hd.length ≤ 100 := by rw [hhd, joinB_2]; simp; omega
  have e3 : nameAt kindsL x.k ++ [32, 111, 107, 10] = hd := by rw [hhd, joinB_2]; simp
  rw [e3]
  rw [← hhd] at h
  refine Ent.s2b rfl rfl rfl (by omega) fun a0 c0 => ?_
  unfold BS
  refine Ent.loop2 (k0 := .raw) (k1 := .int .i64) (fun N (b : Value) (i : Int) => (exs fun (p : Nat × Option Addr × Nat) => sepL [pur (b = .slice p.2.1 (hd ++ sTx ((dDr x).2.2.take p.1)).length p.2.2 ∧ i = (p.1 : Int) ∧ p.1 ≤ x.os.length ∧ N = x.os.length - p.1 ∧ ∀ y ∈ (dDr x).2.2.take p.1, (sL y).2 = true),
      SlO p.2.1 (hd ++ sTx ((dDr x).2.2.take p.1)).length p.2.2 1 (u8 (hd ++ sTx ((dDr x).2.2.take p.1)))]) :: pt rb (drC x) :: ctx) x.os.length ?_ fun N j3 hj3 b i => ?_
  · have e0 : hd ++ sTx ((dDr x).2.2.take 0) = hd := by rw [List.take_zero]; exact List.append_nil hd
    refine Imp.exs (0, a0, c0) (Imp.g2 (Imp.pur ⟨(by dsimp only; rw [e0]), rfl, Nat.zero_le _, rfl, fun y hy => by simp at hy⟩ ?_))
    dsimp only
    rw [e0]
    exact Imp.refl _
  refine Ent.exs fun ⟨k, a1, c1⟩ => Ent.g2 (Ent.pur fun ⟨f1, f2, f3, f4, f5⟩ => ?_)
  dsimp only at f1 f2 f3 f4 f5
  dsimp only
  subst f1 f2
  have hlen := sTx_le (x := x) hx.wi (fun y hy => (hx.d y hy).1) k
  refine Ent.wfR ?_
  refine Ent.wlen ?_
  refine Ent.condD (fun hl => ?_) fun hge => ?_
  · obtain ⟨w, hw⟩ : ∃ w, x.ws[k]? = some w := ⟨_, List.getElem?_eq_getElem (by omega)⟩
    obtain ⟨y, hy⟩ : ∃ y, x.os[k]? = some y := ⟨_, List.getElem?_eq_getElem (by omega)⟩
    have hat := dDr_at hw hy
    have hwi := hx.wi w (List.mem_of_getElem? hw)
    obtain ⟨hyo, hyr⟩ := hx.d y (List.mem_of_getElem? hy)
    have hel := sL_len' hwi hyo
    obtain ⟨d1, d2⟩ := ouD_ok w (dOu y)
    refine Ent.draw (pt rb (drC x) :: ctx) (by (focus (repeat (first | exact Imp.refl _ | exact Imp.nil _ | apply Imp.drop)))) ?_
    refine Ent.wgR (v := .slice x.wa x.ws.length x.wc) ?_
    refine Ent.wjIr (hx.w.rd (.tl hM)) ?_ rfl rfl rfl (by omega) (by omega) (by rw [Int.toNat_natCast]; simp only [iis, List.getElem?_map, hw, Option.map_some]; rfl)
    refine Ent.wgR (v := .slice x.oa x.os.length x.oc) ?_
    refine Ent.wjAm (f := ouC) (xs := x.os) hx.o hy ?_ (hM := .tl hM)
    refine refoutline_spec (t := w) (x := y) hyo hwi (hyr.mono (Imp.drop (Imp.drop hR))) ?_
    refine Ent.wand ?_ (hS := by (focus (repeat (first | exact Imp.refl _ | exact Imp.nil _ | apply Imp.drop))))
    refine Ent.cond (fun hc => ?_) fun hc => ?_
    · have hno : (sL (w, dOu y)).2 = false := by
        have h9 : (ouD w (dOu y)).2 = false := by simpa using hc
        exact d1.symm.trans h9
      have hall : (dDr x).2.2.all (fun d => (sL d).2) = false := by
        rw [List.all_eq_false]
        exact ⟨_, List.mem_of_getElem? hat, by rw [hno]; decide⟩
      rw [hall] at h
      exact h.drop.drop
    · have hyes : (ouD w (dOu y)).2 = true := by simpa using hc
      have hyes' : (sL (w, dOu y)).2 = true := d1.symm.trans hyes
      have hcat : (ouD w (dOu y)).1 ++ [10] = (sL (w, dOu y)).1 := d2 hyes
      have hdl : (ouD w (dOu y)).1.length ≤ 4195000 := by
        have := congrArg List.length hcat
        rw [List.length_append] at this
        omega
      have hBl : (hd ++ sTx ((dDr x).2.2.take k)).length ≤ 100 + 4195000 * k := by rw [List.length_append]; omega
      refine Ent.appendS (fun a2 c2 => ?_) (hl := by omega)
      refine Ent.slice (out := u8 [10]) (by_ := 1) rfl rfl rfl rfl (by decide) (by decide) (by rfl) fun b2 => ?_
      refine Ent.appN (sz := 1) (by_ := 1) (m := 1) (Rd.pt .hd) (fun a3 c3 => ?_) (hl := rfl) (hb := by rw [List.length_append]; omega) (h63 := by rw [List.length_append]; omega)
      refine Ent.war ?_
      refine (hj3 (N - 1) (by omega) _ _).imp ?_
      have e0 : hd ++ sTx ((dDr x).2.2.take (k + 1)) = hd ++ sTx ((dDr x).2.2.take k) ++ (ouD w (dOu y)).1 ++ [10] := by
        rw [take_snoc hat, sTx_snoc, ← hcat]; simp
      have e1 : (hd ++ sTx ((dDr x).2.2.take (k + 1))).length = (hd ++ sTx ((dDr x).2.2.take k) ++ (ouD w (dOu y)).1).length + 1 := by
        rw [e0, List.length_append (bs := [10])]; rfl
      refine Imp.exs (k + 1, a3, c3) (Imp.g2 (Imp.pur ⟨(by dsimp only; rw [e1]), (by dsimp only; omega), (by dsimp only; omega), (by dsimp only; omega), fun z hz => ?_⟩ ?_))
      · rw [take_snoc hat] at hz
        rcases List.mem_append.1 hz with hz | hz
        · exact f5 z hz
        · rw [List.mem_singleton.1 hz]; exact hyes'
      · dsimp only
        rw [e1, e0, u8_append (r := [10])]
        (focus ((repeat ((with_reducible apply Imp.pick); (repeat (first | exact Pick.hd | apply Pick.tl)))); (repeat (first | exact Imp.refl _ | exact Imp.nil _ | apply Imp.drop)); done))
  · have hkl : (dDr x).2.2.take k = (dDr x).2.2 := List.take_of_length_le (by
      have : (dDr x).2.2.length = x.os.length := by simp [dDr, hxn]
      omega)
    rw [hkl] at f5 hlen ⊢
    have hall : (dDr x).2.2.all (fun d => (sL d).2) = true := List.all_eq_true.2 fun d hd => f5 d hd
    rw [hall, if_pos rfl] at h
    refine Ent.rdS fun r1 _ => ?_
    refine obytes (r1 _ .hd) ?_
    exact h.drop.drop
theorem refrows_spec {K : ByteArray → Int → WP} {xs : List Dr} {a : Option Addr} {c : Nat} (hn : xs.length ≤ 16777216) (hbig : ∀ k, (rwTx ((xs.take k).map dDr)).length ≤ 140737488355328) (hM : Has ctx (Sl.ro M)) (hr : RdM M a (drcs xs)) (hxs : ∀ x ∈ xs, DrM M R x) (hR : Imp ctx R)
    (h : Ent e ctx (K (ba (rwText (xs.map dDr)).1) (rwText (xs.map dDr)).2)) : Ent e ctx (ref31_Rows (.slice a xs.length c) K) := by
  (refine Ent.fn ref31_Rows_ok ?_; unfold ref31_Rows_sh)
  refine Ent.loop2 (k0 := .raw) (k1 := .int .i64) (fun N (b : Value) (i : Int) => (exs fun (p : Nat × Option Addr × Nat) => sepL [pur (b = .slice p.2.1 (rwTx ((xs.take p.1).map dDr)).length p.2.2 ∧ i = (p.1 : Int) ∧ p.1 ≤ xs.length ∧ N = xs.length - p.1 ∧ ∀ x ∈ xs.take p.1, (rwT (dDr x)).2 = true),
      SlO p.2.1 (rwTx ((xs.take p.1).map dDr)).length p.2.2 1 (u8 (rwTx ((xs.take p.1).map dDr)))]) :: ctx) xs.length ?_ fun N j2 hj2 b i => ?_
  · refine Imp.trans (Imp.slN (sz := 1) (Imp.refl _)) ?_
    exact Imp.exs (0, none, 0) (Imp.g2 (Imp.pur ⟨rfl, rfl, Nat.zero_le _, rfl, fun x hx => by simp at hx⟩ (Imp.refl _)))
  refine Ent.exs fun ⟨k, a1, c1⟩ => Ent.g2 (Ent.pur fun ⟨f1, f2, f3, f4, f5⟩ => ?_)
  dsimp only at f1 f2 f3 f4 f5
  dsimp only
  subst f1 f2
  have hlen := hbig k
  refine Ent.wlen ?_
  refine Ent.condD (fun hl => ?_) fun hge => ?_
  · obtain ⟨x, hx⟩ : ∃ x, xs[k]? = some x := ⟨_, List.getElem?_eq_getElem (by omega)⟩
    have hxm := hxs x (List.mem_of_getElem? hx)
    have hx' : xs[(k : Int).toNat]? = some x := hx
    have hlen2 := hbig (k + 1)
    have e0 : rwTx ((xs.take (k + 1)).map dDr) = rwTx ((xs.take k).map dDr) ++ (rwT (dDr x)).1 := by
      rw [take_snoc hx, List.map_append]
      show rwTx ((xs.take k).map dDr ++ [dDr x]) = _
      rw [rwTx_snoc]
    rw [e0, List.length_append] at hlen2
    refine Ent.wiAr (f := drC) (xs := xs) (y := x) (hr.rd (.tl hM)) ?_ rfl rfl rfl (by omega) (by omega) (fun _ => rfl) (by decide) hx'
    refine refrowlines_spec (.tl hM) hxm (Imp.drop hR) ?_
    refine Ent.cond (fun hc => ?_) fun hc => ?_
    · have hno : (rwT (dDr x)).2 = false := by simpa using hc
      have hall : (xs.map dDr).all (fun d => (rwT d).2) = false := by
        rw [List.all_eq_false]
        exact ⟨dDr x, List.mem_map.2 ⟨x, List.mem_of_getElem? hx, rfl⟩, by rw [hno]; decide⟩
      unfold rwText at h
      rw [hall] at h
      exact h.drop
    · have hyes : (rwT (dDr x)).2 = true := by simpa using hc
      refine Ent.appendS (fun a2 c2 => ?_) (hl := by omega)
      refine Ent.war ?_
      refine (hj2 (N - 1) (by omega) _ _).imp ?_
      refine Imp.exs (k + 1, a2, c2) (Imp.g2 (Imp.pur ⟨(by dsimp only; rw [e0]), (by dsimp only; omega), (by dsimp only; omega), (by dsimp only; omega), fun y hy => ?_⟩ ?_))
      · rw [take_snoc hx] at hy
        rcases List.mem_append.1 hy with hy | hy
        · exact f5 y hy
        · rw [List.mem_singleton.1 hy]; exact hyes
      · dsimp only
        rw [e0]
        (focus ((repeat ((with_reducible apply Imp.pick); (repeat (first | exact Pick.hd | apply Pick.tl)))); (repeat (first | exact Imp.refl _ | exact Imp.nil _ | apply Imp.drop)); done))
  · obtain rfl : k = xs.length := by omega
    rw [List.take_length] at f5 hlen ⊢
    have hall : (xs.map dDr).all (fun d => (rwT d).2) = true := List.all_eq_true.2 fun d hd => by
      obtain ⟨x, hx, rfl⟩ := List.mem_map.1 hd
      exact f5 x hx
    unfold rwText at h
    rw [hall, if_pos rfl] at h
    refine Ent.wlen ?_
    refine Ent.condD (fun hc => ?_) fun hc => ?_
    · rw [if_pos (by omega)] at h
      exact h.drop
    · rw [if_neg (by omega)] at h
      refine Ent.rdS fun r1 _ => ?_
      refine obytes (r1 _ .hd) ?_
      exact h.drop
end
end Go.Proofs.YtoneapgooihajaaGreatDoor.Qa
