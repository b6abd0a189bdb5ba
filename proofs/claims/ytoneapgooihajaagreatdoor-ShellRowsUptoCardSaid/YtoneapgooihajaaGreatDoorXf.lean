/-
  READING A LAW's ROWS (layer 31); how long rows' texts are.
-/
import Derived.Test.YtoneapgooihajaaGreatDoorXe
import Derived.Test.YtoneapgooihajaaGreatDoorLift
set_option linter.unusedVariables false
set_option linter.unusedSimpArgs false
set_option maxRecDepth 100000
namespace Go.Proofs.YtoneapgooihajaaGreatDoor.Qa
open Go Sh Sl
theorem rwT_len {d : dR} (h1 : I64 d.2.1) (n : Nat) (h2 : (sTx d.2.2).length ≤ 4195000 * d.2.2.length) : (rwT d).1.length ≤ 4195000 * (d.2.2.length + 1) := by
  have hnl := name_len d.1
  have l1 := itoa_len d.2.1 h1
  unfold rwT
  split
  · simp
  · split
    · rw [joinB_3]; simp; omega
    · split
      · rw [joinB_2]; simp; omega
      · simp
theorem rwTx_len : ∀ (ds : List dR), (∀ d ∈ ds, I64 d.2.1 ∧ (sTx d.2.2).length ≤ 4195000 * d.2.2.length) → (rwTx ds).length ≤ 4195000 * (ds.map fun d => d.2.2.length + 1).sum
  | [], _ => by simp [rwTx]
  | d :: ds, h => by
    have h1 := rwT_len (h d (by simp)).1 0 (h d (by simp)).2
    have h2 := rwTx_len ds fun x hx => h x (by simp [hx])
    have e1 : rwTx (d :: ds) = (rwT d).1 ++ rwTx ds := by simp [rwTx]
    rw [e1, List.length_append, List.map_cons, List.sum_cons, Nat.mul_add]
    omega
theorem sum_take {X : Type} (f : X → Nat) : ∀ (l : List X) (k : Nat), ((l.take k).map f).sum ≤ (l.map f).sum
  | [], k => by simp
  | x :: l, 0 => by simp
  | x :: l, k + 1 => by
    have := sum_take f l k
    simp only [List.take_succ_cons, List.map_cons, List.sum_cons]
    omega
/-- what rows' texts are bounded by -/
theorem rows_big {ys : List Rw} (h : ∀ y ∈ ys, I64 y.er ∧ ∀ z ∈ y.l, I64 z.1 ∧ OuR z.2) (hs : (ys.map fun y => y.l.length + 1).sum ≤ 16777216) (k : Nat) : (rwTx ((ys.take k).map dRw)).length ≤ 140737488355328 := by
  have h1 := rwTx_len ((ys.take k).map dRw) fun d hd => by
    obtain ⟨y, hy, rfl⟩ := List.mem_map.1 hd
    obtain ⟨g1, g2⟩ := h y (List.mem_of_mem_take hy)
    refine ⟨g1, ?_⟩
    have := sTx_len (l := y.l) g2
    unfold dRw
    dsimp only
    rw [List.length_map]
    exact this
  have h2 : (((ys.take k).map dRw).map fun d => d.2.2.length + 1).sum = ((ys.take k).map fun y => y.l.length + 1).sum := by
    rw [List.map_map]
    congr 1
    refine List.map_congr_left fun y _ => ?_
    simp [dRw]
  have h3 := sum_take (fun y : Rw => y.l.length + 1) ys k
  omega
theorem len_dRw {ys : List Rw} : (ys.map fun y => y.l.length + 1) = (ys.map dRw).map fun d => d.2.2.length + 1 := by
  rw [List.map_map]
  refine List.map_congr_left fun y _ => ?_
  simp [dRw]
theorem len_dDr {xs : List Dr} : ((xs.map dDr).map fun d => d.2.2.length + 1).sum ≤ (xs.map fun x => x.os.length + 1).sum := by
  induction xs with
  | nil => simp
  | cons x xs ih =>
    simp only [List.map_cons, List.sum_cons]
    have : (dDr x).2.2.length ≤ x.os.length := by simp [dDr]; omega
    omega
section
variable {H : Type} {enc : TypeId × Value → H} {W : World}
theorem tr_ou {cs : List Value} {d : DataW H} (h : Lift.Tr enc W 84 cs d) :
    ∃ y : Ou, cs = ouC y ∧ (I64 y.s ∧ I64 y.c ∧ I64 y.p ∧ RdB [Lift.wh W] y.a y.d) ∧ y.d.length + y.h.length ≤ Rows.uptoBulk d := by
  obtain ⟨ds, hl, hc, hb, hf⟩ := Lift.tr_struct rfl rfl h
  obtain ⟨d0, e0, t0⟩ := hf 0 _ _ _ _ rfl rfl
  obtain ⟨d1, e1, t1⟩ := hf 1 _ _ _ _ rfl rfl
  obtain ⟨d2, e2, t2⟩ := hf 2 _ _ _ _ rfl rfl
  obtain ⟨d3, e3, t3⟩ := hf 3 _ _ _ _ rfl rfl
  obtain ⟨d4, e4, t4⟩ := hf 4 _ _ _ _ rfl rfl
  obtain ⟨d5, e5, t5⟩ := hf 5 _ _ _ _ rfl rfl
  match cs, hc with
  | [v0, v1, v2, v3, v4, v5], _ =>
    obtain ⟨n0, g0, r0⟩ := Lift.tr_int (k := .i64) rfl t0
    obtain ⟨n1, g1, r1⟩ := Lift.tr_int (k := .i64) rfl t1
    obtain ⟨n2, g2, r2⟩ := Lift.tr_int (k := .i64) rfl t2
    obtain ⟨a, c, l, g3, r3, r4, r5⟩ := Lift.tr_bytes (x := 5) rfl rfl rfl t3
    obtain ⟨n4, g4, r6⟩ := Lift.tr_str rfl t4
    obtain ⟨n5, g5, r7⟩ := Lift.tr_int (k := .i64) rfl t5
    simp only [List.drop_zero, List.take_succ_cons, List.take_zero, List.drop_succ_cons, List.cons.injEq, and_true] at g0 g1 g2 g3 g4 g5
    match ds, hl, e3, e4, hb with
    | [q0, q1, q2, q3, q4, q5], _, e3, e4, hb =>
      simp only [List.getElem?_cons_succ, List.getElem?_cons_zero, Option.some.injEq] at e3 e4
      subst e3 e4
      simp only [Rows.uptoBulkAll] at hb
      exact ⟨⟨n0, n1, n2, a, c, l, n4, n5⟩, by simp [g0, g1, g2, g3, g4, g5], ⟨r1, r2, r7, r4⟩, by dsimp only; omega⟩
def ouW (y : Ou) : Nat := y.d.length + y.h.length
/-- a row's weight -/
def drW (y : Dr) : Nat := y.ws.length + max y.os.length (y.os.map ouW).sum + 1
def DrN (W : World) (y : Dr) : Prop := I64 y.er ∧ Rd [Lift.wh W] y.wa (iis y.ws) ∧ Rd [Lift.wh W] y.oa (oucs y.os) ∧ (∀ n ∈ y.ws, I64 n) ∧ ∀ z ∈ y.os, I64 z.s ∧ I64 z.c ∧ I64 z.p ∧ RdB [Lift.wh W] z.a z.d
theorem DrN.r {W : World} {y : Dr} (h : DrN W y) (hk : drW y ≤ 1048576) : DrR [Lift.wh W] y := by
  obtain ⟨h1, h2, h3, h4, h5⟩ := h
  unfold drW at hk
  refine ⟨h1, h2, h3, h4, fun z hz => ?_, by omega, by omega⟩
  obtain ⟨p1, p2, p3, p4⟩ := h5 z hz
  have h6 : ouW z ≤ (y.os.map ouW).sum := Lift.le_sum ouW hz
  unfold ouW at h6
  exact ⟨⟨p1, p2, p3, by unfold ouW at hk; omega, by unfold ouW at hk; omega⟩, p4⟩
theorem tr_dr {cs : List Value} {d : DataW H} (h : Lift.Tr enc W 83 cs d) :
    ∃ y : Dr, cs = drC y ∧ DrN W y ∧ drW y ≤ Rows.uptoBulk d := by
  obtain ⟨ds, hl, hc, hb, hf⟩ := Lift.tr_struct rfl rfl h
  obtain ⟨d0, e0, t0⟩ := hf 0 _ _ _ _ rfl rfl
  obtain ⟨d1, e1, t1⟩ := hf 1 _ _ _ _ rfl rfl
  obtain ⟨d2, e2, t2⟩ := hf 2 _ _ _ _ rfl rfl
  obtain ⟨d3, e3, t3⟩ := hf 3 _ _ _ _ rfl rfl
  match cs, hc with
  | [v0, v1, v2, v3], _ =>
    obtain ⟨n0, g0, r0⟩ := Lift.tr_int (k := .i64) rfl t0
    obtain ⟨n1, g1, r1⟩ := Lift.tr_int (k := .i64) rfl t1
    obtain ⟨wa, m, wc, ws, g2, hm, hmc, hwr, hwN, hwb, _⟩ := Lift.tr_slice (X := Int) (fun m => [.int .i64 m]) I64 (fun _ => 0) (x := 3) rfl rfl (fun cs d h => by
      obtain ⟨q, hq, hq2⟩ := Lift.tr_int (k := .i64) rfl h
      exact ⟨q, hq, hq2, Nat.zero_le _⟩) t2
    obtain ⟨oa, p, oc, os, g3, hp, hpc, hor, hoN, hob, hos⟩ := Lift.tr_slice (X := Ou) (fun y => ouC y) (fun y => I64 y.s ∧ I64 y.c ∧ I64 y.p ∧ RdB [Lift.wh W] y.a y.d) ouW (x := 84) rfl rfl (fun cs d h => tr_ou h) t3
    subst hm hp
    simp only [List.drop_zero, List.take_succ_cons, List.take_zero, List.drop_succ_cons, List.cons.injEq, and_true] at g0 g1 g2 g3
    have hfl : (ws.map fun m => [Value.int .i64 m]).flatten = iis ws := flat1 (fun m => Value.int .i64 m) ws
    rw [hfl] at hwr
    match ds, hl, e2, e3, hb with
    | [q0, q1, q2, q3], _, e2, e3, hb =>
      simp only [List.getElem?_cons_succ, List.getElem?_cons_zero, Option.some.injEq] at e2 e3
      subst e2 e3
      simp only [Rows.uptoBulkAll] at hb
      refine ⟨⟨n0, n1, wa, wc, ws, oa, oc, os⟩, by simp [g0, g1, g2, g3], ⟨r1, hwr, hor, hwN, hoN⟩, ?_⟩
      unfold drW
      dsimp only
      omega
theorem tr_drs {t : TypeId} {cs : List Value} {d : DataW H} (ht : dd t = some (.sl 83)) (h : Lift.Tr enc W t cs d) (hk : Rows.uptoBulk d ≤ 1048576) :
    ∃ a c xs, cs = [.slice a (xs : List Dr).length c] ∧ xs.length ≤ Rows.uptoBulk d ∧ Rd [Lift.wh W] a (drcs xs) ∧ (∀ y ∈ xs, DrR [Lift.wh W] y) ∧ (xs.map fun x => x.os.length + 1).sum ≤ Rows.uptoBulk d := by
  obtain ⟨a, m, c, xs, h1, hn, hcc, hr, hN, hcb, hsum⟩ := Lift.tr_slice (X := Dr) (fun y => drC y) (DrN W) drW (x := 83) ht rfl (fun cs d' h => tr_dr h) h
  subst hn
  refine ⟨a, c, xs, h1, by omega, hr, fun y hy => (hN y hy).r ?_, ?_⟩
  · have := Lift.le_sum drW hy
    omega
  · refine Nat.le_trans ?_ hsum
    exact Lift.sum_le xs xs rfl fun i x y hx hy => by
      rw [hx] at hy
      cases hy
      unfold drW
      omega
end
end Go.Proofs.YtoneapgooihajaaGreatDoor.Qa
