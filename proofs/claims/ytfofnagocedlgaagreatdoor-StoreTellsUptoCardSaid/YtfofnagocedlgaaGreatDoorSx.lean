/- READING A STORE'S ACTS: slices, lines, acts, with their bulk. -/
import Derived.Test.YtfofnagocedlgaaGreatDoorSw
import Derived.Test.YtfofnagocedlgaaGreatDoorLift
set_option linter.unusedVariables false
set_option linter.unusedSimpArgs false
set_option maxRecDepth 100000
set_option maxHeartbeats 0
namespace Go.Proofs.YtfofnagocedlgaaGreatDoor.Tx
open Go Sh Sl
attribute [local irreducible] condK ArK NilK OpK FnK StK joinK loopK DrawK andK PuK NxK EnK vS uS bS callS invokeS
/-- an act as it is given -/
structure Act where
  w : Int
  x : Et
  url : Bs
  a : Option Addr
  c : Nat
  l : List Tx.Fd
abbrev acC (y : Act) : List Value := [.int .i64 y.w, .string (ba y.x.url), .int .u64 y.x.asked, .int .u64 y.x.came, .slice y.x.wa y.x.wl.length y.x.wc, .int .i64 y.x.st, .string (ba y.x.rs), .int .i64 y.x.mi, .slice y.x.fa y.x.fl.length y.x.fk, .slice y.x.ba_ y.x.bl.length y.x.bk, .string (ba y.url), .slice y.a y.l.length y.c]
/-- bounds of a slice's parts -/
structure EK (x : Et) (n : Nat) : Prop where
  u : x.url.length ≤ n
  r : x.rs.length ≤ n
  b : x.bl.length ≤ n
  w : fsz x.wl ≤ 3 * n
  f : fsz x.fl ≤ 3 * n
theorem EK.eb {x : Et} {n : Nat} (h : EK x n) (hn : n ≤ 1048576) : EB x := by
  obtain ⟨h1, h2, h3, h4, h5⟩ := h
  exact ⟨by omega, by omega, by omega, by omega, by omega⟩
theorem EK.mono {x : Et} {n m : Nat} (h : EK x n) (hn : n ≤ m) : EK x m := by
  obtain ⟨h1, h2, h3, h4, h5⟩ := h
  exact ⟨by omega, by omega, by omega, by omega, by omega⟩
def ebk (x : Et) : Nat := max (max x.url.length x.rs.length) (max x.bl.length (max ((fsz x.wl + 2) / 3) ((fsz x.fl + 2) / 3)))
theorem ebk_le {x : Et} {n : Nat} : ebk x ≤ n ↔ EK x n := by
  unfold ebk
  constructor
  · intro h; exact ⟨by omega, by omega, by omega, by omega, by omega⟩
  · intro ⟨h1, h2, h3, h4, h5⟩; omega
theorem sum_mem {α : Type} {f : α → Nat} {l : List α} {y : α} (h : y ∈ l) : f y ≤ (l.map f).sum := by
  induction l with
  | nil => cases h
  | cons x r ih =>
    rw [List.map_cons, List.sum_cons]
    rcases List.mem_cons.1 h with rfl | h
    · omega
    · have := ih h; omega
def abk (y : Act) : Nat := max (ebk y.x) (max y.url.length ((fsz y.l + 2) / 3))
section
variable {H : Type} {enc : TypeId × Value → H} {W : World}
theorem tr_fds {t : TypeId} {cs : List Value} {d : DataW H} (ht : dd t = some (.sl 55)) (h : Lift.Tr enc W t cs d) : ∃ a c l, cs = [.slice a (l : List Tx.Fd).length c] ∧ Rd [Lift.wh W] a (fc l) ∧ fsz l ≤ 3 * Rows.uptoBulk d := by
  obtain ⟨a, m, c, xs, h1, hn, hcc, hr, hN, hcb, hsum⟩ := Lift.tr_slice (X := Tx.Fd) fdC (fun _ => True) (fun f => f.1.length + f.2.length) (x := 55) ht rfl (fun cs d h => by
    obtain ⟨gs, hl, hc, hb, hf⟩ := Lift.tr_struct rfl rfl h
    obtain ⟨y0, i0, u0⟩ := hf 0 _ _ _ _ rfl rfl
    obtain ⟨y1, i1, u1⟩ := hf 1 _ _ _ _ rfl rfl
    match cs, hc with
    | [c0, c1], _ =>
      obtain ⟨n0, h0, b0⟩ := Lift.tr_str rfl u0
      obtain ⟨n1, h1, b1⟩ := Lift.tr_str rfl u1
      simp only [List.drop_zero, List.take_succ_cons, List.take_zero, List.drop_succ_cons, List.cons.injEq, and_true] at h0 h1
      subst h0 h1
      refine ⟨(n0, n1), rfl, trivial, ?_⟩
      match gs, hl, i0, i1, hb with
      | [g0, g1], _, i0, i1, hb =>
        cases i0
        cases i1
        rw [hb]
        simp only [Rows.uptoBulkAll]
        omega) h
  subst hn
  refine ⟨a, c, xs, h1, hr, ?_⟩
  have e : fsz xs = (xs.map fun f => f.1.length + f.2.length).sum + 2 * xs.length := by
    clear h1 hcc hr hN hcb hsum
    induction xs with
    | nil => rfl
    | cons f r ih =>
      simp only [fsz, List.map_cons, List.sum_cons, List.length_cons] at ih ⊢
      omega
  omega
theorem tr_rc {cs : List Value} {d : DataW H} (h : Lift.Tr enc W 26 cs d) : ∃ x : Et, cs = rc x ∧ Rd [Lift.wh W] x.fa (fc x.fl) ∧ Rd [Lift.wh W] x.ba_ (u8 x.bl) ∧ x.rs.length ≤ Rows.uptoBulk d ∧ fsz x.fl ≤ 3 * Rows.uptoBulk d ∧ x.bl.length ≤ Rows.uptoBulk d := by
  obtain ⟨gs, hl, hc, hb, hf⟩ := Lift.tr_struct rfl rfl h
  obtain ⟨y0, i0, u0⟩ := hf 0 _ _ _ _ rfl rfl
  obtain ⟨y1, i1, u1⟩ := hf 1 _ _ _ _ rfl rfl
  obtain ⟨y2, i2, u2⟩ := hf 2 _ _ _ _ rfl rfl
  obtain ⟨y3, i3, u3⟩ := hf 3 _ _ _ _ rfl rfl
  obtain ⟨y4, i4, u4⟩ := hf 4 _ _ _ _ rfl rfl
  match cs, hc with
  | [c0, c1, c2, c3, c4], _ =>
    obtain ⟨n0, h0, _⟩ := Lift.tr_int (k := .i64) rfl u0
    obtain ⟨n1, h1, b1⟩ := Lift.tr_str rfl u1
    obtain ⟨n2, h2, _⟩ := Lift.tr_int (k := .i64) rfl u2
    obtain ⟨a3, k3, l3, h3, r3, b3⟩ := tr_fds rfl u3
    obtain ⟨a4, k4, l4, h4, q4, r4, b4⟩ := Lift.tr_bytes rfl rfl rfl u4
    simp only [List.drop_zero, List.take_succ_cons, List.take_zero, List.drop_succ_cons, List.cons.injEq, and_true] at h0 h1 h2 h3 h4
    subst h0 h1 h2 h3 h4
    have g1 := Lift.bulk_mem (List.mem_of_getElem? i1)
    have g3 := Lift.bulk_mem (List.mem_of_getElem? i3)
    have g4 := Lift.bulk_mem (List.mem_of_getElem? i4)
    exact ⟨⟨[], 0, 0, none, 0, [], n0, n1, n2, a3, k3, l3, a4, k4, l4⟩, rfl, r3, r4, by show n1.length ≤ _; omega, by show fsz l3 ≤ _; omega, by show l4.length ≤ _; omega⟩
theorem tr_et {cs : List Value} {d : DataW H} (h : Lift.Tr enc W 28 cs d) : ∃ x : Et, cs = ec x ∧ RdE [Lift.wh W] x ∧ EK x (Rows.uptoBulk d) := by
  obtain ⟨gs, hl, hc, hb, hf⟩ := Lift.tr_struct rfl rfl h
  obtain ⟨y0, i0, u0⟩ := hf 0 _ _ _ _ rfl rfl
  obtain ⟨y1, i1, u1⟩ := hf 1 _ _ _ _ rfl rfl
  obtain ⟨y2, i2, u2⟩ := hf 2 _ _ _ _ rfl rfl
  obtain ⟨y3, i3, u3⟩ := hf 3 _ _ _ _ rfl rfl
  obtain ⟨y4, i4, u4⟩ := hf 4 _ _ _ _ rfl rfl
  match cs, hc with
  | [c0, c1, c2, c3, c4, c5, c6, c7, c8], _ =>
    obtain ⟨n0, h0, b0⟩ := Lift.tr_str rfl u0
    obtain ⟨n1, h1, _⟩ := Lift.tr_int (k := .u64) rfl u1
    obtain ⟨n2, h2, _⟩ := Lift.tr_int (k := .u64) rfl u2
    obtain ⟨a3, k3, l3, h3, r3, b3⟩ := tr_fds rfl u3
    obtain ⟨x, h4, r4, r5, b4, b5, b6⟩ := tr_rc u4
    simp only [List.drop_zero, List.take_succ_cons, List.take_zero, List.drop_succ_cons, List.cons.injEq, and_true] at h0 h1 h2 h3 h4
    obtain ⟨rfl, rfl, rfl, rfl, rfl⟩ := h4
    subst h0 h1 h2 h3
    have g0 := Lift.bulk_mem (List.mem_of_getElem? i0)
    have g3 := Lift.bulk_mem (List.mem_of_getElem? i3)
    have g4 := Lift.bulk_mem (List.mem_of_getElem? i4)
    refine ⟨⟨n0, n1, n2, a3, k3, l3, x.st, x.rs, x.mi, x.fa, x.fk, x.fl, x.ba_, x.bk, x.bl⟩, rfl, ⟨r3, r4, r5⟩, ⟨?_, ?_, ?_, ?_, ?_⟩⟩
    · show n0.length ≤ _; omega
    · show x.rs.length ≤ _; omega
    · show x.bl.length ≤ _; omega
    · show fsz l3 ≤ _; omega
    · show fsz x.fl ≤ _; omega
theorem tr_act {cs : List Value} {d : DataW H} (h : Lift.Tr enc W 40 cs d) : ∃ y : Act, cs = acC y ∧ (RdE [Lift.wh W] y.x ∧ Rd [Lift.wh W] y.a (fc y.l)) ∧ abk y ≤ Rows.uptoBulk d := by
  obtain ⟨gs, hl, hc, hb, hf⟩ := Lift.tr_struct rfl rfl h
  obtain ⟨y0, i0, u0⟩ := hf 0 _ _ _ _ rfl rfl
  obtain ⟨y1, i1, u1⟩ := hf 1 _ _ _ _ rfl rfl
  obtain ⟨y2, i2, u2⟩ := hf 2 _ _ _ _ rfl rfl
  obtain ⟨y3, i3, u3⟩ := hf 3 _ _ _ _ rfl rfl
  match cs, hc with
  | [c0, c1, c2, c3, c4, c5, c6, c7, c8, c9, c10, c11], _ =>
    obtain ⟨n0, h0, _⟩ := Lift.tr_int (k := .i64) rfl u0
    obtain ⟨x, h1, r1, k1⟩ := tr_et u1
    obtain ⟨n2, h2, b2⟩ := Lift.tr_str rfl u2
    obtain ⟨a3, k3, l3, h3, r3, b3⟩ := tr_fds rfl u3
    simp only [List.drop_zero, List.take_succ_cons, List.take_zero, List.drop_succ_cons, List.cons.injEq, and_true] at h0 h1 h2 h3
    obtain ⟨rfl, rfl, rfl, rfl, rfl, rfl, rfl, rfl, rfl⟩ := h1
    subst h0 h2 h3
    have g1 := Lift.bulk_mem (List.mem_of_getElem? i1)
    have g2 := Lift.bulk_mem (List.mem_of_getElem? i2)
    have g3 := Lift.bulk_mem (List.mem_of_getElem? i3)
    have e1 := ebk_le.2 (k1.mono (by omega : Rows.uptoBulk y1 ≤ Rows.uptoBulk d))
    refine ⟨⟨n0, x, n2, a3, k3, l3⟩, rfl, ⟨r1, r3⟩, ?_⟩
    unfold abk
    dsimp only
    omega
theorem tr_acts {t : TypeId} {cs : List Value} {d : DataW H} (ht : dd t = some (.sl 40)) (h : Lift.Tr enc W t cs d) (hk : Rows.uptoBulk d ≤ 1048576) :
    ∃ a c xs, cs = [.slice a (xs : List Act).length c] ∧ Rd [Lift.wh W] a ((xs.map acC).flatten) ∧ ∀ y ∈ xs, (RdE [Lift.wh W] y.x ∧ Rd [Lift.wh W] y.a (fc y.l)) ∧ EB y.x ∧ fsz y.l ≤ 268435456 := by
  obtain ⟨a, m, c, xs, h1, hn, hcc, hr, hN, hcb, hsum⟩ := Lift.tr_slice (X := Act) acC (fun y => RdE [Lift.wh W] y.x ∧ Rd [Lift.wh W] y.a (fc y.l)) abk (x := 40) ht rfl (fun cs d h => tr_act h) h
  subst hn
  refine ⟨a, c, xs, h1, hr, fun y hy => ?_⟩
  have hs : abk y ≤ (xs.map abk).sum := sum_mem hy
  have h2 : ebk y.x ≤ abk y := by unfold abk; omega
  have h3 : (fsz y.l + 2) / 3 ≤ abk y := by unfold abk; omega
  exact ⟨hN y hy, (ebk_le.1 h2).eb (by omega), by omega⟩
end
end Go.Proofs.YtfofnagocedlgaaGreatDoor.Tx
