/- StoreSays: WHAT A SLICE COUNTS FOR AND WHETHER IT ANSWERS A LIST OF LINES (any slice, any lines): within the bulk. -/
import Derived.Test.YtfofnagocedlgaaGreatDoorSw
import Derived.Test.YtfofnagocedlgaaGreatDoorLift
import Derived.Test.YtfofnagocedlgaaGreatDoorCards
import Derived.Test.YtfofnagocedlgaaGreatDoorTie
import Derived.Deep.DeepHandedRow
import Derived.Lib.LaidTab
set_option linter.unusedVariables false
set_option linter.unusedSimpArgs false
set_option maxRecDepth 100000
set_option maxHeartbeats 0
namespace Go.Proofs.YtfofnagocedlgaaGreatDoor.storeSays
open Go Sh Sl Tx
open Go.ChangeShapes Go.WideShapes Go.ChangeAt Go.RowKit
section
attribute [local irreducible] condK ArK NilK OpK FnK StK joinK loopK DrawK andK PuK NxK EnK vS uS bS callS invokeS
variable {e : Env} {ctx rest : List HProp}
theorem spec {K : Bool → WP} {x : Et} {a : Option Addr} {c : Nat} {l : List Tx.Fd} (hx : RdE ctx x) (bx : EB x) (hl : Rd ctx a (fc l)) (hb : fsz l ≤ 268435456) (h : Ent e ctx (K true)) :
    Ent e ctx (law21_StoreSays (.agg (ec x).toArray) (.slice a l.length c) K) := by
  (refine Ent.fn law21_StoreSays_ok ?_; unfold law21_StoreSays_sh)
  refine Ent.box' fun b => ?_
  refine Ent.draw [pt b (ec x)] (by (focus ((repeat ((with_reducible apply Imp.pick); (repeat (first | exact Pick.hd | apply Pick.tl)))); (repeat (first | exact Imp.refl _ | exact Imp.nil _ | apply Imp.drop)); done))) ?_
  refine Ent.imp (ctx' := Sl.ro (fun _ => none) :: pt b (ec x) :: ctx) (fun hp k => ⟨fun _ => none, hp, fun _ => .inl rfl, (fun _ _ hh => by cases hh), Hp.le_refl _, (fun _ _ hh => by cases hh), k⟩) ?_
  refine awake_spec fun M' _ => ?_
  refine Ent.wand ?_
  refine Ent.wT ?_
  have hx' : RdE (Sl.ro M' :: pt b (ec x) :: ctx) x := hx.tl.tl
  have hl' : Rd (Sl.ro M' :: pt b (ec x) :: ctx) a (fc l) := hl.mono (Imp.drop (Imp.drop (Imp.refl _)))
  refine Ent.stR (v := .agg (ec x).toArray) (st_loadA (n := 9) (cs := ec x) .hd rfl rfl rfl) ?_
  refine Ent.stR (v := .agg (ec x).toArray) (st_loadA (n := 9) (cs := ec x) .hd rfl rfl rfl) ?_
  refine size_spec hx' bx ?_
  refine Ent.wand ?_
  refine ref_size_spec hx' bx ?_
  refine Ent.wand ?_
  refine Ent.wT ?_
  refine Ent.stR (v := .agg (ec x).toArray) (st_loadA (n := 9) (cs := ec x) .hd rfl rfl rfl) ?_
  refine Ent.stR (v := .agg (ec x).toArray) (st_loadA (n := 9) (cs := ec x) .hd rfl rfl rfl) ?_
  refine for_spec hx' bx hl' hb ?_
  refine Ent.wand ?_
  refine ref_for_spec hx' bx hl' hb ?_
  refine Ent.wand ?_
  refine Ent.puB (st_eqB rfl) ?_
  rw [show (forE x l == forE x l) = true from beq_self_eq_true _]
  exact h.drop.drop
end
section
variable {H : Type} {enc : TypeId × Value → H} {W : World}
theorem tr_fds {t : TypeId} {cs : List Value} {d : DataW H} (ht : dd t = some (.sl 55)) (h : Lift.Tr enc W t cs d) : ∃ a c l, cs = [.slice a (l : List Tx.Fd).length c] ∧ Rd [Lift.wh W] a (fc l) ∧ fsz l ≤ 3 * Rows.uptoBulk d := by
  obtain ⟨a, m, c, xs, h1, hn, hcc, hr, hN, hcb, hsum⟩ := Lift.tr_slice (X := Tx.Fd) fdC (fun _ => True) (fun f => f.1.length + f.2.length) (x := 55) ht rfl (fun cs d h => by
    obtain ⟨gs, hl, hc, hb, hf⟩ := Lift.tr_struct rfl rfl h
    obtain ⟨y0, i0, u0⟩ := hf 0 _ _ _ _ rfl rfl
    obtain ⟨y1, i1, u1⟩ := hf 1 _ _ _ _ rfl rfl
    match cs, hc with
    | [c0, c1], _ =>
      obtain ⟨n0, h0, b0⟩ := Lift.tr_str rfl u0
      obtain ⟨n1, h1, b1⟩ := Lift.tr_str rfl u1
      simp only [List.drop_zero, List.take_succ_cons, List.take_zero, List.drop_succ_cons, List.cons.injEq, and_true] at h0 h1
      subst h0 h1
      refine ⟨(n0, n1), rfl, trivial, ?_⟩
      match gs, hl, i0, i1, hb with
      | [g0, g1], _, i0, i1, hb =>
        cases i0
        cases i1
        rw [hb]
        simp only [Rows.uptoBulkAll]
        omega) h
  subst hn
  refine ⟨a, c, xs, h1, hr, ?_⟩
  have e : fsz xs = (xs.map fun f => f.1.length + f.2.length).sum + 2 * xs.length := by
    clear h1 hcc hr hN hcb hsum
    induction xs with
    | nil => rfl
    | cons f r ih =>
      simp only [fsz, List.map_cons, List.sum_cons, List.length_cons] at ih ⊢
      omega
  omega
theorem tr_rc {cs : List Value} {d : DataW H} (h : Lift.Tr enc W 26 cs d) : ∃ x : Et, cs = rc x ∧ Rd [Lift.wh W] x.fa (fc x.fl) ∧ Rd [Lift.wh W] x.ba_ (u8 x.bl) ∧ x.rs.length ≤ Rows.uptoBulk d ∧ fsz x.fl ≤ 3 * Rows.uptoBulk d ∧ x.bl.length ≤ Rows.uptoBulk d := by
  obtain ⟨gs, hl, hc, hb, hf⟩ := Lift.tr_struct rfl rfl h
  obtain ⟨y0, i0, u0⟩ := hf 0 _ _ _ _ rfl rfl
  obtain ⟨y1, i1, u1⟩ := hf 1 _ _ _ _ rfl rfl
  obtain ⟨y2, i2, u2⟩ := hf 2 _ _ _ _ rfl rfl
  obtain ⟨y3, i3, u3⟩ := hf 3 _ _ _ _ rfl rfl
  obtain ⟨y4, i4, u4⟩ := hf 4 _ _ _ _ rfl rfl
  match cs, hc with
  | [c0, c1, c2, c3, c4], _ =>
    obtain ⟨n0, h0, _⟩ := Lift.tr_int (k := .i64) rfl u0
    obtain ⟨n1, h1, b1⟩ := Lift.tr_str rfl u1
    obtain ⟨n2, h2, _⟩ := Lift.tr_int (k := .i64) rfl u2
    obtain ⟨a3, k3, l3, h3, r3, b3⟩ := tr_fds rfl u3
    obtain ⟨a4, k4, l4, h4, q4, r4, b4⟩ := Lift.tr_bytes rfl rfl rfl u4
    simp only [List.drop_zero, List.take_succ_cons, List.take_zero, List.drop_succ_cons, List.cons.injEq, and_true] at h0 h1 h2 h3 h4
    subst h0 h1 h2 h3 h4
    have g1 := Lift.bulk_mem (List.mem_of_getElem? i1)
    have g3 := Lift.bulk_mem (List.mem_of_getElem? i3)
    have g4 := Lift.bulk_mem (List.mem_of_getElem? i4)
    exact ⟨⟨[], 0, 0, none, 0, [], n0, n1, n2, a3, k3, l3, a4, k4, l4⟩, rfl, r3, r4, by show n1.length ≤ _; omega, by show fsz l3 ≤ _; omega, by show l4.length ≤ _; omega⟩
theorem tr_et {cs : List Value} {d : DataW H} (h : Lift.Tr enc W 28 cs d) : ∃ x : Et, cs = ec x ∧ RdE [Lift.wh W] x ∧ (Rows.uptoBulk d ≤ 1048576 → EB x) := by
  obtain ⟨gs, hl, hc, hb, hf⟩ := Lift.tr_struct rfl rfl h
  obtain ⟨y0, i0, u0⟩ := hf 0 _ _ _ _ rfl rfl
  obtain ⟨y1, i1, u1⟩ := hf 1 _ _ _ _ rfl rfl
  obtain ⟨y2, i2, u2⟩ := hf 2 _ _ _ _ rfl rfl
  obtain ⟨y3, i3, u3⟩ := hf 3 _ _ _ _ rfl rfl
  obtain ⟨y4, i4, u4⟩ := hf 4 _ _ _ _ rfl rfl
  match cs, hc with
  | [c0, c1, c2, c3, c4, c5, c6, c7, c8], _ =>
    obtain ⟨n0, h0, b0⟩ := Lift.tr_str rfl u0
    obtain ⟨n1, h1, _⟩ := Lift.tr_int (k := .u64) rfl u1
    obtain ⟨n2, h2, _⟩ := Lift.tr_int (k := .u64) rfl u2
    obtain ⟨a3, k3, l3, h3, r3, b3⟩ := tr_fds rfl u3
    obtain ⟨x, h4, r4, r5, b4, b5, b6⟩ := tr_rc u4
    simp only [List.drop_zero, List.take_succ_cons, List.take_zero, List.drop_succ_cons, List.cons.injEq, and_true] at h0 h1 h2 h3 h4
    obtain ⟨rfl, rfl, rfl, rfl, rfl⟩ := h4
    subst h0 h1 h2 h3
    have g0 := Lift.bulk_mem (List.mem_of_getElem? i0)
    have g3 := Lift.bulk_mem (List.mem_of_getElem? i3)
    have g4 := Lift.bulk_mem (List.mem_of_getElem? i4)
    refine ⟨⟨n0, n1, n2, a3, k3, l3, x.st, x.rs, x.mi, x.fa, x.fk, x.fl, x.ba_, x.bk, x.bl⟩, rfl, ⟨r3, r4, r5⟩, fun hh => ⟨?_, ?_, ?_, ?_, ?_⟩⟩
    · show n0.length ≤ _; omega
    · show x.rs.length ≤ _; omega
    · show x.bl.length ≤ _; omega
    · show fsz l3 ≤ _; omega
    · show fsz x.fl ≤ _; omega
end
theorem walk {H : Type} {enc : TypeId × Value → H} {W : World} (base : Nat) (args : Array Value) (ds : List (DataW H)) (hval : ∀ (j : Nat) t v, Tryz.f3.params[j]? = some t → args[j]? = some v → Value.okWide Tryz.prog W .any base t v)
    (hA : ∃ p, DataW.TrodAll enc P W 0 (fun _ => true) true Tryz.f3.params.toList args.toList ds p) (hk : Rows.uptoBulkAll ds ≤ 1048576) :
    Calls P 3 args W fun e W' => e = .returned (.bool true) ∧ Below W.heap.size W W' := by
  obtain ⟨p, hA⟩ := hA
  have hp : Tryz.f3.params.toList = [28, 23] := rfl
  rw [hp] at hA
  obtain ⟨v0, vs0, d0, ds0, q0, hv0, rfl, t0, hA⟩ := Lift.tr_cons hA
  obtain ⟨v1, vs1, d1, ds1, q1, hv1, rfl, t1, hA⟩ := Lift.tr_cons hA
  obtain ⟨rfl, rfl⟩ := Lift.tr_nil hA
  simp only [Rows.uptoBulkAll] at hk
  obtain ⟨x, h0, rx, bx⟩ := tr_et t0
  obtain ⟨a, c, l, h1, hr, hb⟩ := tr_fds rfl t1
  obtain ⟨l', rfl⟩ : ∃ l : List Value, args = l.toArray := ⟨args.toList, by simp⟩
  simp only [List.toList_toArray] at hv0
  subst hv0 hv1
  obtain rfl := Lift.val_struct rfl (hval 0 _ _ rfl rfl) h0
  obtain rfl := Lift.val_slice rfl (hval 1 _ _ rfl rfl) h1
  exact Lift.calls_of fun K h => spec rx (bx (by omega)) hr (by omega) h
theorem own : ownKnob Tryz.prog.godebug = none := by kernel_rfl
theorem contract (H : Type) (enc : TypeId × Value → H) (W : World) (base : Nat) (args : Array Value) (ds gs : List (DataW H)) (before : List MemPlace) (hval : ∀ (j : Nat) t v, Tryz.f3.params[j]? = some t → args[j]? = some v → Value.okWide Tryz.prog W .any base t v)
    (hW : DataW.Whole enc Tryz.prog Tryz.f3.params.toList Rows.storeSaysSpec.vars false W args.toList ds gs before) (hk : Rows.uptoBulkAll (ds ++ gs) ≤ 1048576) :
    Calls Tryz.prog 3 args W fun e W' => ∃ v, e = .returned v ∧ Rows.storeSaysSpec.post enc Tryz.prog Tryz.f3 false true false false W args v W' := by
  have hgs : gs = [] := by
    obtain ⟨p, q, _, hV, _⟩ := hW
    cases gs <;> simp_all [DataW.TrodVars, Rows.storeSaysSpec]
  subst hgs
  rw [List.append_nil] at hk
  have hA : ∃ p, DataW.TrodAll enc P W 0 (fun _ => true) true Tryz.f3.params.toList args.toList ds p := by
    obtain ⟨p, q, hA, _⟩ := hW
    exact ⟨p, hA⟩
  refine (walk base args ds hval hA hk).mono fun e W' ⟨he, hb⟩ => ?_
  exact ⟨_, he, Lift.law_post' (by kernel_rfl) rfl rfl rfl (fun ds h => by first | (rcases ds with _ | ⟨d1, _ | ⟨d2, _ | ⟨d3, _ | ⟨d4, ds⟩⟩⟩⟩ <;> first | rfl | (exfalso; simp [Tryz.f3] at h; done))) (by kernel_rfl) hW hb⟩
noncomputable def flat : Nat → DataW Unit → List Value
  | 0, _ => []
  | n + 1, .lit (.int k i) => [.int k i]
  | n + 1, .agg l => l.flatMap (flat n)
  | _, _ => []
noncomputable def lay (name : String) (d : DataW Unit) (h : Array Obj) : Array Obj := h.modify ((Tryz.prog.globalNamed name).getD 0) fun
  | .cells _ t frozen => .cells (flat 3 d).toArray t frozen
  | o => o
/-- the settled world, utf8's two tables laid -/
noncomputable def laidWorld (os : Os) : World :=
  { World.holding Tryz.prog os ⟨#[], #[], []⟩ with heap := lay "unicode/utf8.first" Rows.laid_unicode_utf8_first (lay "unicode/utf8.acceptRanges" Rows.laid_unicode_utf8_acceptRanges (World.holding Tryz.prog os ⟨#[], #[], []⟩).heap) }
theorem laid_met (os : Os) : laidMet Tryz.prog Rows.storeSaysRow.laid ((laidWorld os).forCall (fun _ _ => 0) ⟨#[], #[.agg #[.string ⟨#[]⟩, .int .u64 0, .int .u64 0, .slice none 0 0, .int .i64 0, .string ⟨#[]⟩, .int .i64 0, .slice none 0 0, .slice none 0 0], .slice none 0 0], []⟩).memory :=
  laidMet_of_run' 8 (by kernel_rfl) (by kernel_rfl)
theorem reads (os : Os) {H : Type} (enc : TypeId × Value → H) : ∃ places, DataW.whole enc Tryz.prog ((laidWorld os).forCall (fun _ _ => 0) ⟨#[], #[.agg #[.string ⟨#[]⟩, .int .u64 0, .int .u64 0, .slice none 0 0, .int .i64 0, .string ⟨#[]⟩, .int .i64 0, .slice none 0 0, .slice none 0 0], .slice none 0 0], []⟩).memory Tryz.f3.params.toList Rows.storeSaysSpec.vars false #[.agg #[.string ⟨#[]⟩, .int .u64 0, .int .u64 0, .slice none 0 0, .int .i64 0, .string ⟨#[]⟩, .int .i64 0, .slice none 0 0, .slice none 0 0], .slice none 0 0].toList 8 = some ([.agg [.lit (.string []), .lit (.int .u64 0), .lit (.int .u64 0), .nil, .agg [.lit (.int .i64 0), .lit (.string []), .lit (.int .i64 0), .nil, .nil]], .nil], [], places) :=
  ⟨[], by kernel_rfl⟩
set_option maxRecDepth 100000 in
theorem lifted (os : Os) (started : os.Started) (H : Type) (enc : TypeId × Value → H) (F : Stop.Interp) :
    ReturnsInHanded {} Tryz.checked os 3 .any ((Rows.OpenSpec.upto Rows.storeSaysSpec).preRow enc Tryz.prog Tryz.f3 Rows.storeSaysUptoRow.domain false Rows.storeSaysUptoRow.laid) (((Rows.OpenSpec.upto Rows.storeSaysSpec).at F).post enc Tryz.prog Tryz.f3 false true false false) := by
  obtain ⟨places, hx⟩ := reads os enc
  refine returnsInHanded_of_row (C := Tryz.checked) (s := Rows.OpenSpec.upto Rows.storeSaysSpec) own started (by kernel_rfl) Tryz.func3
    (witness_row_at (enc := enc) (C := Tryz.checked) false (laidWorld os) #[.agg #[.string ⟨#[]⟩, .int .u64 0, .int .u64 0, .slice none 0 0, .int .i64 0, .string ⟨#[]⟩, .int .i64 0, .slice none 0 0, .slice none 0 0], .slice none 0 0] rfl (by kernel_rfl) (by kernel_rfl) (by kernel_rfl)
      (OpenSpec.preRow_of_cond 8 hx (by kernel_rfl) (fun k hk => by cases hk; kernel_rfl) (by kernel_rfl) (laid_met os))) ?_
  intro W base args ds gs before hval hW _ hcond _ hL _ _
  exact contract H enc W base args ds gs before hval hW (of_decide_eq_true (hcond _ rfl))
theorem over : Rows.StoreSaysUptoSaid :=
  OpenClaim.holds_of_cond 3 Tryz.f3 rfl rfl rfl rfl rfl rfl rfl ⟨rfl, rfl, rfl, rfl, rfl⟩ rfl rfl rfl rfl rfl (by kernel_rfl) Tryz.func3 (by kernel_rfl)
    (of_decide_eq_true (by kernel_rfl)) (by unfold Func.isWrapper; first | (rw [if_pos (by decide +kernel)]; kernel_rfl) | (rw [if_neg (by decide +kernel)]; exact ⟨rfl, rfl⟩))
    (fun os started H enc _ F => by rw [OpenClaim.pre_eq_preRow]; exact lifted os started H enc F)
theorem plain (f : FuncId) (fn : Func) (hf : Tryz.pinned.checked.prog.funcNamed "tollhouse/tollhouselaw21.StoreSays" = some f) (hfn : Tryz.pinned.checked.prog.funcs[f]? = some fn) :
    true = Tryz.pinned.checked.prog.looks [] ∧ ∀ (j : Nat) t, fn.params[j]? = some t → Tryz.pinned.checked.prog.wantsStandIn t = false := by
  obtain rfl : f = 3 := Option.some.inj ((show Tryz.prog.funcNamed "tollhouse/tollhouselaw21.StoreSays" = some 3 by kernel_rfl).symm.trans hf) |>.symm
  obtain rfl : fn = Tryz.f3 := (Option.some.inj (Tryz.func3.symm.trans hfn)).symm
  refine ⟨by kernel_rfl, fun j t ht => ?_⟩
  have := List.all_eq_true.1 (show (Tryz.f3.params.toList.all fun t => !Tryz.prog.wantsStandIn t) = true by kernel_rfl) t (by simpa using Array.mem_of_getElem? ht)
  exact (by simpa using this : Tryz.prog.wantsStandIn t = false)
theorem proved : Rows.StoreSaysUptoCardSaid :=
  Claim7.holds_tied_plain_at .later [] _ _ _ _ over (fun _ h => by cases h) (by kernel_rfl) (fun _ h => by cases h) storeSaysUpto_row_tie rfl ⟨rfl, rfl⟩ (by kernel_rfl) rfl plain (by kernel_rfl)

end Go.Proofs.YtfofnagocedlgaaGreatDoor.storeSays
