/- StoreLimits: NEVER MORE ENTRIES, NEVER MORE BYTES THAN MAY BE (any acts, the first 80): within the bulk. -/
import Derived.Test.YtfofnagocedlgaaGreatDoorSx
import Derived.Test.YtfofnagocedlgaaGreatDoorCards
import Derived.Test.YtfofnagocedlgaaGreatDoorTie
import Derived.Deep.DeepHandedRow
import Derived.Lib.LaidTab
set_option linter.unusedVariables false
set_option linter.unusedSimpArgs false
set_option maxRecDepth 100000
set_option maxHeartbeats 0
namespace Go.Proofs.YtfofnagocedlgaaGreatDoor.storeLimits
open Go Sh Sl Tx
open Go.ChangeShapes Go.WideShapes Go.ChangeAt Go.RowKit
section
attribute [local irreducible] condK ArK NilK OpK FnK StK joinK loopK DrawK andK PuK NxK EnK vS uS bS callS invokeS
variable {e : Env} {ctx rest : List HProp}
theorem sizes_eq : ∀ {ys zs : List Et}, ys.map dE = zs.map dE → ys.map size = zs.map size
  | [], [], _ => rfl
  | [], _ :: _, h => by cases h
  | _ :: _, [], h => by cases h
  | y :: ys, z :: zs, h => by
    simp only [List.map_cons, List.cons.injEq] at h ⊢
    exact ⟨size_of h.1, sizes_eq h.2⟩
theorem used_ents (X : List (Option Et)) : used X = ((ents X).map size).sum := by
  induction X with
  | nil => rfl
  | cons o r ih =>
    unfold used ents at *
    cases o with
    | none => simpa using ih
    | some x => simpa using ih
theorem ents_le {X : List (Option Et)} {most : Nat} (h : ∀ i : Nat, most ≤ i → ∀ x, X[i]? ≠ some (some x)) : (ents X).length ≤ most := by
  have e1 : ents X = ents (X.take most) ++ ents (X.drop most) := by unfold ents; rw [← List.filterMap_append, List.take_append_drop]
  have h1 : ents (X.drop most) = [] := List.filterMap_eq_nil_iff.2 fun o ho => by
    obtain ⟨j, hj⟩ := List.mem_iff_getElem?.1 ho
    rw [List.getElem?_drop] at hj
    cases o with
    | none => rfl
    | some x => exact absurd hj (h _ (by omega) x)
  have h2 : (ents (X.take most)).length ≤ (X.take most).length := List.length_filterMap_le _ _
  have h3 := List.length_take_le most X
  rw [e1, h1, List.append_nil]
  omega
def szs (ys : List Et) (k : Nat) : Nat := ((ys.take k).map size).sum
theorem szs_succ {ys : List Et} {k : Nat} {y : Et} (h : ys[k]? = some y) : szs ys (k + 1) = szs ys k + size y := by
  unfold szs
  rw [take_snoc h]
  simp
theorem szs_le {ys : List Et} {k : Nat} : szs ys k ≤ (ys.map size).sum := by
  unfold szs
  conv => rhs; rw [← List.take_append_drop k ys]
  rw [List.map_append, List.sum_append]
  omega
def LI (b bytes most N : Nat) : HProp := exs fun (q : Hp × List (Option Et) × List Int × List Int × Nat) => sepL [pur (q.2.2.2.2 ≤ N), SRep q.1 b q.2.1 q.2.2.1 q.2.2.2.1 bytes most q.2.2.2.2, Sl.ro q.1]
variable {b bytes most N n : Nat} {M : Hp} {X : List (Option Et)} {tr kp : List Int}
theorem LI.open {p : WP} (h : ∀ M X tr kp n, n ≤ N → Ent e (SRep M b X tr kp bytes most n :: Sl.ro M :: rest) p) : Ent e (LI b bytes most N :: rest) p :=
  Ent.exs fun q => Ent.g3 (Ent.pur fun hk => h _ _ _ _ _ hk)
theorem LI.shut (hn : n ≤ N) : Imp (SRep M b X tr kp bytes most n :: Sl.ro M :: rest) (LI b bytes most N :: rest) :=
  Imp.exs (M, X, tr, kp, n) (Imp.g3 (Imp.pur hn (Imp.refl _)))
theorem spec {K : Bool → WP} {by_ en : Int} {a : Option Addr} {c : Nat} {xs : List Tx.Act} (b0 : 0 ≤ by_) (b1 : by_ ≤ 65535) (k0 : 0 ≤ en) (k1 : en ≤ 255) (hx : Rd ctx a ((xs.map acC).flatten))
    (hxs : ∀ y ∈ xs, (RdE ctx y.x ∧ Rd ctx y.a (fc y.l)) ∧ EB y.x ∧ fsz y.l ≤ 268435456) (h : Ent e ctx (K true)) :
    Ent e ctx (law21_StoreLimits by_ en (.slice a xs.length c) K) := by
  (refine Ent.fn law21_StoreLimits_ok ?_; unfold law21_StoreLimits_sh)
  (refine Ent.go ?_)
  have e1 : en.tmod 65 = en % 65 := Int.tmod_eq_emod_of_nonneg k0
  rw [e1]
  have q0 : 0 ≤ en % 65 := Int.emod_nonneg _ (by omega)
  have q1 : en % 65 < 65 := Int.emod_lt_of_pos _ (by omega)
  obtain ⟨mi, hmi⟩ : ∃ mi, mi = en % 65 := ⟨_, rfl⟩
  rw [← hmi] at q0 q1 ⊢
  refine Ent.imp (ctx' := Sl.ro (fun _ => none) :: ctx) (fun hp k => ⟨fun _ => none, hp, fun _ => .inl rfl, (fun _ _ hh => by cases hh), Hp.le_refl _, (fun _ _ hh => by cases hh), k⟩) ?_
  refine snew_spec (fun hh => absurd ⟨b0, by omega, q0, by omega⟩ (of_decide_eq_false hh)) fun b bytes most hb hm hb2 hm2 => ?_
  subst hb hm
  refine Ent.join ?_
  refine Ent.imp (ctx' := Sl.ro (fun _ => none) :: SRep (fun _ => none) b (List.replicate 64 none) [] [] bytes most 0 :: ctx) (by (focus ((repeat ((with_reducible apply Imp.pick); (repeat (first | exact Pick.hd | apply Pick.tl)))); (repeat (first | exact Imp.refl _ | exact Imp.nil _ | apply Imp.drop)); done))) ?_
  refine awake_spec fun M0 l0 => ?_
  refine Ent.imp (ctx' := SRep (fun _ => none) b (List.replicate 64 none) [] [] bytes most 0 :: Sl.ro M0 :: ctx) (by (focus ((repeat ((with_reducible apply Imp.pick); (repeat (first | exact Pick.hd | apply Pick.tl)))); (repeat (first | exact Imp.refl _ | exact Imp.nil _ | apply Imp.drop)); done))) ?_
  refine Ent.imp (SRep.mono l0) ?_
  refine Ent.wF ?_
  refine Ent.wF ?_
  refine Ent.wlen ?_
  refine Ent.rngL0 xs.length (fun k => pur (k ≤ 80) :: LI b bytes most (2 * k) :: ctx) rfl ?_ ?_
  · exact Imp.pur (by omega) (LI.shut (by omega))
  intro k hk K' hK
  refine Ent.pur fun hk8 => ?_
  by_cases hl : k < xs.length
  rotate_left
  · refine Ent.wF ?_
    exact h.drop
  obtain ⟨y, hxk⟩ : ∃ y, xs[(k : Int).toNat]? = some y := ⟨_, List.getElem?_eq_getElem hl⟩
  obtain ⟨⟨hy1, hy2⟩, hy3, hy4⟩ := hxs y (List.mem_of_getElem? hxk)
  refine Ent.wT ?_
  refine Ent.wiAh (f := acC) ?_
  refine Ent.alloc' fun ab => ?_
  refine Ent.wstoA (l' := acC y) ?_ (vs := acC y) (hl := rfl) (hu := by (repeat (first | exact Upd.hd | apply Upd.tl)))
  by_cases hk4 : k = 80
  · refine Ent.wT ?_ (by simp; omega)
    exact h.drop.drop
  refine Ent.wF ?_ (by simp; omega)
  refine Ent.join0 (LI b bytes most (2 * (k + 1)) :: ctx) ?_ ?_
  rotate_left
  · intro j4 hj4
    have fin : ∀ {M X tr kp n}, n ≤ 2 * (k + 1) → Ent e (SRep M b X tr kp bytes most n :: Sl.ro M :: pt ab (acC y) :: ctx) j4 := fun {M X tr kp n} hi => by
      refine Ent.imp (LI.shut hi) ?_
      refine Ent.imp ?_ hj4
      (focus ((repeat ((with_reducible apply Imp.pick); (repeat (first | exact Pick.hd | apply Pick.tl)))); (repeat (first | exact Imp.refl _ | exact Imp.nil _ | apply Imp.drop)); done))
    clear hj4
    refine Ent.imp (ctx' := LI b bytes most (2 * k) :: pt ab (acC y) :: ctx) (by (focus ((repeat ((with_reducible apply Imp.pick); (repeat (first | exact Pick.hd | apply Pick.tl)))); (repeat (first | exact Imp.refl _ | exact Imp.nil _ | apply Imp.drop)); done))) ?_
    refine LI.open fun M X tr kp n hn => ?_
    refine Ent.wfI ?_
    refine Ent.condE (fun hw => ?_) fun hw => ?_
    · -- Put
      refine Ent.wfA (cs := ec y.x) ?_
      refine put_spec (x := y.x) hy1.tl hy3 (by omega) (fun _ => fin (by omega)) fun M' y2 l2 _ _ _ _ s2 _ _ => ?_
      exact fin (by omega)
    refine Ent.condE (fun hw => ?_) fun hw => ?_
    · -- Get
      refine Ent.wfS ?_
      refine Ent.wfR ?_
      refine get_s_spec (url := y.url) (l := y.l) (by omega) (hy2.mono (Imp.drop (Imp.refl _))) hy4 (fun _ => fin (by omega)) fun i x y2 _ _ _ _ => ?_
      refine Ent.imp (ctx' := SRep M b X (Lr.toT tr kp (most * 2 / 3) i).1 (Lr.toT tr kp (most * 2 / 3) i).2 bytes most (n + 2) :: Sl.ro M :: pt ab (acC y) :: ctx) (by (focus ((repeat ((with_reducible apply Imp.pick); (repeat (first | exact Pick.hd | apply Pick.tl)))); (repeat (first | exact Imp.refl _ | exact Imp.nil _ | apply Imp.drop)); done))) ?_
      exact fin (by omega)
    refine Ent.condE (fun hw => ?_) fun hw => ?_
    · -- Drop
      refine Ent.wfS ?_
      refine drop_spec (url := y.url) ?_
      exact fin (by omega)
    exact fin (by omega)
  refine LI.open fun M X tr kp n hn => ?_
  refine SRep.ok fun hok _ _ => ?_
  have hus := hok.us
  have hby := hok.by_
  have hle := ents_le hok.lt
  refine entries_spec fun M' ys a2 c2 l2 hys hrd => ?_
  have hsz := sizes_eq hys
  have hlen : ys.length = (ents X).length := by simpa using congrArg List.length hys
  have htot : (ys.map size).sum = used X := by rw [hsz, used_ents]
  refine Ent.wlen ?_
  refine Ent.rngL1 (k0 := .int .i64) ys.length (fun j (v : Int) => pur (v = (szs ys j : Int)) :: SlO a2 ys.length c2 9 (ecs ys) :: SRep M' b X tr kp bytes most n :: Sl.ro M' :: ctx) rfl ?_ ?_
  · exact Imp.pur rfl (Imp.refl _)
  intro j hj K2 hK2 v
  refine Ent.pur fun hv => ?_
  subst hv
  have hsj := szs_le (ys := ys) (k := j)
  by_cases hjl : j < ys.length
  · obtain ⟨z, hz⟩ : ∃ z, ys[(j : Int).toNat]? = some z := ⟨_, List.getElem?_eq_getElem hjl⟩
    have hz' : ys[j]? = some z := hz
    have hzm := hrd z (List.mem_of_getElem? hz')
    have hs1 := szs_le (ys := ys) (k := j + 1)
    have hs2 := szs_succ hz'
    refine Ent.wT ?_
    refine Ent.wiAo (f := ec) (xs := ys) (y := z) ?_
    refine Ent.alloc' fun xb => ?_
    refine Ent.wstoA (l' := ec z) ?_ (vs := ec z) (hl := rfl) (hu := by (repeat (first | exact Upd.hd | apply Upd.tl)))
    refine Ent.wlA (cs := ec z) ?_
    refine size_spec (hzm.1.rd (by (repeat (first | exact Has.hd | apply Has.tl)))) hzm.2 ?_
    have hv' : (szs ys j : Int) + (size z : Int) = (szs ys (j + 1) : Int) := by rw [hs2]; omega
    refine Ent.war ?_ (by rw [hv']; exact in_i64 (by omega) (by omega))
    refine Ent.war ?_
    refine Ent.imp ?_ (hK2 hjl _)
    refine Imp.pur hv' ?_
    (focus ((repeat ((with_reducible apply Imp.pick); (repeat (first | exact Pick.hd | apply Pick.tl)))); (repeat (first | exact Imp.refl _ | exact Imp.nil _ | apply Imp.drop)); done))
  · have hje : j = ys.length := by omega
    have e2 : szs ys j = used X := by
      unfold szs
      rw [hje, List.take_length, htot]
    rw [e2]
    refine Ent.wF ?_
    refine Ent.wlen ?_
    refine Ent.wF ?_
    (refine Ent.go ?_)
    refine Ent.imp (ctx' := SRep M' b X tr kp bytes most n :: Sl.ro M' :: ctx) (by (focus ((repeat ((with_reducible apply Imp.pick); (repeat (first | exact Pick.hd | apply Pick.tl)))); (repeat (first | exact Imp.refl _ | exact Imp.nil _ | apply Imp.drop)); done))) ?_
    refine used_spec ?_
    refine Ent.wF ?_
    refine Ent.war ?_
    refine Ent.imp ?_ (hK hl)
    exact Imp.pur (by omega) (LI.shut (by omega))
end
theorem walk {H : Type} {enc : TypeId × Value → H} {W : World} (base : Nat) (args : Array Value) (ds : List (DataW H)) (hval : ∀ (j : Nat) t v, Tryz.f5.params[j]? = some t → args[j]? = some v → Value.okWide Tryz.prog W .any base t v)
    (hA : ∃ p, DataW.TrodAll enc P W 0 (fun _ => true) true Tryz.f5.params.toList args.toList ds p) (hk : Rows.uptoBulkAll ds ≤ 1048576) :
    Calls P 5 args W fun e W' => e = .returned (.bool true) ∧ Below W.heap.size W W' := by
  obtain ⟨p, hA⟩ := hA
  have hp : Tryz.f5.params.toList = [32, 5, 33] := rfl
  rw [hp] at hA
  obtain ⟨v0, vs0, d0, ds0, q0, hv0, rfl, t0, hA⟩ := Lift.tr_cons hA
  obtain ⟨v1, vs1, d1, ds1, q1, hv1, rfl, t1, hA⟩ := Lift.tr_cons hA
  obtain ⟨v2, vs2, d2, ds2, q2, hv2, rfl, t2, hA⟩ := Lift.tr_cons hA
  obtain ⟨rfl, rfl⟩ := Lift.tr_nil hA
  simp only [Rows.uptoBulkAll] at hk
  obtain ⟨m, h0, r0, r1⟩ := Lift.tr_int (k := .u16) rfl t0
  obtain ⟨n, h1, r2, r3⟩ := Lift.tr_int (k := .u8) rfl t1
  obtain ⟨a, c, xs, h2, hr, hxs⟩ := tr_acts rfl t2 (by omega)
  obtain ⟨l', rfl⟩ : ∃ l : List Value, args = l.toArray := ⟨args.toList, by simp⟩
  simp only [List.toList_toArray] at hv0
  subst hv0 hv1 hv2
  obtain rfl := Lift.val_int rfl (hval 0 _ _ rfl rfl) h0
  obtain rfl := Lift.val_int rfl (hval 1 _ _ rfl rfl) h1
  obtain rfl := Lift.val_slice rfl (hval 2 _ _ rfl rfl) h2
  have j0 : (0 : Int) ≤ m := r0
  have j1 : m ≤ 65535 := r1
  have j2 : (0 : Int) ≤ n := r2
  have j3 : n ≤ 255 := r3
  exact Lift.calls_of fun K h => spec j0 j1 j2 j3 hr hxs h
theorem own : ownKnob Tryz.prog.godebug = none := by kernel_rfl
theorem contract (H : Type) (enc : TypeId × Value → H) (W : World) (base : Nat) (args : Array Value) (ds gs : List (DataW H)) (before : List MemPlace) (hval : ∀ (j : Nat) t v, Tryz.f5.params[j]? = some t → args[j]? = some v → Value.okWide Tryz.prog W .any base t v)
    (hW : DataW.Whole enc Tryz.prog Tryz.f5.params.toList Rows.storeLimitsSpec.vars false W args.toList ds gs before) (hk : Rows.uptoBulkAll (ds ++ gs) ≤ 1048576) :
    Calls Tryz.prog 5 args W fun e W' => ∃ v, e = .returned v ∧ Rows.storeLimitsSpec.post enc Tryz.prog Tryz.f5 false true false false W args v W' := by
  have hgs : gs = [] := by
    obtain ⟨p, q, _, hV, _⟩ := hW
    cases gs <;> simp_all [DataW.TrodVars, Rows.storeLimitsSpec]
  subst hgs
  rw [List.append_nil] at hk
  have hA : ∃ p, DataW.TrodAll enc P W 0 (fun _ => true) true Tryz.f5.params.toList args.toList ds p := by
    obtain ⟨p, q, hA, _⟩ := hW
    exact ⟨p, hA⟩
  refine (walk base args ds hval hA hk).mono fun e W' ⟨he, hb⟩ => ?_
  exact ⟨_, he, Lift.law_post' (by kernel_rfl) rfl rfl rfl (fun ds h => by first | (rcases ds with _ | ⟨d1, _ | ⟨d2, _ | ⟨d3, _ | ⟨d4, ds⟩⟩⟩⟩ <;> first | rfl | (exfalso; simp [Tryz.f5] at h; done))) (by kernel_rfl) hW hb⟩
noncomputable def flat : Nat → DataW Unit → List Value
  | 0, _ => []
  | n + 1, .lit (.int k i) => [.int k i]
  | n + 1, .agg l => l.flatMap (flat n)
  | _, _ => []
noncomputable def lay (name : String) (d : DataW Unit) (h : Array Obj) : Array Obj := h.modify ((Tryz.prog.globalNamed name).getD 0) fun
  | .cells _ t frozen => .cells (flat 3 d).toArray t frozen
  | o => o
/-- the settled world, utf8's two tables laid -/
noncomputable def laidWorld (os : Os) : World :=
  { World.holding Tryz.prog os ⟨#[], #[], []⟩ with heap := lay "unicode/utf8.first" Rows.laid_unicode_utf8_first (lay "unicode/utf8.acceptRanges" Rows.laid_unicode_utf8_acceptRanges (World.holding Tryz.prog os ⟨#[], #[], []⟩).heap) }
theorem laid_met (os : Os) : laidMet Tryz.prog Rows.storeLimitsRow.laid ((laidWorld os).forCall (fun _ _ => 0) ⟨#[], #[.int .u16 0, .int .u8 0, .slice none 0 0], []⟩).memory :=
  laidMet_of_run' 8 (by kernel_rfl) (by kernel_rfl)
theorem reads (os : Os) {H : Type} (enc : TypeId × Value → H) : ∃ places, DataW.whole enc Tryz.prog ((laidWorld os).forCall (fun _ _ => 0) ⟨#[], #[.int .u16 0, .int .u8 0, .slice none 0 0], []⟩).memory Tryz.f5.params.toList Rows.storeLimitsSpec.vars false #[.int .u16 0, .int .u8 0, .slice none 0 0].toList 8 = some ([.lit (.int .u16 0), .lit (.int .u8 0), .nil], [], places) :=
  ⟨[], by kernel_rfl⟩
set_option maxRecDepth 100000 in
theorem lifted (os : Os) (started : os.Started) (H : Type) (enc : TypeId × Value → H) (F : Stop.Interp) :
    ReturnsInHanded {} Tryz.checked os 5 .any ((Rows.OpenSpec.upto Rows.storeLimitsSpec).preRow enc Tryz.prog Tryz.f5 Rows.storeLimitsUptoRow.domain false Rows.storeLimitsUptoRow.laid) (((Rows.OpenSpec.upto Rows.storeLimitsSpec).at F).post enc Tryz.prog Tryz.f5 false true false false) := by
  obtain ⟨places, hx⟩ := reads os enc
  refine returnsInHanded_of_row (C := Tryz.checked) (s := Rows.OpenSpec.upto Rows.storeLimitsSpec) own started (by kernel_rfl) Tryz.func5
    (witness_row_at (enc := enc) (C := Tryz.checked) false (laidWorld os) #[.int .u16 0, .int .u8 0, .slice none 0 0] rfl (by kernel_rfl) (by kernel_rfl) (by kernel_rfl)
      (OpenSpec.preRow_of_cond 8 hx (by kernel_rfl) (fun k hk => by cases hk; kernel_rfl) (by kernel_rfl) (laid_met os))) ?_
  intro W base args ds gs before hval hW _ hcond _ hL _ _
  exact contract H enc W base args ds gs before hval hW (of_decide_eq_true (hcond _ rfl))
theorem over : Rows.StoreLimitsUptoSaid :=
  OpenClaim.holds_of_cond 5 Tryz.f5 rfl rfl rfl rfl rfl rfl rfl ⟨rfl, rfl, rfl, rfl, rfl⟩ rfl rfl rfl rfl rfl (by kernel_rfl) Tryz.func5 (by kernel_rfl)
    (of_decide_eq_true (by kernel_rfl)) (by unfold Func.isWrapper; first | (rw [if_pos (by decide +kernel)]; kernel_rfl) | (rw [if_neg (by decide +kernel)]; exact ⟨rfl, rfl⟩))
    (fun os started H enc _ F => by rw [OpenClaim.pre_eq_preRow]; exact lifted os started H enc F)
theorem plain (f : FuncId) (fn : Func) (hf : Tryz.pinned.checked.prog.funcNamed "tollhouse/tollhouselaw21.StoreLimits" = some f) (hfn : Tryz.pinned.checked.prog.funcs[f]? = some fn) :
    true = Tryz.pinned.checked.prog.looks [] ∧ ∀ (j : Nat) t, fn.params[j]? = some t → Tryz.pinned.checked.prog.wantsStandIn t = false := by
  obtain rfl : f = 5 := Option.some.inj ((show Tryz.prog.funcNamed "tollhouse/tollhouselaw21.StoreLimits" = some 5 by kernel_rfl).symm.trans hf) |>.symm
  obtain rfl : fn = Tryz.f5 := (Option.some.inj (Tryz.func5.symm.trans hfn)).symm
  refine ⟨by kernel_rfl, fun j t ht => ?_⟩
  have := List.all_eq_true.1 (show (Tryz.f5.params.toList.all fun t => !Tryz.prog.wantsStandIn t) = true by kernel_rfl) t (by simpa using Array.mem_of_getElem? ht)
  exact (by simpa using this : Tryz.prog.wantsStandIn t = false)
theorem proved : Rows.StoreLimitsUptoCardSaid :=
  Claim7.holds_tied_plain_at .later [] _ _ _ _ over (fun _ h => by cases h) (by kernel_rfl) (fun _ h => by cases h) storeLimitsUpto_row_tie rfl ⟨rfl, rfl⟩ (by kernel_rfl) rfl plain (by kernel_rfl)

end Go.Proofs.YtfofnagocedlgaaGreatDoor.storeLimits
