/- LruPlays: ROWS OF CALLS OF THE LIST ARE ANSWERED AS THE DOCUMENT SAYS (any list, any calls, the first 300): the whole statement. -/
import Derived.Test.YtgbihlbgkkpciaaLx
import Derived.Test.YtgbihlbgkkpciaaRv
import Derived.Test.YtgbihlbgkkpciaaLift
set_option linter.unusedVariables false
set_option linter.unusedSectionVars false
set_option linter.unusedSimpArgs false
set_option maxRecDepth 100000
set_option maxHeartbeats 0
namespace Go.Proofs.Ytgbihlbgkkpciaa.lruPlays
open Go Sh Sl Lr
open Go.ChangeShapes Go.WideShapes Go.ChangeAt Go.RowKit
section
attribute [local irreducible] condK ArK NilK OpK FnK StK joinK loopK DrawK andK PuK NxK EnK vS uS bS callS invokeS
variable {e : Env} {ctx rest : List HProp}
abbrev actC (x : Int × Int) : List Value := [.int .i64 x.1, .int .i64 x.2]
theorem lens {m : List (Int × Nat × Nat)} {tr kp : List Int} {t : Nat} (h : LOk m tr kp t) : tr.length ≤ 64 ∧ kp.length ≤ 64 := by
  obtain ⟨n1, n2, _⟩ := nodup_app.1 h.nd
  exact ⟨len_le 64 tr n1 fun y hy => h.ids y (List.mem_append_left _ hy), len_le 64 kp n2 fun y hy => h.ids y (List.mem_append_right _ hy)⟩
theorem spec {K : Bool → WP} {kept : Int} {a : Option Addr} {c : Nat} {xs : List (Int × Int)} (hx : Rd ctx a ((xs.map actC).flatten)) (h : Ent e ctx (K true)) :
    Ent e ctx (law20_LruPlays kept (.slice a xs.length c) K) := by
  (refine Ent.fn law20_LruPlays_ok ?_; unfold law20_LruPlays_sh)
  refine awake_spec ?_
  (refine Ent.go ?_)
  refine new_spec (fun hb => ?_) fun b g1 g2 => ?_
  · refine rnew_spec (fun _ => ?_) fun b g1 g2 => absurd ⟨g1, g2⟩ hb
    refine Ent.join ?_
    (refine Ent.go ?_)
    exact h
  refine rnew_spec (fun hb => absurd ⟨g1, g2⟩ hb) fun rb _ _ => ?_
  obtain ⟨most, rfl⟩ := Int.eq_ofNat_of_zero_le g1
  rw [Int.toNat_natCast]
  refine Ent.join ?_
  (refine Ent.go ?_)
  refine Ent.rngL1 (k0 := .raw) xs.length (fun k v => exs (fun (x : Nat × List Int × List Int) => sepL [pur (v = .pointer (some ⟨x.1, 0, none⟩) ∧ k ≤ 300), LRep x.1 x.2.1 x.2.2 most (2 * k), RRep rb x.2.1 x.2.2 most]) :: ctx) rfl ?_ ?_
  · refine Imp.exs (b, [], []) (Imp.g3 (Imp.pur ⟨rfl, by omega⟩ ?_))
    (focus ((repeat ((with_reducible apply Imp.pick); (repeat (first | exact Pick.hd | apply Pick.tl)))); (repeat (first | exact Imp.refl _ | exact Imp.nil _ | apply Imp.drop)); done))
  intro k hk K' hK v
  refine Ent.exs fun ⟨b, tr, kp⟩ => Ent.g3 (Ent.pur fun ⟨hv, hk3⟩ => ?_)
  dsimp only at hv
  subst hv
  dsimp only
  by_cases hl : k < xs.length
  rotate_left
  · (refine Ent.go ?_)
    refine Ent.imp ?_ h
    (focus (repeat (first | exact Imp.refl _ | exact Imp.nil _ | apply Imp.drop)))
  obtain ⟨x, hxk⟩ : ∃ x, xs[(k : Int).toNat]? = some x := ⟨_, List.getElem?_eq_getElem hl⟩
  (refine Ent.go ?_)
  refine Ent.wiAh ?_
  refine Ent.alloc' fun ab => ?_
  (refine Ent.go ?_)
  by_cases hk4 : k = 300
  · (refine Ent.go ?_)
    refine Ent.imp ?_ h
    (focus (repeat (first | exact Imp.refl _ | exact Imp.nil _ | apply Imp.drop)))
  (refine Ent.go ?_)
  obtain ⟨w, i⟩ := x
  refine Ent.bring (A := LRep b tr kp most _) ?_
  refine LRep.ok fun ⟨m, t, hok⟩ _ => ?_
  obtain ⟨l1, l2⟩ := lens hok
  refine Ent.join3 (kd := .raw) (kd2 := .int .i64) (kd3 := .int .i64) (fun l e1 e2 => exs (fun (x : Nat × List Int × List Int) => sepL [pur (l = .pointer (some ⟨x.1, 0, none⟩) ∧ e1 = e2), LRep x.1 x.2.1 x.2.2 most (2 * k + 2), RRep rb x.2.1 x.2.2 most]) :: ctx) ?_ ?_
  · intro l e1 e2
    refine Ent.exs fun ⟨b, tr, kp⟩ => Ent.g3 (Ent.pur fun ⟨hv, he⟩ => ?_)
    dsimp only at hv
    subst hv he
    dsimp only
    refine LRep.ok fun ⟨m, t, hok⟩ _ => ?_
    obtain ⟨l1, l2⟩ := lens hok
    refine victim_spec ?_
    refine Ent.bring (A := RRep rb tr kp most) ?_
    refine rvictim_spec l1 l2 ?_
    refine Ent.join ?_
    refine RRep.open fun a1 c1 a2 c2 r1 r2 => ?_
    (refine Ent.go ?_)
    refine Ent.condF (by simp) ?_
    (refine Ent.go ?_)
    rw [show ((vic tr kp).2 != (vic tr kp).2) = false by simp]
    (refine Ent.go ?_)
    refine Ent.bring (A := LRep b tr kp most _) ?_
    refine tried_spec fun a3 c3 => ?_
    refine Ent.rdS fun r3 _ => ?_
    (refine Ent.go ?_)
    refine same_spec (r3 _ (by (repeat (first | exact Has.hd | apply Has.tl)))) (r1 _ (by (repeat (first | exact Has.hd | apply Has.tl)))) (by omega) ?_
    rw [decide_eq_true rfl]
    (refine Ent.go ?_)
    refine Ent.bring (A := LRep b tr kp most _) ?_
    refine kept_spec fun a4 c4 => ?_
    refine Ent.rdS fun r4 _ => ?_
    (refine Ent.go ?_)
    refine same_spec (r4 _ (by (repeat (first | exact Has.hd | apply Has.tl)))) (r2 _ (by (repeat (first | exact Has.hd | apply Has.tl)))) (by omega) ?_
    rw [decide_eq_true rfl]
    (refine Ent.go ?_)
    refine RRep.fold (tr := tr) (kp := kp) ?_
    refine Ent.bring (A := LRep b tr kp most _) ?_
    refine tried_spec fun a5 c5 => ?_
    (refine Ent.go ?_)
    refine Ent.rngL0 tr.length (fun _ => LRep b tr kp most (2 * k + 2) :: RRep rb tr kp most :: ctx) rfl (by (focus ((repeat ((with_reducible apply Imp.pick); (repeat (first | exact Pick.hd | apply Pick.tl)))); (repeat (first | exact Imp.refl _ | exact Imp.nil _ | apply Imp.drop)); done))) ?_
    intro k2 hk2 K2 hK2
    by_cases hl2 : k2 < tr.length
    · (refine Ent.go ?_)
      refine tried_spec fun a6 c6 => ?_
      refine Ent.wiWo ?_
      (refine Ent.go ?_)
      refine Ent.imp ?_ (hK2 hl2)
      (focus ((repeat ((with_reducible apply Imp.pick); (repeat (first | exact Pick.hd | apply Pick.tl)))); (repeat (first | exact Imp.refl _ | exact Imp.nil _ | apply Imp.drop)); done))
    · (refine Ent.go ?_)
      refine Ent.imp ?_ (hK hl _)
      refine Imp.exs (b, tr, kp) (Imp.g3 (Imp.pur ⟨rfl, by omega⟩ ?_))
      (focus ((repeat ((with_reducible apply Imp.pick); (repeat (first | exact Pick.hd | apply Pick.tl)))); (repeat (first | exact Imp.refl _ | exact Imp.nil _ | apply Imp.drop)); done))
  · intro k' hk'
    have fin : ∀ {b tr kp n} (e1 : Int), n ≤ 2 * k + 2 → Ent e (LRep b tr kp most n :: RRep rb tr kp most :: ctx) (k' (.pointer (some ⟨b, 0, none⟩)) e1 e1) := by
      intro b tr kp n e1 hn
      refine LRep.more hn ?_
      refine Ent.imp ?_ (hk' _ _ _)
      refine Imp.exs (b, tr, kp) (Imp.g3 (Imp.pur ⟨rfl, rfl⟩ ?_))
      (focus ((repeat ((with_reducible apply Imp.pick); (repeat (first | exact Pick.hd | apply Pick.tl)))); (repeat (first | exact Imp.refl _ | exact Imp.nil _ | apply Imp.drop)); done))
    (refine Ent.go ?_)
    refine Ent.condE (fun hw => ?_) fun hw => ?_
    · refine Ent.draw [pt ab (actC (w, i))] (by (focus ((repeat ((with_reducible apply Imp.pick); (repeat (first | exact Pick.hd | apply Pick.tl)))); (repeat (first | exact Imp.refl _ | exact Imp.nil _ | apply Imp.drop)); done))) ?_
      (refine Ent.go ?_)
      refine add_spec (by omega) (fun hn => ?_) fun q1 q2 q3 => ?_
      · (refine Ent.go ?_)
        refine Ent.bring (A := RRep rb tr kp most) ?_
        refine radd_spec l1 l2 (fun _ => ?_) fun q1 q2 q3 => absurd (by unfold addC; rw [if_neg (by omega), if_neg q3]) hn
        (refine Ent.go ?_)
        exact Ent.fin (fin (b := b) (tr := tr) (kp := kp) (n := 2 * k) _ (by omega))
      · (refine Ent.go ?_)
        refine Ent.bring (A := RRep rb tr kp most) ?_
        refine radd_spec l1 l2 (fun hn => absurd (by unfold addC; rw [if_neg (by omega), if_neg q3]) hn) fun _ _ _ => ?_
        (refine Ent.go ?_)
        exact Ent.fin (fin (b := b) (tr := i :: tr) (kp := kp) (n := 2 * k + 1) _ (by omega))
    refine Ent.condE (fun hw => ?_) fun hw => ?_
    · refine Ent.draw [pt ab (actC (w, i))] (by (focus ((repeat ((with_reducible apply Imp.pick); (repeat (first | exact Pick.hd | apply Pick.tl)))); (repeat (first | exact Imp.refl _ | exact Imp.nil _ | apply Imp.drop)); done))) ?_
      (refine Ent.go ?_)
      refine touch_spec (by omega) (fun hn => ?_) fun q1 q2 q3 => ?_
      · (refine Ent.go ?_)
        refine Ent.bring (A := RRep rb tr kp most) ?_
        refine rtouch_spec l1 l2 (fun _ => ?_) fun q1 q2 q3 => absurd (by unfold toC; rw [if_neg (by omega), if_pos q3]) hn
        (refine Ent.go ?_)
        exact Ent.fin (fin (b := b) (tr := tr) (kp := kp) (n := 2 * k) _ (by omega))
      · (refine Ent.go ?_)
        refine Ent.bring (A := RRep rb tr kp most) ?_
        refine rtouch_spec l1 l2 (fun hn => absurd (by unfold toC; rw [if_neg (by omega), if_pos q3]) hn) fun _ _ _ => ?_
        (refine Ent.go ?_)
        exact Ent.fin (fin (b := b) (tr := (toT tr kp most i).1) (kp := (toT tr kp most i).2) (n := 2 * k + 2) _ (by omega))
    refine Ent.condE (fun hw => ?_) fun hw => ?_
    · refine Ent.draw [pt ab (actC (w, i))] (by (focus ((repeat ((with_reducible apply Imp.pick); (repeat (first | exact Pick.hd | apply Pick.tl)))); (repeat (first | exact Imp.refl _ | exact Imp.nil _ | apply Imp.drop)); done))) ?_
      (refine Ent.go ?_)
      refine remove_spec (fun hn => ?_) fun q1 q2 q3 => ?_
      · (refine Ent.go ?_)
        refine Ent.bring (A := RRep rb tr kp most) ?_
        refine rremove_spec l1 l2 (fun _ => ?_) fun q1 q2 q3 => absurd (by unfold toC; rw [if_neg (by omega), if_pos q3]) hn
        (refine Ent.go ?_)
        exact Ent.fin (fin (b := b) (tr := tr) (kp := kp) (n := 2 * k) _ (by omega))
      · (refine Ent.go ?_)
        refine Ent.bring (A := RRep rb tr kp most) ?_
        refine rremove_spec l1 l2 (fun hn => absurd (by unfold toC; rw [if_neg (by omega), if_pos q3]) hn) fun _ _ _ => ?_
        (refine Ent.go ?_)
        exact Ent.fin (fin (b := b) (tr := out tr i) (kp := out kp i) (n := 2 * k) _ (by omega))
    refine Ent.condE (fun hw => ?_) fun hw => ?_
    · (refine Ent.go ?_)
      refine victim_spec ?_
      refine Ent.bring (A := RRep rb tr kp most) ?_
      refine rvictim_spec l1 l2 ?_
      (refine Ent.go ?_)
      rw [show ((vic tr kp).2 != (vic tr kp).2) = false by simp]
      (refine Ent.go ?_)
      refine Ent.bring (A := LRep b tr kp most _) ?_
      refine Ent.cond (fun hv => ?_) fun hv => ?_
      · refine remove_spec (fun hn => ?_) fun q1 q2 q3 => ?_
        · refine Ent.bring (A := RRep rb tr kp most) ?_
          refine rremove_spec l1 l2 (fun _ => ?_) fun q1 q2 q3 => absurd (by unfold toC; rw [if_neg (by omega), if_pos q3]) hn
          exact Ent.fin (fin (b := b) (tr := tr) (kp := kp) (n := 2 * k) _ (by omega))
        · refine Ent.bring (A := RRep rb tr kp most) ?_
          refine rremove_spec l1 l2 (fun hn => absurd (by unfold toC; rw [if_neg (by omega), if_pos q3]) hn) fun _ _ _ => ?_
          exact Ent.fin (fin (b := b) (tr := out tr (vic tr kp).1) (kp := out kp (vic tr kp).1) (n := 2 * k) _ (by omega))
      · exact Ent.fin (fin (b := b) (tr := tr) (kp := kp) (n := 2 * k) _ (by omega))
    refine Ent.condE (fun hw => ?_) fun hw => ?_
    · refine copy_spec fun b2 => ?_
      have last : ∀ {tr2 kp2 n2} , Ent e (LRep b tr2 kp2 most n2 :: LRep b2 tr kp most (2 * k) :: RRep rb tr kp most :: pt ab (actC (w, i)) :: ctx) (k' (.pointer (some ⟨b2, 0, none⟩)) 0 0) := by
        intro tr2 kp2 n2
        exact Ent.fin (fin (b := b2) (tr := tr) (kp := kp) (n := 2 * k) _ (by omega))
      refine Ent.bring (A := LRep b tr kp most _) ?_
      have rem : ∀ {tr2 kp2 n2}, Ent e (LRep b tr2 kp2 most n2 :: LRep b2 tr kp most (2 * k) :: RRep rb tr kp most :: pt ab (actC (w, i)) :: ctx) (lru_List_Remove (.pointer (some ⟨b, 0, none⟩)) 7 fun _ => k' (.pointer (some ⟨b2, 0, none⟩)) 0 0) := by
        intro tr2 kp2 n2
        exact remove_spec (fun _ => last) fun _ _ _ => last
      have tou : ∀ {tr2 kp2 n2}, n2 ≤ 2 * k + 1 → Ent e (LRep b tr2 kp2 most n2 :: LRep b2 tr kp most (2 * k) :: RRep rb tr kp most :: pt ab (actC (w, i)) :: ctx) (lru_List_Touch (.pointer (some ⟨b, 0, none⟩)) 6 fun _ => lru_List_Remove (.pointer (some ⟨b, 0, none⟩)) 7 fun _ => k' (.pointer (some ⟨b2, 0, none⟩)) 0 0) := by
        intro tr2 kp2 n2 h2
        exact touch_spec (by omega) (fun _ => rem) fun _ _ _ => rem
      refine Ent.fin (ctx' := LRep b tr kp most (2 * k) :: LRep b2 tr kp most (2 * k) :: RRep rb tr kp most :: pt ab (actC (w, i)) :: ctx) ?_
      exact add_spec (by omega) (fun _ => tou (by omega)) fun _ _ _ => tou (by omega)
    · exact Ent.fin (fin (b := b) (tr := tr) (kp := kp) (n := 2 * k) _ (by omega))
end
theorem walk {H : Type} {enc : TypeId × Value → H} {W : World} (base : Nat) (args : Array Value) (ds : List (DataW H)) (hval : ∀ (j : Nat) t v, Try.f5.params[j]? = some t → args[j]? = some v → Value.okWide Try.prog W .any base t v)
    (hA : ∃ p, DataW.TrodAll enc P W 0 (fun _ => true) true Try.f5.params.toList args.toList ds p) :
    Calls P 5 args W fun e W' => e = .returned (.bool true) ∧ Below W.heap.size W W' := by
  obtain ⟨p, hA⟩ := hA
  have hp : Try.f5.params.toList = [3, 35] := rfl
  rw [hp] at hA
  obtain ⟨v0, vs0, d0, ds0, q0, hv0, rfl, t0, hA⟩ := Lift.tr_cons hA
  obtain ⟨v1, vs1, d1, ds1, q1, hv1, rfl, t1, hA⟩ := Lift.tr_cons hA
  obtain ⟨rfl, rfl⟩ := Lift.tr_nil hA
  obtain ⟨n, h0, r0⟩ := Lift.tr_int (k := .i64) rfl t0
  obtain ⟨a, m, c, xs, h1, hn, hcc, hr, hN, hcb, hsum⟩ := Lift.tr_slice (X := Int × Int) actC (fun _ => True) (fun _ => 0) (x := 38) rfl rfl (fun cs d h => by
    obtain ⟨gs, hl, hc, hb, hf⟩ := Lift.tr_struct rfl rfl h
    obtain ⟨y0, i0, u0⟩ := hf 0 _ _ _ _ rfl rfl
    obtain ⟨y1, i1, u1⟩ := hf 1 _ _ _ _ rfl rfl
    match cs, hc with
    | [c0, c1], _ =>
      obtain ⟨n0, h0, _⟩ := Lift.tr_int (k := .i64) rfl u0
      obtain ⟨n1, h1, _⟩ := Lift.tr_int (k := .i64) rfl u1
      simp only [List.drop_zero, List.take_succ_cons, List.take_zero, List.drop_succ_cons, List.cons.injEq, and_true] at h0 h1
      subst h0 h1
      exact ⟨(n0, n1), rfl, trivial, Nat.zero_le _⟩) t1
  obtain ⟨l, rfl⟩ : ∃ l : List Value, args = l.toArray := ⟨args.toList, by simp⟩
  simp only [List.toList_toArray] at hv0
  subst hv0 hv1
  obtain rfl := Lift.val_int rfl (hval 0 _ _ rfl rfl) h0
  obtain rfl := Lift.val_slice rfl (hval 1 _ _ rfl rfl) h1
  subst hn
  exact Lift.calls_of fun K h => spec hr h
theorem own : ownKnob Try.prog.godebug = none := by kernel_rfl
theorem contract (H : Type) (enc : TypeId × Value → H) (W : World) (base : Nat) (args : Array Value) (ds gs : List (DataW H)) (before : List MemPlace) (hval : ∀ (j : Nat) t v, Try.f5.params[j]? = some t → args[j]? = some v → Value.okWide Try.prog W .any base t v)
    (hW : DataW.Whole enc Try.prog Try.f5.params.toList Rows.lruPlaysSpec.vars false W args.toList ds gs before) :
    Calls Try.prog 5 args W fun e W' => ∃ v, e = .returned v ∧ Rows.lruPlaysSpec.post enc Try.prog Try.f5 false true false false W args v W' := by
  have hA : ∃ p, DataW.TrodAll enc P W 0 (fun _ => true) true Try.f5.params.toList args.toList ds p := by
    obtain ⟨p, q, hA, _⟩ := hW
    exact ⟨p, hA⟩
  refine (walk base args ds hval hA).mono fun e W' ⟨he, hb⟩ => ?_
  exact ⟨_, he, Lift.law_post' (by kernel_rfl) rfl rfl rfl (fun ds h => by first | (rcases ds with _ | ⟨d1, _ | ⟨d2, _ | ⟨d3, _ | ⟨d4, ds⟩⟩⟩⟩ <;> first | rfl | (exfalso; simp [Try.f5] at h; done))) (by kernel_rfl) hW hb⟩
set_option maxRecDepth 100000 in
theorem lifted (os : Os) (started : os.Started) (H : Type) (enc : TypeId × Value → H) :
    ReturnsInHanded {} Try.checked os 5 .any (Rows.lruPlaysSpec.pre6 enc Try.prog Try.f5 Rows.lruPlaysRow.domain false) (Rows.lruPlaysSpec.post enc Try.prog Try.f5 false true false false) := by
  refine returnsInHanded_of_change (C := Try.checked) own started (by kernel_rfl) Try.func5
    (ChangeSpec.witness6 (enc := enc) (C := Try.checked) false ⟨#[], #[.int .i64 0, .slice none 0 0], []⟩ 8 (by kernel_rfl) (by kernel_rfl) (by kernel_rfl) (by kernel_rfl)) ?_
  intro W base args ds gs before hval hW _ _
  exact contract H enc W base args ds gs before hval hW
theorem proved : Rows.LruPlaysSaid :=
  OpenClaim.holds_of_wide 5 Try.f5 rfl rfl rfl rfl rfl rfl rfl ⟨rfl, rfl, rfl, rfl, rfl⟩ rfl rfl rfl rfl rfl (by kernel_rfl) Try.func5 (by kernel_rfl)
    (of_decide_eq_true (by kernel_rfl)) (by unfold Func.isWrapper; first | (rw [if_pos (by decide +kernel)]; kernel_rfl) | (rw [if_neg (by decide +kernel)]; exact ⟨rfl, rfl⟩))
    (fun os started H enc _ => lifted os started H enc)

end Go.Proofs.Ytgbihlbgkkpciaa.lruPlays
