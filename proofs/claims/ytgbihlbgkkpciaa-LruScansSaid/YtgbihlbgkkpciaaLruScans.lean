/- LruScans: WHAT IS KEPT STAYS, IN ITS ORDER, WHATEVER IS ADDED AND NEVER TOUCHED (any members kept, the first 20, any scan, the first 300): the whole statement. -/
import Derived.Test.YtgbihlbgkkpciaaLx
import Derived.Test.YtgbihlbgkkpciaaRv
import Derived.Test.YtgbihlbgkkpciaaLift
set_option linter.unusedVariables false
set_option linter.unusedSectionVars false
set_option linter.unusedSimpArgs false
set_option maxRecDepth 100000
set_option maxHeartbeats 0
namespace Go.Proofs.Ytgbihlbgkkpciaa.lruScans
open Go Sh Sl Lr
open Go.ChangeShapes Go.WideShapes Go.ChangeAt Go.RowKit
section
attribute [local irreducible] condK ArK NilK OpK FnK StK joinK loopK DrawK andK PuK NxK EnK vS uS bS callS invokeS
variable {e : Env} {ctx rest : List HProp}
theorem spec {K : Bool → WP} {a1 a2 : Option Addr} {c1 c2 : Nat} {ks ss : List Int} (hx : Rd ctx a1 (ks.map fun x => .int .u8 x)) (hy : Rd ctx a2 (ss.map fun x => .int .u8 x)) (hk : ∀ y ∈ ks, inR .u8 y) (hs : ∀ y ∈ ss, inR .u8 y) (h : Ent e ctx (K true)) :
    Ent e ctx (law20_LruScans (.slice a1 ks.length c1) (.slice a2 ss.length c2) K) := by
  (refine Ent.fn law20_LruScans_ok ?_; unfold law20_LruScans_sh)
  refine new_spec (kept := 20) (fun h => absurd h (by decide)) fun b _ _ => ?_
  rw [show (20 : Int).toNat = 20 from rfl]
  refine Ent.join ?_
  refine awake_spec ?_
  (refine Ent.go ?_)
  refine Ent.join0 ((exs fun (kp : List Int) => sepL [pur (∀ y, y ∈ kp → 0 ≤ y ∧ y < 32), LRep b [] kp 20 1000]) :: ctx) ?_ ?_
  rotate_left
  · intro k' hk'
    (refine Ent.go ?_)
    refine Ent.rngL0 ks.length (fun k => (exs fun (kp : List Int) => sepL [pur ((∀ y, y ∈ kp → 0 ≤ y ∧ y < 32) ∧ kp.length ≤ k ∧ k ≤ 20), LRep b [] kp 20 (3 * k)]) :: ctx) rfl ?_ ?_
    · refine Imp.exs [] (Imp.g2 (Imp.pur ⟨by simp, by simp, by omega⟩ ?_))
      (focus ((repeat ((with_reducible apply Imp.pick); (repeat (first | exact Pick.hd | apply Pick.tl)))); (repeat (first | exact Imp.refl _ | exact Imp.nil _ | apply Imp.drop)); done))
    intro k hkk K' hK
    refine Ent.exs fun kp => Ent.g2 (Ent.pur fun ⟨f1, f2, f3⟩ => ?_)
    have done : ∀ {n kp}, (∀ y, y ∈ kp → 0 ≤ y ∧ y < 32) → n ≤ 1000 → Ent e (LRep b [] kp 20 n :: ctx) k' := fun {n kp} hkp hn => by
      refine LRep.more hn ?_
      refine Ent.imp ?_ hk'
      exact Imp.exs kp (Imp.g2 (Imp.pur hkp (Imp.refl _)))
    by_cases hl : k < ks.length
    rotate_left
    · (refine Ent.go ?_)
      exact done f1 (by omega)
    obtain ⟨x, hxk⟩ : ∃ x, ks[(k : Int).toNat]? = some x := ⟨_, List.getElem?_eq_getElem hl⟩
    have hx8 := hk x (List.mem_of_getElem? hxk)
    have p0 : 0 ≤ x := hx8.1
    have p1 : x ≤ 255 := hx8.2
    (refine Ent.go ?_)
    by_cases h20 : k = 20
    · (refine Ent.go ?_)
      exact done f1 (by omega)
    (refine Ent.go ?_)
    have e1 : x.tmod 32 = x % 32 := Int.tmod_eq_emod_of_nonneg p0
    rw [e1]
    have q0 : 0 ≤ x % 32 := Int.emod_nonneg _ (by omega)
    have q1 : x % 32 < 32 := Int.emod_lt_of_pos _ (by omega)
    obtain ⟨id, hid⟩ : ∃ id, id = x % 32 := ⟨_, rfl⟩
    rw [← hid] at q0 q1 ⊢
    have key : ∀ {tr n}, id ∈ tr ++ kp → (tr = [] ∨ tr = [id]) → n ≤ 3 * k + 1 → Ent e (LRep b tr kp 20 n :: ctx) (oI .i64 (vS (convert 5 3 (.int .u8 x))) fun t40 => oI .i64 (bS .rem 3 (.tmp 40) (.const (.int .i64 32)) (.int .i64 t40) (.int .i64 32)) fun t41 => lru_List_Touch (.pointer (some ⟨b, 0, none⟩)) t41 fun t42 => condK (t42 != 0) (K false) (ArK .i64 ((k : Int) + 1) fun t44 => K' t44)) := by
      intro tr n hm htr hn
      (refine Ent.go ?_)
      rw [e1, ← hid]
      have hlen : ¬ 20 < (id :: out kp id).length := by
        have : (out kp id).length ≤ kp.length := List.length_filter_le _ _
        simp only [List.length_cons]
        omega
      have ht : toT tr kp 20 id = ([], id :: out kp id) := by
        unfold toT
        rw [if_neg hlen]
        rcases htr with rfl | rfl <;> simp [out]
      refine touch_to (tr' := []) (kp' := id :: out kp id) ht (by unfold toC; rw [if_neg (by omega), if_pos hm]) (by omega) ?_
      (refine Ent.go ?_)
      refine LRep.more (n' := 3 * (k + 1)) (by omega) ?_
      refine Ent.imp ?_ (hK hl)
      refine Imp.exs (id :: out kp id) (Imp.g2 (Imp.pur ⟨fun y hy => ?_, ?_, by omega⟩ (Imp.refl _)))
      · rcases List.mem_cons.1 hy with rfl | hy
        · omega
        · exact f1 y (mem_out.1 hy).1
      · have : (out kp id).length ≤ kp.length := List.length_filter_le _ _
        simp only [List.length_cons]
        omega
    refine add_spec (by omega) (fun hc => ?_) fun _ _ _ => ?_
    · refine key ?_ (.inl rfl) (by omega)
      by_cases hm : id ∈ [] ++ kp
      · exact hm
      · exact absurd (by unfold addC; rw [if_neg (by omega), if_neg hm]) hc
    · exact key (by simp) (.inr rfl) (by omega)
  refine Ent.exs fun kp => Ent.g2 (Ent.pur fun hkp => ?_)
  refine kept_spec fun aw cw => ?_
  (refine Ent.go ?_)
  refine Ent.rngL0 ss.length (fun k => (exs fun (tr : List Int) => sepL [pur ((∀ y, y ∈ tr → 32 ≤ y) ∧ tr.length ≤ 3 ∧ k ≤ 300), LRep b tr kp 20 (1000 + k)]) :: SlO aw kp.length cw 1 (ic kp) :: ctx) rfl ?_ ?_
  · refine Imp.trans ?_ (Imp.exs [] (Imp.g2 (Imp.pur ⟨by simp, by simp, by omega⟩ (Imp.refl _))))
    (focus ((repeat ((with_reducible apply Imp.pick); (repeat (first | exact Pick.hd | apply Pick.tl)))); (repeat (first | exact Imp.refl _ | exact Imp.nil _ | apply Imp.drop)); done))
  intro k hkk K' hK
  refine Ent.exs fun tr => Ent.g2 (Ent.pur fun ⟨f1, f2, f3⟩ => ?_)
  by_cases hl : k < ss.length
  rotate_left
  · (refine Ent.go ?_)
    refine Ent.imp ?_ h
    (focus (repeat (first | exact Imp.refl _ | exact Imp.nil _ | apply Imp.drop)))
  obtain ⟨x, hxk⟩ : ∃ x, ss[(k : Int).toNat]? = some x := ⟨_, List.getElem?_eq_getElem hl⟩
  have hx8 := hs x (List.mem_of_getElem? hxk)
  have p0 : 0 ≤ x := hx8.1
  have p1 : x ≤ 255 := hx8.2
  (refine Ent.go ?_)
  by_cases h300 : k = 300
  · (refine Ent.go ?_)
    refine Ent.imp ?_ h
    (focus (repeat (first | exact Imp.refl _ | exact Imp.nil _ | apply Imp.drop)))
  (refine Ent.go ?_)
  have e1 : x.tmod 32 = x % 32 := Int.tmod_eq_emod_of_nonneg p0
  rw [e1]
  have q0 : 0 ≤ x % 32 := Int.emod_nonneg _ (by omega)
  have q1 : x % 32 < 32 := Int.emod_lt_of_pos _ (by omega)
  obtain ⟨id, hid⟩ : ∃ id, id = x % 32 := ⟨_, rfl⟩
  rw [← hid] at q0 q1 ⊢
  (refine Ent.go ?_)
  -- what is left to do behind the tries
  have fin : ∀ {tr : List Int}, (∀ y, y ∈ tr → 32 ≤ y) → tr.length ≤ 3 → Ent e (LRep b tr kp 20 (1000 + (k + 1)) :: SlO aw kp.length cw 1 (ic kp) :: ctx) (lru_List_Kept (.pointer (some ⟨b, 0, none⟩)) fun t84 => ref20_Same t84 (.slice aw kp.length cw) fun t86 => condK (!t86) (K false) (ArK .i64 ((k : Int) + 1) fun t88 => K' t88)) := by
    intro tr g1 g2
    refine kept_spec fun a3 c3 => ?_
    refine Ent.rdS fun r3 _ => ?_
    refine Ent.bring (A := SlO aw kp.length cw 1 (ic kp)) ?_
    refine Ent.rdS fun r4 _ => ?_
    refine Ent.bring (A := LRep b tr kp 20 _) ?_
    refine LRep.ok fun ⟨m, t, hok⟩ _ => ?_
    have hl64 := len_le 64 kp (nodup_app.1 hok.nd).2.1 fun y hy => hok.ids y (List.mem_append_right _ hy)
    refine same_spec (r3 _ (by (repeat (first | exact Has.hd | apply Has.tl)))) (r4 _ (by (repeat (first | exact Has.hd | apply Has.tl)))) (by omega) ?_
    rw [decide_eq_true rfl]
    (refine Ent.go ?_)
    refine Ent.imp ?_ (hK hl)
    refine Imp.trans ?_ (Imp.exs tr (Imp.g2 (Imp.pur ⟨g1, g2, by omega⟩ (Imp.refl _))))
    (focus ((repeat ((with_reducible apply Imp.pick); (repeat (first | exact Pick.hd | apply Pick.tl)))); (repeat (first | exact Imp.refl _ | exact Imp.nil _ | apply Imp.drop)); done))
  have go : ∀ {tr : List Int} {n : Nat}, (∀ y, y ∈ tr → 32 ≤ y) → tr.length ≤ 4 → n ≤ 1000 + (k + 1) → Ent e (LRep b tr kp 20 n :: SlO aw kp.length cw 1 (ic kp) :: ctx) (joinK [] (fun (j7 : WP) =>
      lru_List_Tried (.pointer (some ⟨b, 0, none⟩)) fun t63 =>
      len 29 3 t63 fun t64 =>
      condK (decide (t64 > 3))
      (lru_List_Victim (.pointer (some ⟨b, 0, none⟩)) fun t68 t68_1 =>
      condK (!t68_1)
      (K false)
      (condK (decide (t68 < 32))
      (K false)
      (lru_List_Remove (.pointer (some ⟨b, 0, none⟩)) t68 fun t80 =>
      condK (t80 != 0)
      (K false)
      (j7))))
      (j7)) <| lru_List_Kept (.pointer (some ⟨b, 0, none⟩)) fun t84 => ref20_Same t84 (.slice aw kp.length cw) fun t86 => condK (!t86) (K false) (ArK .i64 ((k : Int) + 1) fun t88 => K' t88)) := by
    intro tr n g1 g2 g3
    refine Ent.join ?_
    refine LRep.more g3 ?_
    refine tried_spec fun a3 c3 => ?_
    (refine Ent.go ?_)
    by_cases h3 : 3 < tr.length
    · (refine Ent.go ?_)
      refine Ent.bring (A := LRep b tr kp 20 _) ?_
      refine LRep.ok fun ⟨m, t, hok⟩ _ => ?_
      cases ht : tr.getLast? with
      | none => simp at ht; subst ht; simp at h3
      | some v =>
        have hv : v ∈ tr := List.mem_of_getLast? ht
        have hv2 : vic tr kp = (v, true) := by unfold vic; rw [ht]
        refine victim_spec ?_
        rw [hv2]
        have hv3 := g1 v hv
        have hnk : v ∉ kp := (nodup_app.1 hok.nd).2.2 v hv
        have hvr := hok.ids v (List.mem_append_left _ hv)
        (refine Ent.go ?_)
        refine remove_spec (fun hc => absurd (by unfold toC; rw [if_neg (by omega), if_pos (List.mem_append_left _ hv)]) hc) fun _ _ _ => ?_
        rw [out_id hnk]
        (refine Ent.go ?_)
        have hlt : (out tr v).length < tr.length := by
          unfold out
          exact List.length_filter_lt_length_iff_exists.2 ⟨v, hv, by simp⟩
        exact Ent.fin (fin (tr := out tr v) (fun y hy => g1 y (mem_out.1 hy).1) (by omega))
    · (refine Ent.go ?_)
      exact Ent.fin (fin g1 (by omega))
  refine add_spec (by omega) (fun _ => ?_) fun _ _ _ => ?_
  · exact go f1 (by omega) (by omega)
  · refine go (fun y hy => ?_) (by simp; omega) (by omega)
    rcases List.mem_cons.1 hy with rfl | hy
    · omega
    · exact f1 y hy
end
theorem walk {H : Type} {enc : TypeId × Value → H} {W : World} (base : Nat) (args : Array Value) (ds : List (DataW H)) (hval : ∀ (j : Nat) t v, Try.f3.params[j]? = some t → args[j]? = some v → Value.okWide Try.prog W .any base t v)
    (hA : ∃ p, DataW.TrodAll enc P W 0 (fun _ => true) true Try.f3.params.toList args.toList ds p) :
    Calls P 3 args W fun e W' => e = .returned (.bool true) ∧ Below W.heap.size W W' := by
  obtain ⟨p, hA⟩ := hA
  have hp : Try.f3.params.toList = [22, 22] := rfl
  rw [hp] at hA
  obtain ⟨v0, vs0, d0, ds0, q0, hv0, rfl, t0, hA⟩ := Lift.tr_cons hA
  obtain ⟨v1, vs1, d1, ds1, q1, hv1, rfl, t1, hA⟩ := Lift.tr_cons hA
  obtain ⟨rfl, rfl⟩ := Lift.tr_nil hA
  have el : ∀ cs d, Lift.Tr enc W 5 cs d → ∃ y : Int, cs = [.int .u8 y] ∧ inR .u8 y ∧ 0 ≤ Rows.uptoBulk d := fun cs d h => by
    obtain ⟨m, g1, g2⟩ := Lift.tr_int (k := .u8) rfl h
    exact ⟨m, g1, g2, Nat.zero_le _⟩
  obtain ⟨a, m, c, xs, h1, hn, hcc, hr, hN, hcb, hsum⟩ := Lift.tr_slice (X := Int) (fun m => [.int .u8 m]) (inR .u8) (fun _ => 0) (x := 5) rfl rfl el t0
  obtain ⟨a2, m2, c2, xs2, h2, hn2, hcc2, hr2, hN2, hcb2, hsum2⟩ := Lift.tr_slice (X := Int) (fun m => [.int .u8 m]) (inR .u8) (fun _ => 0) (x := 5) rfl rfl el t1
  obtain ⟨l, rfl⟩ : ∃ l : List Value, args = l.toArray := ⟨args.toList, by simp⟩
  simp only [List.toList_toArray] at hv0
  subst hv0 hv1
  obtain rfl := Lift.val_slice rfl (hval 0 _ _ rfl rfl) h1
  obtain rfl := Lift.val_slice rfl (hval 1 _ _ rfl rfl) h2
  subst hn hn2
  rw [flat1] at hr hr2
  exact Lift.calls_of fun K h => spec hr hr2 hN hN2 h
theorem own : ownKnob Try.prog.godebug = none := by kernel_rfl
theorem contract (H : Type) (enc : TypeId × Value → H) (W : World) (base : Nat) (args : Array Value) (ds gs : List (DataW H)) (before : List MemPlace) (hval : ∀ (j : Nat) t v, Try.f3.params[j]? = some t → args[j]? = some v → Value.okWide Try.prog W .any base t v)
    (hW : DataW.Whole enc Try.prog Try.f3.params.toList Rows.lruScansSpec.vars false W args.toList ds gs before) :
    Calls Try.prog 3 args W fun e W' => ∃ v, e = .returned v ∧ Rows.lruScansSpec.post enc Try.prog Try.f3 false true false false W args v W' := by
  have hA : ∃ p, DataW.TrodAll enc P W 0 (fun _ => true) true Try.f3.params.toList args.toList ds p := by
    obtain ⟨p, q, hA, _⟩ := hW
    exact ⟨p, hA⟩
  refine (walk base args ds hval hA).mono fun e W' ⟨he, hb⟩ => ?_
  exact ⟨_, he, Lift.law_post' (by kernel_rfl) rfl rfl rfl (fun ds h => by first | (rcases ds with _ | ⟨d1, _ | ⟨d2, _ | ⟨d3, _ | ⟨d4, ds⟩⟩⟩⟩ <;> first | rfl | (exfalso; simp [Try.f3] at h; done))) (by kernel_rfl) hW hb⟩
set_option maxRecDepth 100000 in
theorem lifted (os : Os) (started : os.Started) (H : Type) (enc : TypeId × Value → H) :
    ReturnsInHanded {} Try.checked os 3 .any (Rows.lruScansSpec.pre6 enc Try.prog Try.f3 Rows.lruScansRow.domain false) (Rows.lruScansSpec.post enc Try.prog Try.f3 false true false false) := by
  refine returnsInHanded_of_change (C := Try.checked) own started (by kernel_rfl) Try.func3
    (ChangeSpec.witness6 (enc := enc) (C := Try.checked) false ⟨#[], #[.slice none 0 0, .slice none 0 0], []⟩ 8 (by kernel_rfl) (by kernel_rfl) (by kernel_rfl) (by kernel_rfl)) ?_
  intro W base args ds gs before hval hW _ _
  exact contract H enc W base args ds gs before hval hW
theorem proved : Rows.LruScansSaid :=
  OpenClaim.holds_of_wide 3 Try.f3 rfl rfl rfl rfl rfl rfl rfl ⟨rfl, rfl, rfl, rfl, rfl⟩ rfl rfl rfl rfl rfl (by kernel_rfl) Try.func3 (by kernel_rfl)
    (of_decide_eq_true (by kernel_rfl)) (by unfold Func.isWrapper; first | (rw [if_pos (by decide +kernel)]; kernel_rfl) | (rw [if_neg (by decide +kernel)]; exact ⟨rfl, rfl⟩))
    (fun os started H enc _ => lifted os started H enc)

end Go.Proofs.Ytgbihlbgkkpciaa.lruScans
