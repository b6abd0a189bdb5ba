/-
  THE CHAPTER's ROWS (layer 31): what each law asks first.
-/
import Derived.Test.YtoneapgooihajaaGreatDoorQn
set_option maxRecDepth 100000
set_option linter.unusedVariables false
set_option linter.unusedSectionVars false
set_option linter.unusedSimpArgs false
set_option maxHeartbeats 0
namespace Go.Proofs.YtoneapgooihajaaGreatDoor.Qa
open Go Sh Sl
open Go.RowKit
attribute [local irreducible] condK ArK NilK OpK FnK StK joinK loopK DrawK andK PuK NxK EnK vS uS bS callS invokeS
theorem no_x61 (b r : Bs) : ([34, 92, 120, 54, 49, 34] : Bs) ≠ q b ++ r := by
  intro h
  unfold q at h
  simp only [List.cons_append, List.append_assoc, List.nil_append] at h
  have h := (List.cons.inj h).2
  cases b with
  | nil => simp [encs] at h
  | cons c b =>
    have key : ∀ n : Fin 256, (enc (UInt8.ofNat n.val)).isPrefixOf [92, 120, 54, 49, 34] = false := by decide +kernel
    have hk := key ⟨c.toNat, c.toNat_lt⟩
    simp only [UInt8.ofNat_toNat] at hk
    have e1 : encs (c :: b) = enc c ++ encs b := by simp [encs]
    rw [e1, List.append_assoc] at h
    have : enc c <+: [92, 120, 54, 49, 34] := ⟨_, h.symm⟩
    rw [List.isPrefixOf_iff_prefix.2 this] at hk
    cases hk
theorem wk_text : evText [(2, 1, 2, [104, 105]), (8, 0, 3, [])] = ([100, 97, 116, 97, 32, 49, 32, 50, 32, 34, 104, 105, 34, 10, 116, 105, 99, 107, 32, 51, 10], 0) := by decide +kernel
theorem wk_rows : rwText [(8, 0, [(0, (3, 0, 1, [], [97], 80)), (2, (2, 3, 0, [], [], 0))]), (1, 9, [])] = ([116, 105, 99, 107, 32, 111, 107, 10, 62, 32, 48, 32, 106, 111, 105, 110, 32, 49, 32, 34, 97, 34, 32, 56, 48, 10, 62, 32, 50, 32, 115, 104, 117, 116, 32, 51, 10, 111, 112, 101, 110, 32, 101, 114, 114, 111, 114, 32, 57, 10], 0) := by decide +kernel
theorem wk_len1 : (rwTx [(8, 0, [(0, (3, 0, 1, [], [97], 80)), (2, (2, 3, 0, [], [], 0))])]).length ≤ 140737488355328 := by decide +kernel
theorem wk_len2 : (rwTx [(8, 0, [(0, (3, 0, 1, [], [97], 80)), (2, (2, 3, 0, [], [], 0))]), (1, 9, [])]).length ≤ 140737488355328 := by decide +kernel
theorem wk_lns : lns [116, 105, 99, 107, 32, 45, 49, 10, 111, 112, 101, 110, 32, 48, 32, 53, 10] = [[116, 105, 99, 107, 32, 45, 49, 10], [111, 112, 101, 110, 32, 48, 32, 53, 10]] := by decide +kernel
theorem wk_lns2 : lns [116, 105, 99, 107, 32, 48, 49, 10] = [[116, 105, 99, 107, 32, 48, 49, 10]] := by decide +kernel
theorem wk_e0 : evOk [116, 105, 99, 107, 32, 45, 49, 10] = true ∧ (evR [116, 105, 99, 107, 32, 45, 49, 10]).1 = (8, 0, -1, []) := by
  have := ev_back (k := 8) (t := 0) (n := -1) (b := []) (by omega) (by omega) (by decide +kernel)
  rwa [show (evT 8 0 (-1) []).1 = [116, 105, 99, 107, 32, 45, 49, 10] by decide +kernel] at this
theorem wk_e1 : evOk [111, 112, 101, 110, 32, 48, 32, 53, 10] = true ∧ (evR [111, 112, 101, 110, 32, 48, 32, 53, 10]).1 = (1, 0, 5, []) := by
  have := ev_back (k := 1) (t := 0) (n := 5) (b := []) (by omega) (by omega) (by decide +kernel)
  rwa [show (evT 1 0 5 []).1 = [111, 112, 101, 110, 32, 48, 32, 53, 10] by decide +kernel] at this
theorem wk_e2 : evOk [116, 105, 99, 107, 32, 48, 49, 10] = false := by
  have hp : placeR kindsL (Lib.trimSuffix [116, 105, 99, 107, 32, 48, 49, 10] [10], false) = (8, [48, 49], false) := by decide +kernel
  have hn : numR ([48, 49], false) = (1, [], false) := by decide +kernel
  have h : evR [116, 105, 99, 107, 32, 48, 49, 10] = ((8, 0, 1, []), [], false) := by
    unfold evR
    rw [hp]
    dsimp only
    rw [if_pos rfl, hn]
  unfold evOk
  rw [h]
  decide +kernel
theorem wk_q : q [97, 32, 34, 13, 255] = [34, 97, 32, 92, 34, 92, 120, 48, 100, 92, 120, 102, 102, 34] := by decide +kernel
section
variable {e : Env} {ctx rest R : List HProp} {M : Hp}
theorem yesS {a b : ByteArray} {X Y : Operand} {t : TypeId} {A B : WP} (h : a = b) (k : Ent e ctx A) : Ent e ctx (oB (bS .eql t X Y (.string a) (.string b)) fun v => condK v A B) :=
by
  subst h
  refine Ent.opB (b := true) ?_ (Ent.wT k)
  have := (st_eqS (t := t) (X := X) (Y := Y) (a := a) (b := a)).still (e := e) (ctx := ctx)
  rwa [decide_eq_true rfl] at this
theorem wakes_spec {K : Bool → WP} (hG : GL e ctx) (h : Ent e ctx (K true)) : Ent e ctx (law31_wakes K) := by
  (refine Ent.fn law31_wakes_ok ?_; unfold law31_wakes_sh)
  refine unquote_spec (s := [34, 97, 34, 120]) (by decide) (fun b r a0 c0 hs => ?_) fun hn => absurd rfl (hn [97] [120])
  obtain ⟨rfl, rfl⟩ : [97] = b ∧ [120] = r := q_inj hs
  refine Ent.rdS fun hr0 _ => ?_
  refine unquote_spec (s := [34, 92, 120, 54, 49, 34]) (by decide) (fun b r a c hs => absurd hs (no_x61 b r)) fun _ => ?_
  refine Ent.slice0 (out := u8 [104, 105]) (by_ := 1) rfl rfl rfl rfl (by decide) (by decide) (by rfl) fun b0 => ?_
  refine Ent.mark rfl rfl ?_
  refine Ent.opR (st_build (out := evC ⟨2, 1, 2, some ⟨b0, 0, none⟩, 2, [104, 105]⟩) rfl rfl rfl).still ?_
  refine Ent.opR (st_build (out := evC ⟨8, 0, 3, none, 0, []⟩) rfl rfl rfl).still ?_
  refine Ent.slice (out := evcs [⟨2, 1, 2, some ⟨b0, 0, none⟩, 2, [104, 105]⟩, ⟨8, 0, 3, none, 0, []⟩]) (by_ := 48) rfl rfl rfl rfl (by decide) (by decide) rfl fun b1 => ?_
  refine text_spec (xs := [⟨2, 1, 2, some ⟨b0, 0, none⟩, 2, [104, 105]⟩, ⟨8, 0, 3, none, 0, []⟩]) (by simp) (Rd.pt .hd) (fun x hx => ?_) (hG.mono (by (focus (repeat (first | exact Imp.refl _ | exact Imp.nil _ | apply Imp.drop))))) ?_
  · simp only [List.mem_cons, List.not_mem_nil, or_false] at hx
    rcases hx with rfl | rfl
    · exact ⟨⟨by dsimp only; omega, by dsimp only; omega, by simp⟩, Rd.pt (Has.tl .hd)⟩
    · exact ⟨⟨by dsimp only; omega, by dsimp only; omega, by simp⟩, Rd.nil _⟩
  have e1 : evText (List.map dEv [⟨2, 1, 2, some ⟨b0, 0, none⟩, 2, [104, 105]⟩, ⟨8, 0, 3, none, 0, []⟩]) = _ := wk_text
  rw [e1]
  dsimp only
  refine Ent.opR (st_build (out := ouC ⟨3, 0, 1, none, 0, [], [97], 80⟩) rfl rfl rfl).still ?_
  refine Ent.opR (st_build (out := seC 0 ⟨3, 0, 1, none, 0, [], [97], 80⟩) rfl rfl rfl).still ?_
  refine Ent.opR (st_build (out := ouC ⟨2, 3, 0, none, 0, [], [], 0⟩) rfl rfl rfl).still ?_
  refine Ent.opR (st_build (out := seC 2 ⟨2, 3, 0, none, 0, [], [], 0⟩) rfl rfl rfl).still ?_
  refine Ent.slice (out := scs [(0, ⟨3, 0, 1, none, 0, [], [97], 80⟩), (2, ⟨2, 3, 0, none, 0, [], [], 0⟩)]) (by_ := 80) rfl rfl rfl rfl (by decide) (by decide) rfl fun b2 => ?_
  refine Ent.opR (st_build (out := rwC ⟨8, 0, some ⟨b2, 0, none⟩, 2, [(0, ⟨3, 0, 1, none, 0, [], [97], 80⟩), (2, ⟨2, 3, 0, none, 0, [], [], 0⟩)]⟩) rfl rfl rfl).still ?_
  refine Ent.opR (st_build (out := rwC ⟨1, 9, none, 0, []⟩) rfl rfl rfl).still ?_
  refine Ent.slice (out := rwcs [⟨8, 0, some ⟨b2, 0, none⟩, 2, [(0, ⟨3, 0, 1, none, 0, [], [97], 80⟩), (2, ⟨2, 3, 0, none, 0, [], [], 0⟩)]⟩, ⟨1, 9, none, 0, []⟩]) (by_ := 40) rfl rfl rfl rfl (by decide) (by decide) rfl fun b3 => ?_
  refine rows_spec (xs := [⟨8, 0, some ⟨b2, 0, none⟩, 2, [(0, ⟨3, 0, 1, none, 0, [], [97], 80⟩), (2, ⟨2, 3, 0, none, 0, [], [], 0⟩)]⟩, ⟨1, 9, none, 0, []⟩]) (by simp) (fun k => ?_) (Rd.pt .hd) (fun x hx => ?_) (hG.mono (by (focus (repeat (first | exact Imp.refl _ | exact Imp.nil _ | apply Imp.drop))))) ?_
  · match k with
    | 0 => exact of_decide_eq_true rfl
    | 1 => exact wk_len1
    | k + 2 =>
      rw [List.take_of_length_le (by simp)]
      exact wk_len2
  · simp only [List.mem_cons, List.not_mem_nil, or_false] at hx
    rcases hx with rfl | rfl
    · refine ⟨by dsimp only [I64]; omega, Rd.pt (Has.tl .hd), fun y hy => ?_, by simp⟩
      simp only [List.mem_cons, List.not_mem_nil, or_false] at hy
      rcases hy with rfl | rfl
      · exact ⟨by dsimp only [I64]; omega, ⟨by dsimp only [I64]; omega, by dsimp only [I64]; omega, by dsimp only [I64]; omega, by simp, by simp⟩, Rd.nil _⟩
      · exact ⟨by dsimp only [I64]; omega, ⟨by dsimp only [I64]; omega, by dsimp only [I64]; omega, by dsimp only [I64]; omega, by simp, by simp⟩, Rd.nil _⟩
    · exact ⟨by dsimp only [I64]; omega, Rd.nil _, fun y hy => absurd hy (by simp), by simp⟩
  have e2 : rwText (List.map dRw [⟨8, 0, some ⟨b2, 0, none⟩, 2, [(0, ⟨3, 0, 1, none, 0, [], [97], 80⟩), (2, ⟨2, 3, 0, none, 0, [], [], 0⟩)]⟩, ⟨1, 9, none, 0, []⟩]) = _ := wk_rows
  rw [e2]
  dsimp only
  refine Ent.imp (ctx' := Sl.ro (fun _ => none) :: _) (fun hp k => ⟨fun _ => none, hp, fun _ => .inl rfl, (fun _ _ hh => by cases hh), Hp.le_refl _, (fun _ _ hh => by cases hh), k⟩) ?_
  refine parse_spec (s := [116, 105, 99, 107, 32, 45, 49, 10, 111, 112, 101, 110, 32, 48, 32, 53, 10]) (by simp) (hG.mono (by (focus (repeat (first | exact Imp.refl _ | exact Imp.nil _ | apply Imp.drop))))) (fun h => absurd h (by simp)) (fun k x M' _ hx _ ho _ => ?_) fun xs a c M' _ _ hd _ hm => ?_
  · exfalso
    rw [wk_lns] at hx
    match k, hx with
    | 0, hx => cases hx; rw [wk_e0.1] at ho; cases ho
    | 1, hx => cases hx; rw [wk_e1.1] at ho; cases ho
    | k + 2, hx => simp at hx
  rw [wk_lns] at hd
  simp only [List.map_cons, List.map_nil, wk_e0.2, wk_e1.2] at hd
  obtain ⟨x0, x1, rfl, d0, d1⟩ : ∃ x0 x1, xs = [x0, x1] ∧ dEv x0 = (8, 0, -1, []) ∧ dEv x1 = (1, 0, 5, []) := by
    match xs, hd with
    | [], hd => cases hd
    | [_], hd => simp at hd
    | _ :: _ :: _ :: _, hd => simp at hd
    | [x0, x1], hd =>
      simp only [List.map_cons, List.map_nil, List.cons.injEq, and_true] at hd
      exact ⟨x0, x1, rfl, hd.1, hd.2⟩
  have n0 : x0.n = -1 := (Prod.mk.inj (Prod.mk.inj (Prod.mk.inj d0).2).2).1
  have n1 : x1.n = 5 := (Prod.mk.inj (Prod.mk.inj (Prod.mk.inj d1).2).2).1
  refine SlO.open1 (fun bq r _ ha => ?_) (fun _ hh _ => by cases hh)
  subst ha
  refine Ent.imp (ctx' := Sl.ro M' :: pt bq (evcs [x0, x1] ++ r) :: SlO a0 [97].length c0 1 (u8 [97]) :: ctx) (by (focus ((repeat ((with_reducible apply Imp.pick); (repeat (first | exact Pick.hd | apply Pick.tl)))); (repeat (first | exact Imp.refl _ | exact Imp.nil _ | apply Imp.drop)); done))) ?_
  refine parse_spec (s := [116, 105, 99, 107, 32, 48, 49, 10]) (by simp) (hG.mono (by (focus (repeat (first | exact Imp.refl _ | exact Imp.nil _ | apply Imp.drop))))) (fun h => absurd h (by simp)) (fun k x M2 _ hx _ ho _ => ?_) fun xs a c M2 _ ho _ _ _ => ?_
  rotate_left
  · exfalso
    have := ho [116, 105, 99, 107, 32, 48, 49, 10] (by rw [wk_lns2]; simp)
    rw [wk_e2] at this; cases this
  rw [wk_lns2] at hx
  match k, hx with
  | k + 1, hx => simp at hx
  | 0, hx =>
  refine Ent.slice0 (out := u8 [97, 32, 34, 13, 255]) (by_ := 1) rfl rfl rfl rfl (by decide) (by decide) (by rfl) fun b4 => ?_
  refine Ent.mark rfl rfl ?_
  refine quote_spec (b := [97, 32, 34, 13, 255]) (by simp) (Rd.pt .hd) ?_
  rw [wk_q]
  refine yesS rfl ?_
  refine obytes (hr0 _ (by (repeat (first | exact Has.hd | apply Has.tl)))) ?_
  refine yesS rfl ?_
  refine yesS rfl ?_
  refine Ent.wT ?_
  refine Ent.wT ?_
  refine Ent.wT ?_
  refine yesS rfl ?_
  refine Ent.wT ?_
  refine yesS rfl ?_
  refine Ent.wT ?_
  refine Ent.wT ?_
  refine Ent.wlen ?_
  refine Ent.wT ?_
  refine Ent.opR (st_ixN (i := 0) rfl rfl (by simp)).still ?_
  refine Ent.wfI ?_
  rw [n0]
  refine Ent.wT ?_
  refine Ent.opR (st_ixN (i := 1) rfl rfl (by simp)).still ?_
  refine Ent.wfI ?_
  rw [n1]
  refine Ent.wT ?_
  refine Ent.wT ?_
  exact h.imp (by (focus ((repeat ((with_reducible apply Imp.pick); (repeat (first | exact Pick.hd | apply Pick.tl)))); (repeat (first | exact Imp.refl _ | exact Imp.nil _ | apply Imp.drop)); done)))
end
end Go.Proofs.YtoneapgooihajaaGreatDoor.Qa
