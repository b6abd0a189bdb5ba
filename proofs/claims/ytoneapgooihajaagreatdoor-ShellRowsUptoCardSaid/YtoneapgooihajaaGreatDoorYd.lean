/-
  THE DOCUMENT's READING OF ROWS (layer 31): a line of what went out, a row's first line.
-/
import Derived.Test.YtoneapgooihajaaGreatDoorYc
set_option maxRecDepth 100000
set_option linter.unusedVariables false
set_option linter.unusedSectionVars false
set_option linter.unusedSimpArgs false
set_option maxHeartbeats 0
namespace Go.Proofs.YtoneapgooihajaaGreatDoor.Qa
open Go Sh Sl
open Go.RowKit
attribute [local irreducible] condK ArK NilK OpK FnK StK joinK loopK DrawK andK PuK NxK EnK vS uS bS callS invokeS
theorem ou_mk1 (t s : Int) (b : Bs) : sL (t, 1, s, 0, b, [], 0) = (joinB [[62], Lib.itoa t, nameAt goesL 1, Lib.itoa s, q b] ++ [10], true) := by
  simp [sL, ouT, bareD, show nameAt goesL 1 ≠ [] by decide]
theorem ou_mk2 (t s : Int) : sL (t, 2, s, 0, [], [], 0) = (joinB [[62], Lib.itoa t, nameAt goesL 2, Lib.itoa s] ++ [10], true) := by
  simp [sL, ouT, bareD, show nameAt goesL 2 ≠ [] by decide]
theorem ou_mk3 (t c p : Int) (h : Bs) : sL (t, 3, 0, c, [], h, p) = (joinB [[62], Lib.itoa t, nameAt goesL 3, Lib.itoa c, q h, Lib.itoa p] ++ [10], true) := by
  simp [sL, ouT, bareD, show nameAt goesL 3 ≠ [] by decide]
theorem ou_mk4 (t c : Int) (b : Bs) : sL (t, 4, 0, c, b, [], 0) = (joinB [[62], Lib.itoa t, nameAt goesL 4, Lib.itoa c, q b] ++ [10], true) := by
  simp [sL, ouT, bareD, show nameAt goesL 4 ≠ [] by decide]
theorem ou_mk5 (t c : Int) : sL (t, 5, 0, c, [], [], 0) = (joinB [[62], Lib.itoa t, nameAt goesL 5, Lib.itoa c] ++ [10], true) := by
  simp [sL, ouT, bareD, show nameAt goesL 5 ≠ [] by decide]
/-- what a line of it looks like -/
theorem ou_form {d : dS} {s : Bs} (h : sL d = (s ++ [10], true)) : (1 ≤ d.2.1 ∧ d.2.1 ≤ 5) ∧ ∃ tl : Bs, s = [62] ++ 32 :: (Lib.itoa d.1 ++ 32 :: (nameAt goesL d.2.1 ++ 32 :: tl)) ∧
    ((d.2.1 = 1 ∧ ∃ sl b, d = (d.1, 1, sl, 0, b, [], 0) ∧ tl = Lib.itoa sl ++ 32 :: q b) ∨ (d.2.1 = 2 ∧ ∃ sl, d = (d.1, 2, sl, 0, [], [], 0) ∧ tl = Lib.itoa sl) ∨
     (d.2.1 = 3 ∧ ∃ c ho p, d = (d.1, 3, 0, c, [], ho, p) ∧ tl = Lib.itoa c ++ 32 :: (q ho ++ 32 :: Lib.itoa p)) ∨ (d.2.1 = 4 ∧ ∃ c b, d = (d.1, 4, 0, c, b, [], 0) ∧ tl = Lib.itoa c ++ 32 :: q b) ∨
     (d.2.1 = 5 ∧ ∃ c, d = (d.1, 5, 0, c, [], [], 0) ∧ tl = Lib.itoa c)) := by
  obtain ⟨t, k, sl, c, b, ho, p⟩ := d
  have h1 := (Prod.mk.inj (show ((sL (t, k, sl, c, b, ho, p)).1, (sL (t, k, sl, c, b, ho, p)).2) = _ from h))
  have hb : nameAt goesL k ≠ [] ∧ bareD (k, sl, c, b, ho, p) = (k, sl, c, b, ho, p) := by
    have := h1.2
    unfold sL ouT at this
    simpa using this
  have hk := gname_dom hb.1
  have hfst : (sL (t, k, sl, c, b, ho, p)).1 = (if k = 1 then joinB [[62], Lib.itoa t, nameAt goesL k, Lib.itoa sl, q b] else if k = 2 then joinB [[62], Lib.itoa t, nameAt goesL k, Lib.itoa sl]
      else if k = 3 then joinB [[62], Lib.itoa t, nameAt goesL k, Lib.itoa c, q ho, Lib.itoa p] else if k = 4 then joinB [[62], Lib.itoa t, nameAt goesL k, Lib.itoa c, q b]
      else joinB [[62], Lib.itoa t, nameAt goesL k, Lib.itoa c]) ++ [10] := rfl
  rw [hfst] at h1
  have h2 := List.append_cancel_right h1.1
  have h3 := hb.2
  unfold bareD at h3
  dsimp only at h3 ⊢
  refine ⟨hk, ?_⟩
  by_cases k1 : k = 1
  · subst k1
    rw [if_pos rfl] at h2 h3
    simp only [Prod.mk.injEq, true_and, and_true] at h3
    obtain ⟨rfl, rfl, rfl⟩ := h3
    exact ⟨_, by rw [← h2, joinB_5], .inl ⟨rfl, sl, b, rfl, rfl⟩⟩
  rw [if_neg k1] at h2 h3
  by_cases k2 : k = 2
  · subst k2
    rw [if_pos rfl] at h2 h3
    simp only [Prod.mk.injEq, true_and, and_true] at h3
    obtain ⟨rfl, rfl, rfl, rfl⟩ := h3
    exact ⟨_, by rw [← h2, joinB_4], .inr (.inl ⟨rfl, sl, rfl, rfl⟩)⟩
  rw [if_neg k2] at h2 h3
  by_cases k3 : k = 3
  · subst k3
    rw [if_pos rfl] at h2 h3
    simp only [Prod.mk.injEq, true_and, and_true] at h3
    obtain ⟨rfl, rfl⟩ := h3
    exact ⟨_, by rw [← h2, joinB_6], .inr (.inr (.inl ⟨rfl, c, ho, p, rfl, rfl⟩))⟩
  rw [if_neg k3] at h2 h3
  by_cases k4 : k = 4
  · subst k4
    rw [if_pos rfl] at h2 h3
    simp only [Prod.mk.injEq, true_and, and_true] at h3
    obtain ⟨rfl, rfl, rfl⟩ := h3
    exact ⟨_, by rw [← h2, joinB_5], .inr (.inr (.inr (.inl ⟨rfl, c, b, rfl, rfl⟩)))⟩
  rw [if_neg k4] at h2 h3
  obtain rfl : k = 5 := by omega
  simp only [Prod.mk.injEq, true_and, and_true] at h3
  obtain ⟨rfl, rfl, rfl, rfl⟩ := h3
  exact ⟨_, by rw [← h2, joinB_4], .inr (.inr (.inr (.inr ⟨rfl, c, rfl, rfl⟩)))⟩
/-- a blank and a name taken -/
def GStep (z : Rs) (k : Int) (z' : Rs) : Prop :=
  z' = (ld (blankR z).1, (blankR z).2) ∧ ((k = 0 ∧ ∀ m : Int, 1 ≤ m → m ≤ 5 → nameAt goesL m ≠ lw (blankR z).1) ∨ ((1 ≤ k ∧ k ≤ 5) ∧ nameAt goesL k = lw (blankR z).1))
theorem gname_inj {k m : Int} (h1 : 1 ≤ k ∧ k ≤ 5) (h2 : 1 ≤ m ∧ m ≤ 5) (h : nameAt goesL k = nameAt goesL m) : k = m := by
  have := gname_ix h1
  rw [h, gname_ix h2] at this
  exact this.symm
theorem GStep.sound {z z' : Rs} {k : Int} (h : GStep z k z') (hk : k ≠ 0) (hz : z'.2 = false) : z.2 = false ∧ z.1 = 32 :: (nameAt goesL k ++ z'.1) := by
  obtain ⟨rfl, h2⟩ := h
  obtain ⟨h4, h5⟩ := blankR_ok hz
  rcases h2 with ⟨h6, _⟩ | ⟨_, h6⟩
  · exact absurd h6 hk
  · exact ⟨h5, by rw [h4, h6, lw_ld]⟩
theorem GStep.complete {z z' : Rs} {k m : Int} {r : Bs} (h : GStep z k z') (hz : z = (32 :: (nameAt goesL m ++ 32 :: r), false)) (hm : 1 ≤ m ∧ m ≤ 5) : k = m ∧ z' = (32 :: r, false) := by
  obtain ⟨rfl, h2⟩ := h
  have e1 : blankR z = (nameAt goesL m ++ 32 :: r, false) := by rw [hz]; rfl
  rw [e1] at h2 ⊢
  obtain ⟨g1, g2⟩ := lw_at (r := r) (gname_nb m)
  dsimp only at h2 ⊢
  rw [g1] at h2
  rw [g2]
  refine ⟨?_, rfl⟩
  rcases h2 with ⟨_, h6⟩ | ⟨h5, h6⟩
  · exact absurd rfl (h6 m hm.1 hm.2)
  · exact gname_inj h5 hm h6
theorem GStep.len {z z' : Rs} {k : Int} (h : GStep z k z') : z'.1.length ≤ z.1.length := by
  obtain ⟨rfl, _⟩ := h
  have := blankR_len z
  have := (lw_len (blankR z).1).2
  dsimp only
  omega
theorem refword_complete' {b r : Bs} : refword (32 :: (q b ++ r), false) = (b, r, false) := by
  unfold refword
  rw [blankR_at, uq_some.2 rfl]
section
variable {e : Env} {ctx rest R : List HProp} {M : Hp}
theorem refsent_spec {K : Int → Value → Bool → WP} {s : Bs} (hs : s.length ≤ 1048576)
    (h : ∀ (t : Int) (x : Ou) (ok : Bool), I64 t → OuR x → (ok = true → sL (t, dOu x) = (s ++ [10], true)) → (∀ d : dS, dI d → sL d = (s ++ [10], true) → ok = true ∧ (t, dOu x) = d) →
      Ent e (SlO x.a x.d.length x.cp 1 (u8 x.d) :: rest) (K t (.agg (ouC x).toArray) ok)) : Ent e rest (ref31_Sent (ba s) K) := by
  have h00 : I64 0 := ⟨by omega, by omega⟩
  (refine Ent.fn ref31_Sent_ok ?_; unfold ref31_Sent_sh)
  refine Ent.alloc' fun t3 => ?_
  refine Ent.opR (st_build (out := rdC (s, false)) rfl rfl rfl).still ?_
  refine Ent.box' fun rb => ?_
  refine Ent.alloc' fun ob => ?_
  refine Ent.imp (ctx' := pt rb (rdC (s, false)) :: pt ob (ouC ⟨0, 0, 0, none, 0, [], [], 0⟩) :: pt t3 (ouC ⟨0, 0, 0, none, 0, [], [], 0⟩) :: rest) (by (focus ((repeat ((with_reducible apply Imp.pick); (repeat (first | exact Pick.hd | apply Pick.tl)))); (repeat (first | exact Imp.refl _ | exact Imp.nil _ | apply Imp.drop)); done))) ?_
  refine letters_spec (by dsimp only; omega) ?_
  dsimp only
  have hll := (lw_len s).2
  -- it is none
  have none_ : ∀ (x : Ou) (z : Rs) (t : Int) (C : List HProp), x.a = none → x.d = [] → x.cp = 0 → OuR x → (∀ d : dS, dI d → sL d ≠ (s ++ [10], true)) → Imp C (pt ob (ouC x) :: pt t3 (ouC ⟨0, 0, 0, none, 0, [], [], 0⟩) :: rest) →
      Ent e C (DrawK fun S => sR S (vS (Instr.loadAt 84 (ptr ob))) fun t16 => sto 84 (ptr t3) t16 <| rR (vS (do loadVar 84 (← asAddr (ptr t3)))) fun u_1 => K 0 u_1 false) := fun x z t C ha hd hc hx hno hC => by
    refine Ent.imp hC ?_
    refine Ent.draw [pt ob (ouC x)] (by (focus ((repeat ((with_reducible apply Imp.pick); (repeat (first | exact Pick.hd | apply Pick.tl)))); (repeat (first | exact Imp.refl _ | exact Imp.nil _ | apply Imp.drop)); done))) ?_
    refine Ent.stR (v := .agg (ouC x).toArray) (st_loadA (n := 6) (cs := ouC x) .hd rfl rfl rfl) ?_
    refine Ent.wstoA (l' := ouC x) ?_ (vs := ouC x) (hl := rfl) (hu := by (repeat (first | exact Upd.hd | apply Upd.tl)))
    refine Ent.wrA (l := ouC x) ?_
    have hh := h 0 x false h00 hx (fun hh => by cases hh) fun d d1 d2 => absurd d2 (hno d d1)
    rw [ha, hd, hc] at hh
    refine hh.imp ?_
    refine Imp.trans (Imp.slN (sz := 1) (Imp.refl _)) ?_
    show Imp (SlO none 0 0 1 [] :: _) (SlO none 0 0 1 [] :: _)
    (focus ((repeat ((with_reducible apply Imp.pick); (repeat (first | exact Pick.hd | apply Pick.tl)))); (repeat (first | exact Imp.refl _ | exact Imp.nil _ | apply Imp.drop)); done))
  have hx0 : OuR ⟨0, 0, 0, none, 0, [], [], 0⟩ := ⟨h00, h00, h00, by simp, by simp⟩
  refine Ent.opB (st_neS).still ?_
  rw [show decide (ba (lw s) = (⟨#[62]⟩ : ByteArray)) = decide (lw s = [62]) from ba_eqb _ [62]]
  refine Ent.cond (fun hc => ?_) fun hc => ?_
  · have hne : lw s ≠ [62] := by simpa using hc
    refine none_ ⟨0, 0, 0, none, 0, [], [], 0⟩ (s, false) 0 _ rfl rfl rfl hx0 (fun d d1 d2 => ?_) (by (focus ((repeat ((with_reducible apply Imp.pick); (repeat (first | exact Pick.hd | apply Pick.tl)))); (repeat (first | exact Imp.refl _ | exact Imp.nil _ | apply Imp.drop)); done)))
    obtain ⟨_, tl, g2, _⟩ := ou_form d2
    exact hne (by rw [g2]; exact (lw_at (a := [62]) (by intro c hc; rw [List.mem_singleton.1 hc]; decide)).1)
  have heq : lw s = [62] := by simpa using hc
  have hs62 : s = [62] ++ ld s := by rw [← heq, lw_ld]
  have hld : ∀ {t : Int} {r : Bs}, s = [62] ++ 32 :: r → (ld s, false) = ((32 :: r, false) : Rs) := fun {t r} hr => by
    have := hs62.symm.trans hr
    rw [List.append_cancel_left this]
  refine numstep_spec (by dsimp only; omega) fun n z2 hn => ?_
  have hnl := hn.len
  dsimp only at hnl
  refine blank_spec (by omega) ?_
  have hbl := blankR_len z2
  refine letters_spec (by omega) ?_
  have hll2 := (lw_len (blankR z2).1).2
  obtain ⟨what, hwhat⟩ : ∃ w, w = lw (blankR z2).1 := ⟨_, rfl⟩
  obtain ⟨z4, hz4⟩ : ∃ z4 : Rs, z4 = (ld (blankR z2).1, (blankR z2).2) := ⟨_, rfl⟩
  rw [← hwhat, ← hz4]
  refine Ent.loop1 (k0 := .int .i64) (fun N (i : Int) => (exs fun (k : Int) => sepL [pur (1 ≤ i ∧ i ≤ 6 ∧ N = (6 - i).toNat ∧ ((k = 0 ∧ ∀ m : Int, 1 ≤ m → m < i → nameAt goesL m ≠ what) ∨ ((1 ≤ k ∧ k < i) ∧ nameAt goesL k = what))), pt ob (ouC ⟨k, 0, 0, none, 0, [], [], 0⟩)]) :: pt rb (rdC z4) :: pt t3 (ouC ⟨0, 0, 0, none, 0, [], [], 0⟩) :: rest) 5 ?_ fun N j2 hj2 i => ?_
  · exact Imp.exs 0 (Imp.g2 (Imp.pur ⟨by omega, by omega, by decide, .inl ⟨rfl, fun m h1 h2 => absurd h2 (by omega)⟩⟩ (by (focus ((repeat ((with_reducible apply Imp.pick); (repeat (first | exact Pick.hd | apply Pick.tl)))); (repeat (first | exact Imp.refl _ | exact Imp.nil _ | apply Imp.drop)); done)))))
  refine Ent.exs fun k => Ent.g2 (Ent.pur fun ⟨f1, f2, f3, f4⟩ => ?_)
  refine Ent.condD (fun hle => ?_) fun hgt => ?_
  · refine goes_spec ?_
    refine Ent.opB (st_eqS).still ?_
    rw [ba_eqb]
    refine Ent.condD (fun he => ?_) fun hne => ?_
    · refine Ent.wfW (l' := ouC ⟨i, 0, 0, none, 0, [], [], 0⟩) ?_ (hl := rfl) (hu := by (repeat (first | exact Upd.hd | apply Upd.tl)))
      refine Ent.war ?_
      refine (hj2 (N - 1) (by omega) (i + 1)).imp ?_
      exact Imp.exs i (Imp.g2 (Imp.pur ⟨by omega, by omega, by omega, .inr ⟨⟨f1, by omega⟩, he⟩⟩ (Imp.refl _)))
    · refine Ent.war ?_
      refine (hj2 (N - 1) (by omega) (i + 1)).imp ?_
      refine Imp.exs k (Imp.g2 (Imp.pur ⟨by omega, by omega, by omega, ?_⟩ (Imp.refl _)))
      rcases f4 with ⟨g1, g2⟩ | ⟨g1, g2⟩
      · refine .inl ⟨g1, fun m h1 h2 => ?_⟩
        rcases Int.lt_or_le m i with g | g
        · exact g2 m h1 g
        · obtain rfl : m = i := by omega
          exact hne
      · exact .inr ⟨⟨g1.1, by omega⟩, g2⟩
  have hg : GStep z2 k z4 := ⟨hz4, by
    rw [← hwhat]
    rcases f4 with ⟨g1, g2⟩ | ⟨g1, g2⟩
    · exact .inl ⟨g1, fun m h1 h2 => g2 m h1 (by omega)⟩
    · exact .inr ⟨⟨g1.1, by omega⟩, g2⟩⟩
  have hgl := hg.len
  -- the steps taken by a line that is one
  have comp : ∀ d : dS, dI d → sL d = (s ++ [10], true) → n = d.1 ∧ k = d.2.1 ∧ ∃ tl, z4 = (32 :: tl, false) ∧
      ((d.2.1 = 1 ∧ ∃ sl b, d = (d.1, 1, sl, 0, b, [], 0) ∧ tl = Lib.itoa sl ++ 32 :: q b) ∨ (d.2.1 = 2 ∧ ∃ sl, d = (d.1, 2, sl, 0, [], [], 0) ∧ tl = Lib.itoa sl) ∨
       (d.2.1 = 3 ∧ ∃ c ho p, d = (d.1, 3, 0, c, [], ho, p) ∧ tl = Lib.itoa c ++ 32 :: (q ho ++ 32 :: Lib.itoa p)) ∨ (d.2.1 = 4 ∧ ∃ c b, d = (d.1, 4, 0, c, b, [], 0) ∧ tl = Lib.itoa c ++ 32 :: q b) ∨
       (d.2.1 = 5 ∧ ∃ c, d = (d.1, 5, 0, c, [], [], 0) ∧ tl = Lib.itoa c)) := fun d d1 d2 => by
    obtain ⟨hk, tl, g2, g3⟩ := ou_form d2
    obtain ⟨e1, e2⟩ := hn.complete (m := d.1) (r := 32 :: (nameAt goesL d.2.1 ++ 32 :: tl)) (hld (t := 0) g2) d1.1 (.inr ⟨_, rfl⟩)
    obtain ⟨e3, e4⟩ := hg.complete (m := d.2.1) e2 hk
    exact ⟨e1, e3, tl, e4, g3⟩
  -- and what they make of it
  have made : ∀ {r : Bs}, k ≠ 0 → z4.2 = false → z4.1 = 32 :: r → s = [62] ++ 32 :: (Lib.itoa n ++ 32 :: (nameAt goesL k ++ 32 :: r)) := fun {r} hk0 h1 h2 => by
    obtain ⟨e1, e2⟩ := hg.sound hk0 h1
    obtain ⟨_, e4⟩ := hn.sound e1
    rw [hs62]
    dsimp only at e4
    rw [e4, e2, h2]
  have fin : ∀ (x : Ou) (z : Rs), OuR x → (z.2 = false → z.1 = [] → sL (n, dOu x) = (s ++ [10], true)) → (∀ d : dS, dI d → sL d = (s ++ [10], true) → z = ([], false) ∧ (n, dOu x) = d) →
      Ent e (pt ob (ouC x) :: pt rb (rdC z) :: SlO x.a x.d.length x.cp 1 (u8 x.d) :: pt t3 (ouC ⟨0, 0, 0, none, 0, [], [], 0⟩) :: rest) (DrawK fun S => sR S (vS (Instr.loadAt 84 (ptr ob))) fun t77 => hB S 123 (ptr rb) 1 4 fun t81 =>
        condK (!t81) (hS S 123 (ptr rb) 0 9 fun t87 => qB (bS .eql 9 (.tmp 87) (.const (.string (⟨#[]⟩ : ByteArray))) (.string t87) (.string (⟨#[]⟩ : ByteArray))) fun t88 =>
          sto 84 (ptr t3) t77 <| andK S <| rR (vS (do loadVar 84 (← asAddr (ptr t3)))) fun u_15 => K n u_15 t88)
        (sto 84 (ptr t3) t77 <| andK S <| rR (vS (do loadVar 84 (← asAddr (ptr t3)))) fun u_17 => K n u_17 false)) := fun x z hx h1 h2 => by
    refine Ent.draw [pt ob (ouC x), pt rb (rdC z)] (by (focus ((repeat ((with_reducible apply Imp.pick); (repeat (first | exact Pick.hd | apply Pick.tl)))); (repeat (first | exact Imp.refl _ | exact Imp.nil _ | apply Imp.drop)); done))) ?_
    refine Ent.stR (v := .agg (ouC x).toArray) (st_loadA (n := 6) (cs := ouC x) .hd rfl rfl rfl) ?_
    refine Ent.whB ?_
    refine Ent.cond (fun hc => ?_) fun hc => ?_
    · have hz2 : z.2 = false := by simpa using hc
      refine Ent.whS ?_
      refine bnilE ?_
      refine Ent.wstoA (l' := ouC x) ?_ (vs := ouC x) (hl := rfl) (hu := by (repeat (first | exact Upd.hd | apply Upd.tl)))
      refine Ent.wand ?_
      refine Ent.wrA (l := ouC x) ?_
      refine (h n x (decide (z.1 = [])) hn.i64 hx (fun hh => h1 hz2 (of_decide_eq_true hh)) fun d d1 d2 => ?_).imp (by (focus ((repeat ((with_reducible apply Imp.pick); (repeat (first | exact Pick.hd | apply Pick.tl)))); (repeat (first | exact Imp.refl _ | exact Imp.nil _ | apply Imp.drop)); done)))
      obtain ⟨g1, g2⟩ := h2 d d1 d2
      exact ⟨decide_eq_true (by rw [g1]), g2⟩
    · have hz2 : z.2 = true := by simpa using hc
      refine Ent.wstoA (l' := ouC x) ?_ (vs := ouC x) (hl := rfl) (hu := by (repeat (first | exact Upd.hd | apply Upd.tl)))
      refine Ent.wand ?_
      refine Ent.wrA (l := ouC x) ?_
      refine (h n x false hn.i64 hx (fun hh => by cases hh) fun d d1 d2 => ?_).imp (by (focus ((repeat ((with_reducible apply Imp.pick); (repeat (first | exact Pick.hd | apply Pick.tl)))); (repeat (first | exact Imp.refl _ | exact Imp.nil _ | apply Imp.drop)); done)))
      obtain ⟨g1, g2⟩ := h2 d d1 d2
      rw [g1] at hz2; cases hz2
  refine Ent.join0 ((exs fun (p : Ou × Rs) => sepL [pur (OuR p.1 ∧ (p.2.2 = false → p.2.1 = [] → sL (n, dOu p.1) = (s ++ [10], true)) ∧ ∀ d : dS, dI d → sL d = (s ++ [10], true) → p.2 = ([], false) ∧ (n, dOu p.1) = d), pt ob (ouC p.1), pt rb (rdC p.2), SlO p.1.a p.1.d.length p.1.cp 1 (u8 p.1.d)]) :: pt t3 (ouC ⟨0, 0, 0, none, 0, [], [], 0⟩) :: rest) ?_ ?_
  · refine Ent.exs fun ⟨x, z⟩ => Ent.g4 (Ent.pur fun ⟨g1, g2, g3⟩ => ?_)
    dsimp only at g1 g2 g3
    dsimp only
    exact fin x z g1 g2 g3
  · intro j3 hj3
    have go : ∀ (x : Ou) (z : Rs), OuR x → (z.2 = false → z.1 = [] → sL (n, dOu x) = (s ++ [10], true)) → (∀ d : dS, dI d → sL d = (s ++ [10], true) → z = ([], false) ∧ (n, dOu x) = d) →
        Ent e (pt ob (ouC x) :: pt rb (rdC z) :: SlO x.a x.d.length x.cp 1 (u8 x.d) :: pt t3 (ouC ⟨0, 0, 0, none, 0, [], [], 0⟩) :: rest) j3 := fun x z g1 g2 g3 => by
      refine hj3.imp ?_
      exact Imp.exs (x, z) (Imp.g4 (Imp.pur ⟨g1, g2, g3⟩ (Imp.refl _)))
    have goN : ∀ (x : Ou) (z : Rs), x.a = none → x.d = [] → x.cp = 0 → OuR x → (z.2 = false → z.1 = [] → sL (n, dOu x) = (s ++ [10], true)) → (∀ d : dS, dI d → sL d = (s ++ [10], true) → z = ([], false) ∧ (n, dOu x) = d) →
        Ent e (pt rb (rdC z) :: pt ob (ouC x) :: pt t3 (ouC ⟨0, 0, 0, none, 0, [], [], 0⟩) :: rest) j3 := fun x z ha hd hc g1 g2 g3 => by
      have hf := go x z g1 g2 g3
      rw [ha, hd, hc] at hf
      refine hf.imp (Imp.trans (b := SlO none 0 0 1 [] :: pt rb (rdC z) :: pt ob (ouC x) :: pt t3 (ouC ⟨0, 0, 0, none, 0, [], [], 0⟩) :: rest) (Imp.slN (sz := 1) (Imp.refl _)) ?_)
      show Imp _ (_ :: _ :: SlO none 0 0 1 [] :: _)
      (focus ((repeat ((with_reducible apply Imp.pick); (repeat (first | exact Pick.hd | apply Pick.tl)))); (repeat (first | exact Imp.refl _ | exact Imp.nil _ | apply Imp.drop)); done))
    refine Ent.wfI ?_
    refine Ent.condE (fun k0 => ?_) fun k0 => ?_
    · have k0 : k = 0 := k0
      refine none_ ⟨k, 0, 0, none, 0, [], [], 0⟩ z4 0 _ rfl rfl rfl ⟨h00, h00, h00, by simp, by simp⟩ (fun d d1 d2 => ?_) (by (focus ((repeat ((with_reducible apply Imp.pick); (repeat (first | exact Pick.hd | apply Pick.tl)))); (repeat (first | exact Imp.refl _ | exact Imp.nil _ | apply Imp.drop)); done)))
      obtain ⟨_, e3, _⟩ := comp d d1 d2
      have := (ou_form d2).1
      omega
    have k0 : k ≠ 0 := k0
    refine Ent.bring (A := pt rb (rdC z4)) ?_
    refine Ent.condE (fun k1 => ?_) fun k1 => ?_
    · have k1 : k = 1 := k1
      refine numstep_spec (by omega) fun sl z5 h5 => ?_
      have h5l := h5.len
      have hwl := refword_len z5
      refine Ent.wfW (l' := ouC ⟨k, sl, 0, none, 0, [], [], 0⟩) ?_ (hl := rfl) (hu := by (repeat (first | exact Upd.hd | apply Upd.tl)))
      refine refword_spec (by omega) fun a c => ?_
      refine Ent.wfW (l' := ouC ⟨k, sl, 0, a, c, (refword z5).1, [], 0⟩) ?_ (hl := rfl) (hu := .tl (.tl .hd))
      refine Ent.imp ?_ (go ⟨k, sl, 0, a, c, (refword z5).1, [], 0⟩ (refword z5).2 ⟨h5.i64, h00, h00, by dsimp only; omega, by simp⟩ (fun g1 g2 => ?_) fun d d1 d2 => ?_)
      · (focus ((repeat ((with_reducible apply Imp.pick); (repeat (first | exact Pick.hd | apply Pick.tl)))); (repeat (first | exact Imp.refl _ | exact Imp.nil _ | apply Imp.drop)); done))
      · obtain ⟨e1, e2⟩ := refword_sound g1
        rw [g2, List.append_nil] at e2
        obtain ⟨e3, e4⟩ := h5.sound e1
        have hm := made k0 e3 e4
        show sL (n, k, sl, 0, (refword z5).1, [], 0) = _
        rw [k1, ou_mk1, joinB_5, hm, e2, k1]
      · obtain ⟨e1, e2, tl, e3, e4⟩ := comp d d1 d2
        rw [← e2, k1] at e4
        rcases e4 with ⟨_, s1, b1, q1, q2⟩ | ⟨q, _⟩ | ⟨q, _⟩ | ⟨q, _⟩ | ⟨q, _⟩ <;> try (exact absurd q (by decide))
        have d3 := d1.2.1
        rw [q1] at d3
        obtain ⟨e5, e6⟩ := h5.complete (m := s1) (r := 32 :: q b1) (by rw [e3, q2]) d3 (.inr ⟨_, rfl⟩)
        rw [e6, refword_complete]
        refine ⟨rfl, ?_⟩
        rw [q1, e1]
        unfold dOu
        dsimp only
        rw [k1, e5]
    refine Ent.condE (fun k2 => ?_) fun k2 => ?_
    · have k2 : k = 2 := k2
      refine numstep_spec (by omega) fun sl z5 h5 => ?_
      refine Ent.wfW (l' := ouC ⟨k, sl, 0, none, 0, [], [], 0⟩) ?_ (hl := rfl) (hu := by (repeat (first | exact Upd.hd | apply Upd.tl)))
      refine goN ⟨k, sl, 0, none, 0, [], [], 0⟩ z5 rfl rfl rfl ⟨h5.i64, h00, h00, by simp, by simp⟩ (fun g1 g2 => ?_) fun d d1 d2 => ?_
      · obtain ⟨e3, e4⟩ := h5.sound g1
        rw [g2, List.append_nil] at e4
        have hm := made k0 e3 e4
        show sL (n, k, sl, 0, [], [], 0) = _
        rw [k2, ou_mk2, joinB_4, hm, k2]
      · obtain ⟨e1, e2, tl, e3, e4⟩ := comp d d1 d2
        rw [← e2, k2] at e4
        rcases e4 with ⟨q, _⟩ | ⟨_, s1, q1, q2⟩ | ⟨q, _⟩ | ⟨q, _⟩ | ⟨q, _⟩ <;> try (exact absurd q (by decide))
        have d3 := d1.2.1
        rw [q1] at d3
        obtain ⟨e5, e6⟩ := h5.complete (m := s1) (r := []) (by rw [e3, q2, List.append_nil]) d3 (.inl rfl)
        refine ⟨e6, ?_⟩
        rw [q1, e1]
        unfold dOu
        dsimp only
        rw [k2, e5]
    refine Ent.condE (fun k3 => ?_) fun k3 => ?_
    · have k3 : k = 3 := k3
      refine numstep_spec (by omega) fun c z5 h5 => ?_
      have h5l := h5.len
      have hwl := refword_len z5
      refine Ent.wfW (l' := ouC ⟨k, 0, c, none, 0, [], [], 0⟩) ?_ (hl := rfl) (hu := by (repeat (first | exact Upd.hd | apply Upd.tl)))
      refine refword_spec (by omega) fun a cc => ?_
      refine Ent.bring (A := SlO a (refword z5).1.length cc 1 (u8 (refword z5).1)) ?_
      refine Ent.rdS fun r1 _ => ?_
      refine obytes (r1 _ .hd) ?_
      refine Ent.drop ?_
      refine Ent.wfW (l' := ouC ⟨k, 0, c, none, 0, [], (refword z5).1, 0⟩) ?_ (hl := rfl) (hu := .tl .hd)
      refine numstep_spec (by omega) fun p z7 h7 => ?_
      refine Ent.wfW (l' := ouC ⟨k, 0, c, none, 0, [], (refword z5).1, p⟩) ?_ (hl := rfl) (hu := .tl .hd)
      refine goN ⟨k, 0, c, none, 0, [], (refword z5).1, p⟩ z7 rfl rfl rfl ⟨h00, h5.i64, h7.i64, by simp, by dsimp only; omega⟩ (fun g1 g2 => ?_) fun d d1 d2 => ?_
      · obtain ⟨e7, e8⟩ := h7.sound g1
        rw [g2, List.append_nil] at e8
        obtain ⟨e1, e2⟩ := refword_sound e7
        rw [e8] at e2
        obtain ⟨e3, e4⟩ := h5.sound e1
        have hm := made k0 e3 e4
        show sL (n, k, 0, c, [], (refword z5).1, p) = _
        rw [k3, ou_mk3, joinB_6, hm, e2, k3]
      · obtain ⟨e1, e2, tl, e3, e4⟩ := comp d d1 d2
        rw [← e2, k3] at e4
        rcases e4 with ⟨q, _⟩ | ⟨q, _⟩ | ⟨_, c1, ho, p1, q1, q2⟩ | ⟨q, _⟩ | ⟨q, _⟩ <;> try (exact absurd q (by decide))
        have d3 := d1.2.2
        rw [q1] at d3
        obtain ⟨e5, e6⟩ := h5.complete (m := c1) (r := 32 :: (q ho ++ 32 :: Lib.itoa p1)) (by rw [e3, q2]) d3.1 (.inr ⟨_, rfl⟩)
        have e7 : refword z5 = (ho, 32 :: Lib.itoa p1, false) := by rw [e6, refword_complete']
        obtain ⟨e8, e9⟩ := h7.complete (m := p1) (r := []) (by rw [e7, List.append_nil]) d3.2 (.inl rfl)
        refine ⟨e9, ?_⟩
        rw [q1, e1]
        unfold dOu
        dsimp only
        rw [k3, e5, e7, e8]
    refine Ent.condE (fun k4 => ?_) fun k4 => ?_
    · have k4 : k = 4 := k4
      refine numstep_spec (by omega) fun c z5 h5 => ?_
      have h5l := h5.len
      have hwl := refword_len z5
      refine Ent.wfW (l' := ouC ⟨k, 0, c, none, 0, [], [], 0⟩) ?_ (hl := rfl) (hu := by (repeat (first | exact Upd.hd | apply Upd.tl)))
      refine refword_spec (by omega) fun a cc => ?_
      refine Ent.wfW (l' := ouC ⟨k, 0, c, a, cc, (refword z5).1, [], 0⟩) ?_ (hl := rfl) (hu := .tl (.tl .hd))
      refine Ent.imp ?_ (go ⟨k, 0, c, a, cc, (refword z5).1, [], 0⟩ (refword z5).2 ⟨h00, h5.i64, h00, by dsimp only; omega, by simp⟩ (fun g1 g2 => ?_) fun d d1 d2 => ?_)
      · (focus ((repeat ((with_reducible apply Imp.pick); (repeat (first | exact Pick.hd | apply Pick.tl)))); (repeat (first | exact Imp.refl _ | exact Imp.nil _ | apply Imp.drop)); done))
      · obtain ⟨e1, e2⟩ := refword_sound g1
        rw [g2, List.append_nil] at e2
        obtain ⟨e3, e4⟩ := h5.sound e1
        have hm := made k0 e3 e4
        show sL (n, k, 0, c, (refword z5).1, [], 0) = _
        rw [k4, ou_mk4, joinB_5, hm, e2, k4]
      · obtain ⟨e1, e2, tl, e3, e4⟩ := comp d d1 d2
        rw [← e2, k4] at e4
        rcases e4 with ⟨q, _⟩ | ⟨q, _⟩ | ⟨q, _⟩ | ⟨_, c1, b1, q1, q2⟩ | ⟨q, _⟩ <;> try (exact absurd q (by decide))
        have d3 := d1.2.2.1
        rw [q1] at d3
        obtain ⟨e5, e6⟩ := h5.complete (m := c1) (r := 32 :: q b1) (by rw [e3, q2]) d3 (.inr ⟨_, rfl⟩)
        rw [e6, refword_complete]
        refine ⟨rfl, ?_⟩
        rw [q1, e1]
        unfold dOu
        dsimp only
        rw [k4, e5]
    have k1 : k ≠ 1 := k1
    have k2 : k ≠ 2 := k2
    have k3 : k ≠ 3 := k3
    have k4 : k ≠ 4 := k4
    have k5 : k = 5 := by
      rcases f4 with ⟨g, _⟩ | ⟨g, _⟩
      · exact absurd g k0
      · omega
    refine Ent.wT ?_ (beq_iff_eq.2 k5)
    refine numstep_spec (by omega) fun c z5 h5 => ?_
    refine Ent.wfW (l' := ouC ⟨k, 0, c, none, 0, [], [], 0⟩) ?_ (hl := rfl) (hu := by (repeat (first | exact Upd.hd | apply Upd.tl)))
    refine goN ⟨k, 0, c, none, 0, [], [], 0⟩ z5 rfl rfl rfl ⟨h00, h5.i64, h00, by simp, by simp⟩ (fun g1 g2 => ?_) fun d d1 d2 => ?_
    · obtain ⟨e3, e4⟩ := h5.sound g1
      rw [g2, List.append_nil] at e4
      have hm := made k0 e3 e4
      show sL (n, k, 0, c, [], [], 0) = _
      rw [k5, ou_mk5, joinB_4, hm, k5]
    · obtain ⟨e1, e2, tl, e3, e4⟩ := comp d d1 d2
      rw [← e2, k5] at e4
      rcases e4 with ⟨q, _⟩ | ⟨q, _⟩ | ⟨q, _⟩ | ⟨q, _⟩ | ⟨_, c1, q1, q2⟩ <;> try (exact absurd q (by decide))
      have d3 := d1.2.2.1
      rw [q1] at d3
      obtain ⟨e5, e6⟩ := h5.complete (m := c1) (r := []) (by rw [e3, q2, List.append_nil]) d3 (.inl rfl)
      refine ⟨e6, ?_⟩
      rw [q1, e1]
      unfold dOu
      dsimp only
      rw [k5, e5]
theorem row_mk {k er : Int} (hk : 1 ≤ k ∧ k ≤ 8) : rwT (hdR (k, er)) = (hdL k er, true) := by
  have hn : nameAt kindsL k ≠ [] := fun hh => by
    have : ∀ i : Fin 8, nameAt kindsL ((i.val : Int) + 1) ≠ [] := by decide +kernel
    refine this ⟨(k - 1).toNat, by omega⟩ ?_
    rw [show (((⟨(k - 1).toNat, by omega⟩ : Fin 8).val : Int) + 1) = k by dsimp only; omega]
    exact hh
  unfold rwT hdR hdL
  dsimp only
  rw [if_neg (fun hh => hh.elim hn fun h2 => h2.1 rfl)]
  split
  · rfl
  · simp [sTx]
theorem row_form {k er : Int} {s : Bs} (h : rwT (hdR (k, er)) = (s ++ [10], true)) : (1 ≤ k ∧ k ≤ 8) ∧ s = nameAt kindsL k ++ 32 :: (if er ≠ 0 then errS ++ 32 :: Lib.itoa er else [111, 107]) := by
  obtain ⟨hk, ht⟩ := rwT_hd (by rw [h])
  rw [h] at ht
  have h2 := List.append_cancel_right ht
  refine ⟨hk, ?_⟩
  rw [h2]
  split
  · rw [joinB_3]
  · rw [joinB_2]
theorem refrow_spec {K : Value → Bool → WP} {s : Bs} (hs : s.length ≤ 1048576)
    (h : ∀ (k er : Int) (ok : Bool), I64 er → (ok = true → rwT (hdR (k, er)) = (s ++ [10], true)) → (∀ k' er' : Int, I64 er' → rwT (hdR (k', er')) = (s ++ [10], true) → ok = true ∧ k = k' ∧ er = er') →
      Ent e rest (K (.agg (drC ⟨k, er, none, 0, [], none, 0, []⟩).toArray) ok)) : Ent e rest (ref31_Row (ba s) K) := by
  have h00 : I64 0 := ⟨by omega, by omega⟩
  (refine Ent.fn ref31_Row_ok ?_; unfold ref31_Row_sh)
  refine Ent.alloc' fun t2 => ?_
  refine Ent.opR (st_build (out := rdC (s, false)) rfl rfl rfl).still ?_
  refine Ent.box' fun rb => ?_
  refine kindstep_spec (by dsimp only; omega) fun k z1 hk => ?_
  have hkl := hk.len
  dsimp only at hkl
  refine Ent.opR (st_build (out := drC ⟨k, 0, none, 0, [], none, 0, []⟩) rfl rfl rfl).still ?_
  refine Ent.alloc' fun xb => ?_
  refine Ent.wstoA (l' := drC ⟨k, 0, none, 0, [], none, 0, []⟩) ?_ (vs := drC ⟨k, 0, none, 0, [], none, 0, []⟩) (hl := rfl) (hu := by (repeat (first | exact Upd.hd | apply Upd.tl)))
  refine Ent.bring (A := pt rb (rdC z1)) ?_
  refine blank_spec (by omega) ?_
  have hbl := blankR_len z1
  refine letters_spec (by omega) ?_
  have hll := lw_len (blankR z1).1
  obtain ⟨w, hw⟩ : ∃ w, w = lw (blankR z1).1 := ⟨_, rfl⟩
  obtain ⟨z3, hz3⟩ : ∃ z3 : Rs, z3 = (ld (blankR z1).1, (blankR z1).2) := ⟨_, rfl⟩
  rw [← hw, ← hz3]
  have hz3l : z3.1.length ≤ (blankR z1).1.length := by rw [hz3]; exact hll.2
  have made : z3.2 = false → (1 ≤ k ∧ k ≤ 8) ∧ s = nameAt kindsL k ++ 32 :: (w ++ z3.1) := fun hz => by
    rw [hz3] at hz ⊢
    obtain ⟨e1, e2⟩ := blankR_ok hz
    obtain ⟨_, e3, e4⟩ := hk.sound e2
    dsimp only at e4 ⊢
    exact ⟨e3, by rw [e4, e1, hw, lw_ld]⟩
  have comp : ∀ {k' er' : Int}, rwT (hdR (k', er')) = (s ++ [10], true) → k = k' ∧ (er' ≠ 0 → w = errS ∧ z3 = (32 :: Lib.itoa er', false)) ∧ (er' = 0 → w = [111, 107] ∧ z3 = ([], false)) := fun {k' er'} hr => by
    obtain ⟨g1, g2⟩ := row_form hr
    obtain ⟨e1, e2⟩ := hk.complete (m := k') (by rw [g2]) g1
    refine ⟨e1, fun he => ?_, fun he => ?_⟩
    · rw [if_pos he] at e2
      have e3 : blankR z1 = (errS ++ 32 :: Lib.itoa er', false) := by rw [e2]; rfl
      obtain ⟨e4, e5⟩ := lw_at (a := errS) (r := Lib.itoa er') (by intro c hc hh; subst hh; revert hc; decide)
      rw [hw, hz3, e3]
      dsimp only
      rw [e4, e5]
      exact ⟨rfl, rfl⟩
    · rw [if_neg (by simpa using he)] at e2
      have e3 : blankR z1 = ([111, 107], false) := by rw [e2]; rfl
      obtain ⟨e4, e5⟩ := lw_all (a := [111, 107]) (by intro c hc hh; subst hh; revert hc; decide)
      rw [hw, hz3, e3]
      dsimp only
      rw [e4, e5]
      exact ⟨rfl, rfl⟩
  refine Ent.opB (st_eqS).still ?_
  rw [show decide (ba w = (⟨#[101, 114, 114, 111, 114]⟩ : ByteArray)) = decide (w = errS) from ba_eqb _ errS]
  refine Ent.condD (fun he => ?_) fun he => ?_
  · refine numstep_spec (by omega) fun n z4 hn => ?_
    refine Ent.wfW (l' := drC ⟨k, n, none, 0, [], none, 0, []⟩) ?_ (hl := rfl) (hu := by (repeat (first | exact Upd.hd | apply Upd.tl)))
    have fin : ∀ v : Bool, (v = true → z4.2 = false ∧ z4.1 = [] ∧ n ≠ 0) → (z4.2 = false → z4.1 = [] → n ≠ 0 → v = true) → Ent e (pt t2 (drC ⟨k, n, none, 0, [], none, 0, []⟩) :: rest) (rR (vS (do loadVar 83 (← asAddr (ptr t2)))) fun u_5 => K u_5 v) := fun v h1 h2 => by
      refine Ent.wrA (l := drC ⟨k, n, none, 0, [], none, 0, []⟩) ?_
      refine (h k n v hn.i64 (fun hv => ?_) fun k' er' hi hr => ?_).drop
      · obtain ⟨g1, g2, g3⟩ := h1 hv
        obtain ⟨e3, e4⟩ := hn.sound g1
        rw [g2, List.append_nil] at e4
        obtain ⟨m1, m2⟩ := made e3
        rw [row_mk m1, m2, he, e4]
        unfold hdL
        rw [if_pos g3, joinB_3]
      · obtain ⟨e1, e2, e3⟩ := comp hr
        by_cases h0 : er' = 0
        · have := (e3 h0).1
          rw [he] at this
          exact absurd this (by decide)
        · obtain ⟨_, e5⟩ := e2 h0
          obtain ⟨e6, e7⟩ := hn.complete (m := er') (r := []) (by rw [e5, List.append_nil]) hi (.inl rfl)
          exact ⟨h2 (by rw [e7]) (by rw [e7]) (by rw [e6]; exact h0), e1, e6⟩
    refine Ent.join1 (kd := .bool) (fun v => pur ((v = true → z4.2 = false ∧ z4.1 = [] ∧ n ≠ 0) ∧ (z4.2 = false → z4.1 = [] → n ≠ 0 → v = true)) :: pt t2 (drC ⟨k, n, none, 0, [], none, 0, []⟩) :: rest) ?_ ?_
    rotate_left
    · intro j1 hj1
      refine Ent.draw [pt xb (drC ⟨k, n, none, 0, [], none, 0, []⟩), pt rb (rdC z4)] (by (focus ((repeat ((with_reducible apply Imp.pick); (repeat (first | exact Pick.hd | apply Pick.tl)))); (repeat (first | exact Imp.refl _ | exact Imp.nil _ | apply Imp.drop)); done))) ?_
      refine Ent.stR (v := .agg (drC ⟨k, n, none, 0, [], none, 0, []⟩).toArray) (st_loadA (n := 4) (cs := drC ⟨k, n, none, 0, [], none, 0, []⟩) .hd rfl rfl rfl) ?_
      refine Ent.whB ?_
      refine Ent.cond (fun hc => ?_) fun hc => ?_
      · have hz2 : z4.2 = false := by simpa using hc
        refine Ent.whS ?_
        refine bnilE ?_
        refine Ent.condD (fun g => ?_) fun g => ?_
        · refine Ent.wgI ?_
          refine Ent.wstoA (l' := drC ⟨k, n, none, 0, [], none, 0, []⟩) ?_ (vs := drC ⟨k, n, none, 0, [], none, 0, []⟩) (hl := rfl) (hu := by (repeat (first | exact Upd.hd | apply Upd.tl)))
          refine Ent.wand ?_
          refine (hj1 _).imp (Imp.pur ⟨fun hv => ⟨hz2, g, bne_iff_ne.1 hv⟩, fun _ _ hv => bne_iff_ne.2 hv⟩ (by (focus ((repeat ((with_reducible apply Imp.pick); (repeat (first | exact Pick.hd | apply Pick.tl)))); (repeat (first | exact Imp.refl _ | exact Imp.nil _ | apply Imp.drop)); done))))
        · refine Ent.wstoA (l' := drC ⟨k, n, none, 0, [], none, 0, []⟩) ?_ (vs := drC ⟨k, n, none, 0, [], none, 0, []⟩) (hl := rfl) (hu := by (repeat (first | exact Upd.hd | apply Upd.tl)))
          refine Ent.wand ?_
          refine (hj1 _).imp (Imp.pur ⟨fun hv => (by cases hv), fun _ hv _ => absurd hv g⟩ (by (focus ((repeat ((with_reducible apply Imp.pick); (repeat (first | exact Pick.hd | apply Pick.tl)))); (repeat (first | exact Imp.refl _ | exact Imp.nil _ | apply Imp.drop)); done))))
      · have hz2 : z4.2 = true := by simpa using hc
        refine Ent.wstoA (l' := drC ⟨k, n, none, 0, [], none, 0, []⟩) ?_ (vs := drC ⟨k, n, none, 0, [], none, 0, []⟩) (hl := rfl) (hu := by (repeat (first | exact Upd.hd | apply Upd.tl)))
        refine Ent.wand ?_
        refine (hj1 _).imp (Imp.pur ⟨fun hv => (by cases hv), fun hv _ _ => (by rw [hz2] at hv; cases hv)⟩ (by (focus ((repeat ((with_reducible apply Imp.pick); (repeat (first | exact Pick.hd | apply Pick.tl)))); (repeat (first | exact Imp.refl _ | exact Imp.nil _ | apply Imp.drop)); done))))
    intro v
    refine Ent.pur fun ⟨g1, g2⟩ => ?_
    exact fin v g1 g2
  · have fin : ∀ v : Bool, (v = true → w = [111, 107] ∧ z3.2 = false ∧ z3.1 = []) → (w = [111, 107] → z3.2 = false → z3.1 = [] → v = true) → Ent e (pt t2 (drC ⟨k, 0, none, 0, [], none, 0, []⟩) :: rest) (rR (vS (do loadVar 83 (← asAddr (ptr t2)))) fun u_5 => K u_5 v) := fun v h1 h2 => by
      refine Ent.wrA (l := drC ⟨k, 0, none, 0, [], none, 0, []⟩) ?_
      refine (h k 0 v h00 (fun hv => ?_) fun k' er' hi hr => ?_).drop
      · obtain ⟨g0, g1, g2⟩ := h1 hv
        obtain ⟨m1, m2⟩ := made g1
        rw [row_mk m1, m2, g0, g2, List.append_nil]
        unfold hdL
        rw [if_neg (by decide), joinB_2]
      · obtain ⟨e1, e2, e3⟩ := comp hr
        by_cases h0 : er' = 0
        · obtain ⟨e4, e5⟩ := e3 h0
          exact ⟨h2 e4 (by rw [e5]) (by rw [e5]), e1, h0.symm⟩
        · exact absurd (e2 h0).1 he
    refine Ent.draw [pt xb (drC ⟨k, 0, none, 0, [], none, 0, []⟩), pt rb (rdC z3)] (by (focus ((repeat ((with_reducible apply Imp.pick); (repeat (first | exact Pick.hd | apply Pick.tl)))); (repeat (first | exact Imp.refl _ | exact Imp.nil _ | apply Imp.drop)); done))) ?_
    refine Ent.stR (v := .agg (drC ⟨k, 0, none, 0, [], none, 0, []⟩).toArray) (st_loadA (n := 4) (cs := drC ⟨k, 0, none, 0, [], none, 0, []⟩) .hd rfl rfl rfl) ?_
    refine Ent.puB st_eqS ?_
    rw [show decide (ba w = (⟨#[111, 107]⟩ : ByteArray)) = decide (w = [111, 107]) from ba_eqb _ [111, 107]]
    refine Ent.condD (fun hok => ?_) fun hok => ?_
    · refine Ent.whB ?_
      refine Ent.cond (fun hc => ?_) fun hc => ?_
      · have hz2 : z3.2 = false := by simpa using hc
        refine Ent.whS ?_
        refine bnilE ?_
        refine Ent.wstoA (l' := drC ⟨k, 0, none, 0, [], none, 0, []⟩) ?_ (vs := drC ⟨k, 0, none, 0, [], none, 0, []⟩) (hl := rfl) (hu := by (repeat (first | exact Upd.hd | apply Upd.tl)))
        refine Ent.wand ?_
        refine (fin _ (fun hv => ⟨hok, hz2, of_decide_eq_true hv⟩) fun _ _ hv => decide_eq_true hv).imp (by (focus ((repeat ((with_reducible apply Imp.pick); (repeat (first | exact Pick.hd | apply Pick.tl)))); (repeat (first | exact Imp.refl _ | exact Imp.nil _ | apply Imp.drop)); done)))
      · have hz2 : z3.2 = true := by simpa using hc
        refine Ent.wstoA (l' := drC ⟨k, 0, none, 0, [], none, 0, []⟩) ?_ (vs := drC ⟨k, 0, none, 0, [], none, 0, []⟩) (hl := rfl) (hu := by (repeat (first | exact Upd.hd | apply Upd.tl)))
        refine Ent.wand ?_
        refine (fin false (fun hv => by cases hv) fun _ hv _ => by rw [hz2] at hv; cases hv).imp (by (focus ((repeat ((with_reducible apply Imp.pick); (repeat (first | exact Pick.hd | apply Pick.tl)))); (repeat (first | exact Imp.refl _ | exact Imp.nil _ | apply Imp.drop)); done)))
    · refine Ent.wstoA (l' := drC ⟨k, 0, none, 0, [], none, 0, []⟩) ?_ (vs := drC ⟨k, 0, none, 0, [], none, 0, []⟩) (hl := rfl) (hu := by (repeat (first | exact Upd.hd | apply Upd.tl)))
      refine Ent.wand ?_
      refine (fin false (fun hv => by cases hv) fun hv _ _ => absurd hv hok).imp (by (focus ((repeat ((with_reducible apply Imp.pick); (repeat (first | exact Pick.hd | apply Pick.tl)))); (repeat (first | exact Imp.refl _ | exact Imp.nil _ | apply Imp.drop)); done)))
end
end Go.Proofs.YtoneapgooihajaaGreatDoor.Qa
/-! ParseRows -/
namespace Go.Proofs.YtoneapgooihajaaGreatDoor.Qa
open Go Sh Sl
open Go.RowKit
attribute [local irreducible] condK ArK NilK OpK FnK StK joinK loopK DrawK andK PuK NxK EnK vS uS bS callS invokeS
theorem drcs_one (x : Dr) : drcs [x] = drC x := by simp [drcs]
/-- a row read, but for its two rows of things -/
structure DqL (M : Hp) (x : Dr) : Prop where
  er : I64 x.er
  n : x.ws.length = x.os.length
  wi : ∀ n ∈ x.ws, I64 n
  d : ∀ z ∈ x.os, OuR z ∧ RdM M z.a (u8 z.d)
theorem DqL.mono {M M' : Hp} {x : Dr} (h : DqL M x) (hl : Hp.le M M') : DqL M' x := ⟨h.er, h.n, h.wi, fun z hz => ⟨(h.d z hz).1, (h.d z hz).2.mono hl⟩⟩
structure DqM (M : Hp) (x : Dr) : Prop where
  b : DqL M x
  w : RdM M x.wa (iis x.ws)
  o : RdM M x.oa (oucs x.os)
theorem DqM.mono {M M' : Hp} {x : Dr} (h : DqM M x) (hl : Hp.le M M') : DqM M' x := ⟨h.b.mono hl, h.w.mono hl, h.o.mono hl⟩
theorem DqM.d {M : Hp} {x : Dr} (h : DqM M x) (hl : x.os.length ≤ 1048576) : DrM M [Sl.ro M] x := ⟨h.b.er, h.w, h.o, h.b.n, hl, h.b.wi, fun z hz => ⟨(h.b.d z hz).1, (h.b.d z hz).2.rd .hd⟩⟩
/-- the last row's things are owned -/
def ownW (rs : List Dr) : HProp := match rs.getLast? with
  | some x => SlO x.wa x.ws.length x.wc 1 (iis x.ws)
  | none => SlO none 0 0 1 []
def ownO (rs : List Dr) : HProp := match rs.getLast? with
  | some x => SlO x.oa x.os.length x.oc 6 (oucs x.os)
  | none => SlO none 0 0 6 []
theorem ownW_snoc (rs : List Dr) (x : Dr) : ownW (rs ++ [x]) = SlO x.wa x.ws.length x.wc 1 (iis x.ws) := by simp [ownW]
theorem ownO_snoc (rs : List Dr) (x : Dr) : ownO (rs ++ [x]) = SlO x.oa x.os.length x.oc 6 (oucs x.os) := by simp [ownO]
def RqF (M : Hp) (rs : List Dr) : Prop := (∀ x ∈ rs.dropLast, DqM M x) ∧ ∀ x ∈ rs, DqL M x
/-- which line a step refuses for want of an end -/
theorem rstep_end {st : List dR} {y : Bs} (h : (10 : UInt8) ∉ y) : rstep st y = none := by
  unfold rstep
  have hs : sentOk y = false := by
    cases hc : sentOk y with
    | false => rfl
    | true =>
      have h1 := sent_ok hc
      obtain ⟨p, hp, _⟩ := (sL_ended (sentR y).1).1
      rw [h1] at hp
      have hp' : y = p ++ [10] := hp
      exact absurd (by rw [hp']; simp) h
  have hr : rowOk y = false := by
    cases hc : rowOk y with
    | false => rfl
    | true =>
      have h1 := row_ok hc
      obtain ⟨_, h2⟩ := rwT_hd (by rw [h1])
      rw [h1] at h2
      have h2' : y = _ ++ [10] := h2
      exact absurd (by rw [h2']; simp) h
  rw [hs, hr]
  split
  · split
    · rw [if_neg (fun hh => by cases hh.1)]
    · rfl
  · rfl
theorem sent_line {y : Bs} {t : Int} {x : Ou} {ok : Bool} (ht : I64 t) (hx : OuR x) (h1 : ok = true → sL (t, dOu x) = (y ++ [10], true)) (h2 : ∀ d : dS, dI d → sL d = (y ++ [10], true) → ok = true ∧ (t, dOu x) = d) :
    ok = sentOk (y ++ [10]) ∧ (ok = true → (t, dOu x) = (sentR (y ++ [10])).1) := by
  cases ho : sentOk (y ++ [10]) with
  | true =>
    obtain ⟨g1, g2⟩ := h2 _ (sentR_dI _) (sent_ok ho)
    exact ⟨g1, fun _ => g2⟩
  | false =>
    cases ok with
    | false => exact ⟨rfl, fun hh => by cases hh⟩
    | true =>
      have := (sent_of (d := (t, dOu x)) ⟨ht, hx.s, hx.c, hx.p⟩ (h1 rfl)).1
      rw [ho] at this; cases this
theorem row_line {y : Bs} {k er : Int} {ok : Bool} (he : I64 er) (h1 : ok = true → rwT (hdR (k, er)) = (y ++ [10], true)) (h2 : ∀ k' er' : Int, I64 er' → rwT (hdR (k', er')) = (y ++ [10], true) → ok = true ∧ k = k' ∧ er = er') :
    ok = rowOk (y ++ [10]) ∧ (ok = true → (rowR (y ++ [10])).1 = (k, er)) := by
  cases ho : rowOk (y ++ [10]) with
  | true =>
    obtain ⟨g1, g2, g3⟩ := h2 (rowR (y ++ [10])).1.1 (rowR (y ++ [10])).1.2 (rowR_I64 _) (row_ok ho)
    exact ⟨g1, fun _ => by rw [g2, g3]⟩
  | false =>
    cases ok with
    | false => exact ⟨rfl, fun hh => by cases hh⟩
    | true =>
      have := (row_of he (h1 rfl)).1
      rw [ho] at this; cases this
theorem at_drow (pre : List Dr) (x : Dr) (r : List Value) (o : Nat) (ho : o < 4) : (drcs (pre ++ [x]) ++ r)[pre.length * 4 + o]? = (drC x)[o]? := by
  rw [drcs_app, drcs_one, List.append_assoc, List.getElem?_append_right (by rw [drcs_len]; omega), drcs_len, Nat.add_sub_cancel_left, List.getElem?_append_left (by simpa using ho)]
theorem set_drow (pre : List Dr) (x : Dr) (r : List Value) (v : Value) (o : Nat) (ho : o < 4) : (drcs (pre ++ [x]) ++ r).set (pre.length * 4 + o) v = drcs pre ++ ((drC x).set o v) ++ r := by
  rw [drcs_app, drcs_one, List.append_assoc, List.set_append_right _ _ (by rw [drcs_len]; omega), drcs_len, Nat.add_sub_cancel_left, List.set_append_left _ _ (by simpa using ho), ← List.append_assoc]
theorem dDr_snoc {x : Dr} {w : Int} {y : Ou} (h : x.ws.length = x.os.length) : ((x.ws ++ [w]).zip (x.os ++ [y])).map (fun p => (p.1, dOu p.2)) = (dDr x).2.2 ++ [(w, dOu y)] := by
  rw [List.zip_append h, List.map_append]; rfl
section
variable {e : Env} {ctx rest R : List HProp} {M : Hp}
theorem ownWO_keep {rs : List Dr} {p : WP} (hF : RqF M rs) (h : ∀ M', Hp.le M M' → (∀ x ∈ rs, DqM M' x) → Ent e (Sl.ro M' :: rest) p) : Ent e (ownW rs :: Sl.ro M :: ownO rs :: rest) p := by
  rcases List.eq_nil_or_concat rs with rfl | ⟨pre, x, rfl⟩
  · refine Ent.imp (ctx' := Sl.ro M :: rest) (by (focus ((repeat ((with_reducible apply Imp.pick); (repeat (first | exact Pick.hd | apply Pick.tl)))); (repeat (first | exact Imp.refl _ | exact Imp.nil _ | apply Imp.drop)); done))) ?_
    exact h M (Hp.le_refl _) fun x hx => by cases hx
  · rw [List.concat_eq_append] at hF h ⊢
    rw [ownW_snoc, ownO_snoc]
    refine Ent.keepS fun M1 hM1 hr1 _ _ _ => ?_
    refine Ent.imp (Imp.perm (.swap _ _ _)) ?_
    refine Ent.keepS fun M2 hM2 hr2 _ _ _ => h M2 (Hp.le_trans hM1 hM2) fun y hy => ?_
    rcases List.mem_append.1 hy with hy | hy
    · refine (hF.1 y ?_).mono (Hp.le_trans hM1 hM2)
      rw [List.dropLast_concat]; exact hy
    · rw [List.mem_singleton.1 hy]
      exact ⟨(hF.2 x (by simp)).mono (Hp.le_trans hM1 hM2), hr1.mono hM2, hr2⟩
theorem refparserows_spec {K : Value → Int → Int → WP} {s : Bs} (hs : s.length ≤ 1048576) (h3 : 131072 < s.length → Ent e (Sl.ro M :: rest) (K (.slice none 0 0) 0 3))
    (h5 : ∀ k x st M', s.length ≤ 131072 → (lns s)[k]? = some x → rgo [] ((lns s).take k) = some st → rstep st x = none → Hp.le M M' → Ent e (Sl.ro M' :: rest) (K (.slice none 0 0) ((k : Int) + 1) 5))
    (h0 : ∀ (rs : List Dr) a c M', s.length ≤ 131072 → rgo [] (lns s) = some (rs.map dDr) → Hp.le M M' → (∀ x ∈ rs, DqM M' x) → Ent e (SlO a rs.length c 4 (drcs rs) :: Sl.ro M' :: rest) (K (.slice a rs.length c) 0 0)) :
    Ent e (Sl.ro M :: rest) (ref31_ParseRows (ba s) K) := by
  have hsz : ((ba s).size : Int) = (s.length : Int) := by simp [ByteArray.size]
  have hll : (lns s).length ≤ s.length + 1 := lns_len s []
  have hrl := rl_len s
  (refine Ent.fn ref31_ParseRows_ok ?_; unfold ref31_ParseRows_sh)
  refine Ent.wlenS ?_
  rw [hsz]
  refine Ent.condD (fun hl => h3 (by omega)) fun hl => ?_
  refine reflines_spec hs fun la lc => ?_
  obtain ⟨L, en, hL⟩ : ∃ L en, rl [] s = (L, en) := ⟨_, _, rfl⟩
  have hat := @rl_at s
  have hpc := rl_piece s []
  rw [hL] at hrl hat hpc ⊢
  dsimp only at hrl hat hpc ⊢
  refine Ent.keepS fun M1 hM1 hrL _ _ _ => ?_
  have stl : ∀ {k : Nat} {st : List dR}, rgo [] ((lns s).take k) = some st → st.length ≤ (lns s).length ∧ ∀ d ∈ st, d.2.2.length ≤ (lns s).length := fun {k st} h => by
    obtain ⟨g1, g2⟩ := rgo_len _ [] st 0 (fun d hd => by cases hd) h
    rw [List.length_take] at g1 g2
    exact ⟨by simp at g1; omega, fun d hd => by have := g2 d hd; omega⟩
  refine Ent.loop2 (k0 := .raw) (k1 := .int .i64) (fun N (l : Value) (i : Int) => (exs fun (y : Hp × Nat × List Dr × Option Addr × Nat) => sepL [pur (l = .slice y.2.2.2.1 y.2.2.1.length y.2.2.2.2 ∧ i = (y.2.1 : Int) ∧ y.2.1 ≤ L.length ∧ N = L.length - y.2.1 ∧ Hp.le M1 y.1 ∧ rgo [] ((lns s).take y.2.1) = some (y.2.2.1.map dDr) ∧ RqF y.1 y.2.2.1),
      SlO y.2.2.2.1 y.2.2.1.length y.2.2.2.2 4 (drcs y.2.2.1), ownW y.2.2.1, Sl.ro y.1, ownO y.2.2.1]) :: rest) L.length ?_ fun N j2 hj2 l i => ?_
  · refine Imp.trans (Imp.slN (sz := 4) (Imp.slN (sz := 1) (Imp.slN (sz := 6) (Imp.refl _)))) ?_
    refine Imp.exs (M1, 0, [], none, 0) (Imp.g5 (Imp.pur ⟨rfl, rfl, Nat.zero_le _, rfl, Hp.le_refl _, rfl, fun x hx => (by cases hx), fun x hx => (by cases hx)⟩ ?_))
    show Imp _ (SlO none 0 0 4 [] :: SlO none 0 0 1 [] :: Sl.ro M1 :: SlO none 0 0 6 [] :: rest)
    (focus ((repeat ((with_reducible apply Imp.pick); (repeat (first | exact Pick.hd | apply Pick.tl)))); (repeat (first | exact Imp.refl _ | exact Imp.nil _ | apply Imp.drop)); done))
  refine Ent.exs fun ⟨M2, k, rs, a, c⟩ => Ent.g5 (Ent.pur fun ⟨f1, f2, f3, f4, f5, f6, f7⟩ => ?_)
  dsimp only at f1 f2 f3 f4 f5 f6 f7
  dsimp only
  subst f1 f2
  obtain ⟨b1, b2⟩ := stl f6
  rw [List.length_map] at b1
  refine Ent.wlen ?_
  refine Ent.condD (fun hlt => ?_) fun hge => ?_
  · obtain ⟨y, hy⟩ : ∃ y, L[k]? = some y := ⟨_, List.getElem?_eq_getElem (by omega)⟩
    have hy' : L[((k : Nat) : Int).toNat]? = some y := hy
    have hyl := hpc y (List.mem_of_getElem? hy)
    obtain ⟨q1, q2⟩ := hat hy
    have stop : ∀ x, (lns s)[k]? = some x → rstep (rs.map dDr) x = none → ∀ C, Imp C (Sl.ro M2 :: rest) → Ent e C (ArK .i64 ((k : Int) + 1) fun t => K (.slice none 0 0) t 5) := fun x hx hno C hC => by
      refine Ent.war ?_
      exact (h5 k x (rs.map dDr) M2 (by omega) hx f6 hno (Hp.le_trans hM1 f5)).imp hC
    refine Ent.join1 (kd := .bool) (fun v => pur (v = (!en && decide (k + 1 = L.length))) :: SlO a rs.length c 4 (drcs rs) :: ownW rs :: Sl.ro M2 :: ownO rs :: rest) ?_ ?_
    rotate_left
    · intro j3 hj3
      refine Ent.cond (fun hc => ?_) fun hc => ?_
      · have he : en = false := by simpa using hc
        refine Ent.wlen ?_
        refine Ent.war ?_
        refine (hj3 _).imp (Imp.pur ?_ (Imp.refl _))
        rw [he, beqD]
        exact decide_eq_decide.2 (by omega)
      · have he : en = true := by simpa using hc
        refine (hj3 _).imp (Imp.pur ?_ (Imp.refl _))
        rw [he]; rfl
    intro v
    refine Ent.pur fun hv => ?_
    subst hv
    by_cases hbad : en = false ∧ k + 1 = L.length
    · refine Ent.wT ?_ (by rw [hbad.1, decide_eq_true hbad.2]; rfl)
      obtain ⟨g1, g2⟩ := q2 hbad.1 hbad.2
      exact stop y g1 (rstep_end g2) _ (by (focus ((repeat ((with_reducible apply Imp.pick); (repeat (first | exact Pick.hd | apply Pick.tl)))); (repeat (first | exact Imp.refl _ | exact Imp.nil _ | apply Imp.drop)); done)))
    refine Ent.wF ?_ (by
      cases en with
      | true => rfl
      | false => rw [decide_eq_false fun hh => hbad ⟨rfl, hh⟩]; rfl)
    have hx : (lns s)[k]? = some (y ++ [10]) := q1 (by
      cases en with
      | true => exact .inl rfl
      | false => exact .inr (by
          have : ¬ k + 1 = L.length := fun hh => hbad ⟨rfl, hh⟩
          omega))
    have hst : ∀ {st'}, rstep (rs.map dDr) (y ++ [10]) = some st' → rgo [] ((lns s).take (k + 1)) = some st' := fun {st'} h => (rgo_snoc f6 hx).trans h
    have hhd : (y ++ [10]).head? = some 62 ↔ y.head? = some 62 := by
      cases y with
      | nil => simp
      | cons c r => simp
    have hrL2 := hrL.mono f5
    have hyz : ((ba y).size : Int) = (y.length : Int) := by simp [ByteArray.size]
    refine Ent.join1 (kd := .bool) (fun v => pur (v = decide (y.head? = some 62)) :: SlO a rs.length c 4 (drcs rs) :: ownW rs :: Sl.ro M2 :: ownO rs :: rest) ?_ ?_
    rotate_left
    · intro j4 hj4
      refine Ent.wiSm (f := fun b => .string (ba b)) (xs := L) (y := y) ?_ (hr := hrL2) (hx := hy')
      refine Ent.wlenS ?_
      rw [hyz]
      refine Ent.condD (fun hp => ?_) fun hp => ?_
      · refine Ent.wiSm (f := fun b => .string (ba b)) (xs := L) (y := y) ?_ (hr := hrL2) (hx := hy')
        cases hyc : y with
        | nil => rw [hyc] at hp; simp at hp
        | cons c0 r0 =>
          refine oIx (l := c0 :: r0) (c := c0) (by omega) (by simp) ?_
          refine (hj4 _).imp (Imp.pur ?_ (Imp.refl _))
          rw [hyc, List.head?_cons, beqD]
          refine decide_eq_decide.2 ⟨fun hh => ?_, fun hh => ?_⟩
          · rw [show c0 = 62 from UInt8.toNat_inj.1 (by simpa using (by omega : c0.toNat = 62))]
          · rw [Option.some.inj hh]; rfl
      · have : y = [] := List.length_eq_zero_iff.1 (by omega)
        refine (hj4 _).imp (Imp.pur ?_ (Imp.refl _))
        rw [this]; rfl
    intro v
    refine Ent.pur fun hv => ?_
    subst hv
    refine Ent.condD (fun hgt => ?_) fun hgt => ?_
    · have hgt' := hhd.2 hgt
      refine Ent.wiSm (f := fun b => .string (ba b)) (xs := L) (y := y) ?_ (hr := hrL2) (hx := hy')
      refine refsent_spec (s := y) (by simp at hyl; omega) fun t x ok ht hx0 h1 h2 => ?_
      obtain ⟨g1, g2⟩ := sent_line ht hx0 h1 h2
      refine Ent.alloc' fun ob => ?_
      refine Ent.wstoA (l' := ouC x) ?_ (vs := ouC x) (hl := rfl) (hu := by (repeat (first | exact Upd.hd | apply Upd.tl)))
      refine Ent.wlen ?_
      refine Ent.war ?_
      rcases List.eq_nil_or_concat rs with rfl | ⟨pre, z, rfl⟩
      · have hno : rstep (([] : List Dr).map dDr) (y ++ [10]) = none := by
          unfold rstep
          rw [if_pos hgt']; rfl
        refine Ent.join1 (kd := .bool) (fun v => pur (v = true) :: Sl.ro M2 :: rest) ?_ ?_
        rotate_left
        · intro j5 hj5
          refine Ent.cond (fun _ => (hj5 _).imp (Imp.pur rfl (by (focus ((repeat ((with_reducible apply Imp.pick); (repeat (first | exact Pick.hd | apply Pick.tl)))); (repeat (first | exact Imp.refl _ | exact Imp.nil _ | apply Imp.drop)); done))))) fun _ => ?_
          refine Ent.wT ?_
          exact (hj5 _).imp (Imp.pur rfl (by (focus ((repeat ((with_reducible apply Imp.pick); (repeat (first | exact Pick.hd | apply Pick.tl)))); (repeat (first | exact Imp.refl _ | exact Imp.nil _ | apply Imp.drop)); done))))
        intro v
        refine Ent.pur fun hv => ?_
        subst hv
        refine Ent.wT ?_
        exact stop _ hx hno _ (Imp.refl _)
      rw [List.concat_eq_append] at f6 f7 b1 b2 hst stop ⊢
      have hlen1 : (pre ++ [z]).length = pre.length + 1 := by simp
      have hmap : (pre ++ [z]).map dDr = pre.map dDr ++ [dDr z] := by simp
      have hzL := f7.2 z (by simp)
      have hzb : z.os.length ≤ 131074 := by
        have := b2 (dDr z) (by rw [hmap]; simp)
        have e1 : (dDr z).2.2.length = z.os.length := by simp [dDr, hzL.n]
        omega
      have hzw := hzL.n
      have hstep : rstep ((pre ++ [z]).map dDr) (y ++ [10]) = if sentOk (y ++ [10]) = true ∧ z.k = 8 ∧ z.er = 0 then some (pre.map dDr ++ [(z.k, z.er, (dDr z).2.2 ++ [(sentR (y ++ [10])).1])]) else none := by
        unfold rstep
        rw [if_pos hgt', hmap, List.getLast?_append, List.getLast?_singleton, List.dropLast_concat]
        rfl
      rw [ownW_snoc, ownO_snoc]
      refine Ent.bring (A := SlO a (pre ++ [z]).length c 4 (drcs (pre ++ [z]))) ?_
      refine SlO.open2 (fun b r hc hcr ha => ?_) (fun _ hh _ => by rw [hlen1] at hh; omega)
      subst ha
      have hi : (((pre ++ [z]).length : Nat) : Int) - 1 = (pre.length : Int) := by rw [hlen1]; omega
      rw [hi]
      have z0 := at_drow pre z r 0 (by omega)
      have z1 := at_drow pre z r 1 (by omega)
      have z2 := at_drow pre z r 2 (by omega)
      refine Ent.join1 (kd := .bool) (fun v => pur (v = !decide (sentOk (y ++ [10]) = true ∧ z.k = 8 ∧ z.er = 0)) :: pt b (drcs (pre ++ [z]) ++ r) :: pt ob (ouC x) :: SlO x.a x.d.length x.cp 1 (u8 x.d) :: SlO z.wa z.ws.length z.wc 1 (iis z.ws) :: Sl.ro M2 :: SlO z.oa z.os.length z.oc 6 (oucs z.os) :: rest) ?_ ?_
      rotate_left
      · intro j5 hj5
        refine Ent.cond (fun hc1 => (hj5 _).imp (Imp.pur ?_ (by (focus ((repeat ((with_reducible apply Imp.pick); (repeat (first | exact Pick.hd | apply Pick.tl)))); (repeat (first | exact Imp.refl _ | exact Imp.nil _ | apply Imp.drop)); done))))) fun hc1 => ?_
        · have hok : ok = false := by simpa using hc1
          have hno : sentOk (y ++ [10]) = false := g1.symm.trans hok
          rw [decide_eq_false fun hh => by rw [hno] at hh; cases hh.1]; rfl
        have hok : ok = true := by simpa using hc1
        have ho : sentOk (y ++ [10]) = true := g1.symm.trans hok
        refine Ent.wF ?_
        refine Ent.opR (st_ixN (i := pre.length) rfl rfl (by omega)).still ?_
        refine Ent.wfI (v := z.k) (k := .i64) ?_ (hv := by rw [Nat.zero_add]; exact z0)
        refine Ent.cond (fun hc2 => (hj5 _).imp (Imp.pur ?_ (by (focus ((repeat ((with_reducible apply Imp.pick); (repeat (first | exact Pick.hd | apply Pick.tl)))); (repeat (first | exact Imp.refl _ | exact Imp.nil _ | apply Imp.drop)); done))))) fun hc2 => ?_
        · rw [decide_eq_false fun hh => by rw [hh.2.1] at hc2; simp at hc2]; rfl
        have hk8 : z.k = 8 := by simpa using hc2
        refine Ent.opR (st_ixN (i := pre.length) rfl rfl (by omega)).still ?_
        refine Ent.wfI (v := z.er) (k := .i64) ?_ (hv := by rw [Nat.zero_add]; exact z1)
        refine (hj5 _).imp (Imp.pur ?_ (by (focus ((repeat ((with_reducible apply Imp.pick); (repeat (first | exact Pick.hd | apply Pick.tl)))); (repeat (first | exact Imp.refl _ | exact Imp.nil _ | apply Imp.drop)); done))))
        by_cases he : z.er = 0
        · rw [decide_eq_true ⟨ho, hk8, he⟩, he]; rfl
        · rw [decide_eq_false fun hh => he hh.2.2]
          exact bne_iff_ne.2 he
      intro v
      refine Ent.pur fun hv => ?_
      subst hv
      by_cases hgood : sentOk (y ++ [10]) = true ∧ z.k = 8 ∧ z.er = 0
      · rw [if_pos hgood] at hstep
        have hok : ok = true := g1.trans hgood.1
        have hdv := g2 hok
        refine Ent.wF ?_ (by rw [decide_eq_true hgood]; rfl)
        refine Ent.opR (st_ixN (i := pre.length) rfl rfl (by omega)).still ?_
        refine Ent.wfR (v := .slice z.wa z.ws.length z.wc) ?_ (hv := by rw [Nat.zero_add]; exact z2)
        refine Ent.app1 (sz := 1) (cs := [.int .i64 t]) (fun a3 c3 => ?_) (hp := .tl (.tl (.tl .hd)))
        refine Ent.opR (st_ixN (i := pre.length) rfl rfl (by omega)).still ?_
        obtain ⟨z', hz'⟩ : ∃ z' : Dr, z' = ⟨z.k, z.er, a3, c3, z.ws ++ [t], z.oa, z.oc, z.os⟩ := ⟨_, rfl⟩
        have hset : (drcs (pre ++ [z]) ++ r).set (pre.length * 4 + 2) (.slice a3 (z.ws.length + 1) c3) = drcs (pre ++ [z']) ++ r := by
          rw [set_drow _ _ _ _ 2 (by omega), drcs_app, drcs_one]
          have : (drC z).set 2 (.slice a3 (z.ws.length + 1) c3) = drC z' := by rw [hz']; simp
          rw [this]
        have hoff : pre.length * 4 + 2 < (drcs (pre ++ [z]) ++ r).length := by rw [List.length_append, drcs_len, hlen1]; omega
        refine Ent.wfW (l := drcs (pre ++ [z]) ++ r) (l' := drcs (pre ++ [z']) ++ r) (off := 2) ?_ (hl := by rw [Nat.zero_add]; exact hset) (ho := by rw [Nat.zero_add]; exact hoff) (hu := by (repeat (first | exact Upd.hd | apply Upd.tl)))
        have y3 := at_drow pre z' r 3 (by omega)
        have hl2 : (pre ++ [z']).length = pre.length + 1 := by simp
        refine Ent.draw [pt b (drcs (pre ++ [z']) ++ r), pt ob (ouC x)] (by (focus ((repeat ((with_reducible apply Imp.pick); (repeat (first | exact Pick.hd | apply Pick.tl)))); (repeat (first | exact Imp.refl _ | exact Imp.nil _ | apply Imp.drop)); done))) ?_
        refine Ent.puR (st_ixN (i := pre.length) rfl rfl (by omega)) ?_
        refine Ent.wgR (v := .slice z.oa z.os.length z.oc) ?_ (hv := by rw [Nat.zero_add, y3, hz']; rfl)
        refine Ent.stR (v := .agg (ouC x).toArray) (st_loadA (n := 6) (cs := ouC x) (.tl .hd) rfl rfl rfl) ?_
        refine Ent.slice (out := oucs [x]) rfl rfl rfl rfl (by decide) (by decide) (by rfl) fun b2 => ?_
        refine Ent.wand ?_
        refine Ent.appN (sz := 6) (by_ := 72) (m := 1) (Rd.pt .hd) (fun a4 c4 => ?_) (hl := rfl) (h1 := oucs_one _)
        refine Ent.wand ?_
        refine Ent.puR (st_ixN (i := pre.length) rfl rfl (by omega)) ?_
        refine Ent.wqR ?_
        obtain ⟨w', hw'⟩ : ∃ w' : Dr, w' = ⟨z.k, z.er, a3, c3, z.ws ++ [t], a4, c4, z.os ++ [x]⟩ := ⟨_, rfl⟩
        have hset2 : (drcs (pre ++ [z']) ++ r).set (pre.length * 4 + 3) (.slice a4 (z.os.length + 1) c4) = drcs (pre ++ [w']) ++ r := by
          rw [set_drow _ _ _ _ 3 (by omega), drcs_app, drcs_one]
          have : (drC z').set 3 (.slice a4 (z.os.length + 1) c4) = drC w' := by rw [hz', hw']; simp
          rw [this]
        have hoff2 : pre.length * 4 + 3 < (drcs (pre ++ [z']) ++ r).length := by rw [List.length_append, drcs_len, hl2]; omega
        refine Ent.wsto (l := drcs (pre ++ [z']) ++ r) (l' := drcs (pre ++ [w']) ++ r) ?_ (hl := by rw [Nat.zero_add]; exact hset2) (ho := by rw [Nat.zero_add]; exact hoff2) (hu := by (repeat (first | exact Upd.hd | apply Upd.tl)))
        refine Ent.war ?_
        refine Ent.imp (ctx' := SlO x.a x.d.length x.cp 1 (u8 x.d) :: Sl.ro M2 :: pt b (drcs (pre ++ [w']) ++ r) :: SlO a3 (z.ws.length + 1) c3 1 (iis z.ws ++ [.int .i64 t]) :: SlO a4 (z.os.length + 1) c4 6 (oucs z.os ++ oucs [x]) :: rest) (by (focus ((repeat ((with_reducible apply Imp.pick); (repeat (first | exact Pick.hd | apply Pick.tl)))); (repeat (first | exact Imp.refl _ | exact Imp.nil _ | apply Imp.drop)); done))) ?_
        refine Ent.keepS fun M3 hM3 hrm _ _ _ => ?_
        refine (hj2 (N - 1) (by omega) _ _).imp ?_
        have hl3 : (pre ++ [w']).length = (pre ++ [z]).length := by simp
        have hdz : (pre ++ [w']).map dDr = pre.map dDr ++ [(z.k, z.er, (dDr z).2.2 ++ [(sentR (y ++ [10])).1])] := by
          rw [List.map_append, ← hdv]
          have : dDr w' = (z.k, z.er, (dDr z).2.2 ++ [(t, dOu x)]) := by
            rw [hw']
            unfold dDr
            dsimp only
            rw [dDr_snoc hzL.n]; rfl
          rw [List.map_cons, List.map_nil, this]
        have hF2 : RqF M3 (pre ++ [w']) := by
          refine ⟨fun w hw => ?_, fun w hw => ?_⟩
          · rw [List.dropLast_concat] at hw
            exact (f7.1 w (by rw [List.dropLast_concat]; exact hw)).mono hM3
          · rcases List.mem_append.1 hw with hw | hw
            · exact (f7.2 w (by simp [hw])).mono hM3
            · rw [List.mem_singleton.1 hw, hw']
              have hzf := hzL.mono hM3
              refine ⟨hzf.er, by simp [hzf.n], fun v hv => ?_, fun v hv => ?_⟩
              · rcases List.mem_append.1 hv with hv | hv
                · exact hzf.wi v hv
                · rw [List.mem_singleton.1 hv]; exact ht
              · rcases List.mem_append.1 hv with hv | hv
                · exact hzf.d v hv
                · rw [List.mem_singleton.1 hv]; exact ⟨hx0, hrm⟩
        refine Imp.exs (M3, k + 1, pre ++ [w'], some ⟨b, 0, none⟩, c) (Imp.g5 (Imp.pur ⟨(by dsimp only; rw [hl3]), (by dsimp only; omega), (by dsimp only; omega), (by dsimp only; omega), Hp.le_trans f5 hM3, hst (by rw [hstep, hdz]), hF2⟩ ?_))
        dsimp only
        rw [ownW_snoc, ownO_snoc, hl3]
        have hwa : w'.wa = a3 := by rw [hw']
        have hwc : w'.wc = c3 := by rw [hw']
        have hww : w'.ws = z.ws ++ [t] := by rw [hw']
        have hoa : w'.oa = a4 := by rw [hw']
        have hoc : w'.oc = c4 := by rw [hw']
        have hoo : w'.os = z.os ++ [x] := by rw [hw']
        rw [hwa, hwc, hww, hoa, hoc, hoo, iis_app, oucs_app, show (z.ws ++ [t]).length = z.ws.length + 1 by simp, show (z.os ++ [x]).length = z.os.length + 1 by simp]
        refine Imp.trans (b := pt b (drcs (pre ++ [w']) ++ r) :: SlO a3 (z.ws.length + 1) c3 1 (iis z.ws ++ [.int .i64 t]) :: Sl.ro M3 :: SlO a4 (z.os.length + 1) c4 6 (oucs z.os ++ oucs [x]) :: rest) (by (focus ((repeat ((with_reducible apply Imp.pick); (repeat (first | exact Pick.hd | apply Pick.tl)))); (repeat (first | exact Imp.refl _ | exact Imp.nil _ | apply Imp.drop)); done))) ?_
        exact slO_re (n := (pre ++ [z]).length) (c := c) (sz := 4) hc (by rw [List.length_append, drcs_len] at hcr ⊢; rw [hl3]; exact hcr) (by rw [drcs_len, hl3])
      · rw [if_neg hgood] at hstep
        refine Ent.wT ?_ (by rw [decide_eq_false hgood]; rfl)
        exact stop _ hx hstep _ (by (focus ((repeat ((with_reducible apply Imp.pick); (repeat (first | exact Pick.hd | apply Pick.tl)))); (repeat (first | exact Imp.refl _ | exact Imp.nil _ | apply Imp.drop)); done)))
    · have hgt' : ¬ (y ++ [10]).head? = some 62 := fun hh => hgt (hhd.1 hh)
      refine Ent.wiSm (f := fun b => .string (ba b)) (xs := L) (y := y) ?_ (hr := hrL2) (hx := hy')
      refine refrow_spec (s := y) (by simp at hyl; omega) fun kk er ok he h1 h2 => ?_
      obtain ⟨g1, g2⟩ := row_line he h1 h2
      obtain ⟨X, hX⟩ : ∃ X : Dr, X = ⟨kk, er, none, 0, [], none, 0, []⟩ := ⟨_, rfl⟩
      rw [← hX]
      refine Ent.alloc' fun xb => ?_
      refine Ent.wstoA (l' := drC X) ?_ (vs := drC X) (hl := rfl) (hu := by (repeat (first | exact Upd.hd | apply Upd.tl)))
      refine Ent.cond (fun hc1 => ?_) fun hc1 => ?_
      · have hok : ok = false := by simpa using hc1
        have hno : rstep (rs.map dDr) (y ++ [10]) = none := by
          unfold rstep
          rw [if_neg hgt', if_neg (by rw [← g1, hok]; decide)]
        exact stop _ hx hno _ (by (focus ((repeat ((with_reducible apply Imp.pick); (repeat (first | exact Pick.hd | apply Pick.tl)))); (repeat (first | exact Imp.refl _ | exact Imp.nil _ | apply Imp.drop)); done)))
      · have hok : ok = true := by simpa using hc1
        have hdX : dDr X = hdR (rowR (y ++ [10])).1 := by rw [g2 hok, hX]; rfl
        have hstep : rstep (rs.map dDr) (y ++ [10]) = some (rs.map dDr ++ [dDr X]) := by
          unfold rstep
          rw [if_neg hgt', if_pos (g1.symm.trans hok), hdX]
        refine Ent.wlA (cs := drC X) ?_
        refine Ent.app1 (sz := 4) (cs := drC X) (fun a2 c2 => ?_) (hp := .tl .hd)
        refine Ent.war ?_
        refine Ent.imp (ctx' := ownW rs :: Sl.ro M2 :: ownO rs :: SlO a2 (rs.length + 1) c2 4 (drcs rs ++ drC X) :: rest) (by (focus ((repeat ((with_reducible apply Imp.pick); (repeat (first | exact Pick.hd | apply Pick.tl)))); (repeat (first | exact Imp.refl _ | exact Imp.nil _ | apply Imp.drop)); done))) ?_
        refine ownWO_keep f7 fun M3 hM3 hall => ?_
        refine (hj2 (N - 1) (by omega) _ _).imp ?_
        have e1 : (rs ++ [X]).length = rs.length + 1 := by simp
        have e2 : drcs (rs ++ [X]) = drcs rs ++ drC X := by rw [drcs_app, drcs_one]
        have hF2 : RqF M3 (rs ++ [X]) := by
          refine ⟨fun w hw => ?_, fun w hw => ?_⟩
          · rw [List.dropLast_concat] at hw
            exact hall w hw
          · rcases List.mem_append.1 hw with hw | hw
            · exact (hall w hw).b
            · rw [List.mem_singleton.1 hw, hX]
              exact ⟨he, rfl, fun v hv => (by cases hv), fun v hv => (by cases hv)⟩
        refine Imp.exs (M3, k + 1, rs ++ [X], a2, c2) (Imp.g5 (Imp.pur ⟨(by dsimp only; rw [e1]), (by dsimp only; omega), (by dsimp only; omega), (by dsimp only; omega), Hp.le_trans f5 hM3, hst (by rw [hstep, List.map_append]; rfl), hF2⟩ ?_))
        dsimp only
        rw [e1, e2, ownW_snoc, ownO_snoc, hX]
        refine Imp.trans (Imp.slN (sz := 1) (Imp.slN (sz := 6) (Imp.refl _))) ?_
        show Imp (SlO none 0 0 1 [] :: SlO none 0 0 6 [] :: _) (_ :: SlO none 0 0 1 [] :: Sl.ro M3 :: SlO none 0 0 6 [] :: rest)
        (focus ((repeat ((with_reducible apply Imp.pick); (repeat (first | exact Pick.hd | apply Pick.tl)))); (repeat (first | exact Imp.refl _ | exact Imp.nil _ | apply Imp.drop)); done))
  · have hke : k = (lns s).length := by omega
    rw [hke, List.take_length] at f6
    refine Ent.imp (ctx' := ownW rs :: Sl.ro M2 :: ownO rs :: SlO a rs.length c 4 (drcs rs) :: rest) (by (focus ((repeat ((with_reducible apply Imp.pick); (repeat (first | exact Pick.hd | apply Pick.tl)))); (repeat (first | exact Imp.refl _ | exact Imp.nil _ | apply Imp.drop)); done))) ?_
    refine ownWO_keep f7 fun M3 hM3 hall => ?_
    refine Ent.imp ?_ (h0 rs a c M3 (by omega) f6 (Hp.le_trans hM1 (Hp.le_trans f5 hM3)) hall)
    (focus ((repeat ((with_reducible apply Imp.pick); (repeat (first | exact Pick.hd | apply Pick.tl)))); (repeat (first | exact Imp.refl _ | exact Imp.nil _ | apply Imp.drop)); done))
end
end Go.Proofs.YtoneapgooihajaaGreatDoor.Qa
