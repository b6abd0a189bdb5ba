/-
  THE DOCUMENT's EVENTS (layer 31): a line, lines, texts.
-/
import Derived.Test.YtoneapgooihajaaGreatDoorUb
set_option maxRecDepth 100000
set_option linter.unusedVariables false
set_option linter.unusedSectionVars false
set_option linter.unusedSimpArgs false
set_option maxHeartbeats 0
namespace Go.Proofs.YtoneapgooihajaaGreatDoor.Qa
open Go Sh Sl
open Go.RowKit
attribute [local irreducible] condK ArK NilK OpK FnK StK joinK loopK DrawK andK PuK NxK EnK vS uS bS callS invokeS
/-- a number taken -/
def NumStep (z : Rs) (n : Int) (z' : Rs) : Prop :=
  ∃ b, I64 n ∧ (b = false → Lib.itoa n = lw (blankR z).1) ∧ (∀ m, I64 m → Lib.itoa m = lw (blankR z).1 → b = false ∧ n = m) ∧ z' = (ld (blankR z).1, (blankR z).2 || b)
theorem NumStep.sound {z z' : Rs} {n : Int} (h : NumStep z n z') (hz : z'.2 = false) : z.2 = false ∧ z.1 = 32 :: (Lib.itoa n ++ z'.1) := by
  obtain ⟨b, _, h2, _, rfl⟩ := h
  simp only [Bool.or_eq_false_iff] at hz
  obtain ⟨h4, h5⟩ := blankR_ok hz.1
  refine ⟨h5, ?_⟩
  rw [h4, h2 hz.2, lw_ld]
theorem NumStep.complete {z z' : Rs} {n m : Int} {r : Bs} (h : NumStep z n z') (hz : z = (32 :: (Lib.itoa m ++ r), false)) (hm : I64 m) (hr : r = [] ∨ ∃ r', r = 32 :: r') : n = m ∧ z' = (r, false) := by
  obtain ⟨b, _, _, h3, rfl⟩ := h
  have e1 : blankR z = (Lib.itoa m ++ r, false) := by rw [hz]; rfl
  rw [e1] at h3 ⊢
  have e2 : lw (Lib.itoa m ++ r) = Lib.itoa m ∧ ld (Lib.itoa m ++ r) = r := by
    rcases hr with rfl | ⟨r', rfl⟩
    · rw [List.append_nil]; exact lw_all (itoa_nb m)
    · exact lw_at (itoa_nb m)
  obtain ⟨g1, g2⟩ := h3 m hm e2.1.symm
  rw [g1]
  exact ⟨g2, by rw [e2.2]; rfl⟩
theorem NumStep.len {z z' : Rs} {n : Int} (h : NumStep z n z') : z'.1.length ≤ z.1.length := by
  obtain ⟨b, _, _, _, rfl⟩ := h
  have := blankR_len z
  have := (lw_len (blankR z).1).2
  dsimp only
  omega
theorem NumStep.i64 {z z' : Rs} {n : Int} (h : NumStep z n z') : I64 n := by
  obtain ⟨b, h1, _⟩ := h
  exact h1
theorem refword_sound {z : Rs} (h : (refword z).2.2 = false) : z.2 = false ∧ z.1 = 32 :: (q (refword z).1 ++ (refword z).2.1) := by
  unfold refword at h ⊢
  cases hu : uq (blankR z).1 with
  | none => rw [hu] at h; cases h
  | some p =>
    obtain ⟨b, r⟩ := p
    rw [hu] at h
    dsimp only at h ⊢
    obtain ⟨h4, h5⟩ := blankR_ok h
    exact ⟨h5, by rw [h4, uq_some.1 hu]⟩
theorem refword_complete {b : Bs} : refword (32 :: q b, false) = (b, [], false) := by
  unfold refword
  rw [blankR_at, uq_some.2 (List.append_nil (q b)).symm]
theorem refword_len (z : Rs) : (refword z).1.length ≤ z.1.length ∧ (refword z).2.1.length ≤ z.1.length := by
  have hb := blankR_len z
  unfold refword
  cases hu : uq (blankR z).1 with
  | none => simp
  | some p =>
    obtain ⟨b, r⟩ := p
    have := uq_len hu
    dsimp only
    omega
def KindStep (z : Rs) (k : Int) (z' : Rs) : Prop :=
  ∃ b, (b = false → (1 ≤ k ∧ k ≤ 8) ∧ nameAt kindsL k = lw z.1) ∧ (∀ m, 1 ≤ m ∧ m ≤ 8 → nameAt kindsL m = lw z.1 → b = false ∧ k = m) ∧ z' = (ld z.1, z.2 || b)
theorem name_nb' (k : Int) : nb (nameAt kindsL k) := name_nb k
theorem KindStep.sound {z z' : Rs} {k : Int} (h : KindStep z k z') (hz : z'.2 = false) : z.2 = false ∧ (1 ≤ k ∧ k ≤ 8) ∧ z.1 = nameAt kindsL k ++ z'.1 := by
  obtain ⟨b, h1, _, rfl⟩ := h
  simp only [Bool.or_eq_false_iff] at hz
  obtain ⟨g1, g2⟩ := h1 hz.2
  exact ⟨hz.1, g1, by rw [g2, lw_ld]⟩
theorem KindStep.complete {z z' : Rs} {k m : Int} {r : Bs} (h : KindStep z k z') (hz : z = (nameAt kindsL m ++ 32 :: r, false)) (hm : 1 ≤ m ∧ m ≤ 8) : k = m ∧ z' = (32 :: r, false) := by
  obtain ⟨b, _, h2, rfl⟩ := h
  have e1 := lw_at (r := r) (name_nb' m)
  rw [hz] at h2 ⊢
  dsimp only at h2 ⊢
  obtain ⟨g1, g2⟩ := h2 m hm e1.1.symm
  rw [g1, e1.2]
  exact ⟨g2, rfl⟩
theorem KindStep.len {z z' : Rs} {k : Int} (h : KindStep z k z') : z'.1.length ≤ z.1.length := by
  obtain ⟨b, _, _, rfl⟩ := h
  exact (lw_len z.1).2
theorem evT_form {k t n : Int} {b s : Bs} (h : evT k t n b = (s ++ [10], true)) :
    (1 ≤ k ∧ k ≤ 8) ∧ s = nameAt kindsL k ++ 32 :: (if k = 8 then Lib.itoa n else Lib.itoa t ++ 32 :: (Lib.itoa n ++ (if k = 2 ∨ k = 6 then 32 :: q b else []))) ∧ (k = 8 → t = 0) ∧ (¬ (k = 2 ∨ k = 6) → b = []) := by
  have hn : nameAt kindsL k ≠ [] → 1 ≤ k ∧ k ≤ 8 := name_dom
  unfold evT at h
  split at h
  · rename_i h8
    obtain ⟨h1, h2⟩ := Prod.mk.inj h
    simp only [Bool.and_eq_true, decide_eq_true_eq] at h2
    have h3 := List.append_cancel_right h1
    rw [if_pos h8, ← h3, joinB_2]
    exact ⟨by omega, rfl, fun _ => h2.1, fun _ => h2.2⟩
  · rename_i h8
    rw [if_neg h8]
    split at h
    · rename_i h26
      obtain ⟨h1, h2⟩ := Prod.mk.inj h
      have h3 := List.append_cancel_right h1
      rw [if_pos h26, ← h3, joinB_4]
      exact ⟨by omega, rfl, fun hh => absurd hh h8, fun hh => absurd h26 hh⟩
    · rename_i h26
      obtain ⟨h1, h2⟩ := Prod.mk.inj h
      simp only [Bool.and_eq_true, decide_eq_true_eq] at h2
      have h3 := List.append_cancel_right h1
      rw [if_neg h26, ← h3, joinB_3, List.append_nil]
      exact ⟨hn h2.1, rfl, fun hh => absurd hh h8, fun _ => h2.2⟩
section
variable {e : Env} {ctx rest R : List HProp} {M : Hp}
theorem numstep_spec {K : Int → WP} {rb : Nat} {z : Rs} (hs : z.1.length ≤ 268435456) (h : ∀ n z', NumStep z n z' → Ent e (pt rb (rdC z') :: rest) (K n)) : Ent e (pt rb (rdC z) :: rest) (ref31_Reader_number (ptr rb) K) :=
  refnumber_spec hs fun n b h1 h2 h3 => h n _ ⟨b, h1, h2, h3, rfl⟩
theorem kindstep_spec {K : Int → WP} {rb : Nat} {z : Rs} (hs : z.1.length ≤ 268435456) (h : ∀ k z', KindStep z k z' → Ent e (pt rb (rdC z') :: rest) (K k)) : Ent e (pt rb (rdC z) :: rest) (ref31_Reader_kind (ptr rb) K) :=
  refkind_spec hs fun k b h1 h2 => h k _ ⟨b, h1, h2, rfl⟩
theorem bnil (s : Bs) : decide (ba s = (⟨#[]⟩ : ByteArray)) = decide (s = []) := ba_eqb s []
theorem refevent_spec {K : Value → Bool → WP} {s : Bs} (hs : s.length ≤ 1048576)
    (h : ∀ (x : Ev) (ok : Bool), EvR x → (ok = true → evT x.k x.t x.n x.b = (s ++ [10], true)) → (∀ d : dE', I64 d.2.1 → I64 d.2.2.1 → evL d = (s ++ [10], true) → ok = true ∧ dEv x = d) →
      Ent e (SlO x.a x.b.length x.c 1 (u8 x.b) :: rest) (K (.agg (evC x).toArray) ok)) : Ent e rest (ref31_Event (ba s) K) := by
  (refine Ent.fn ref31_Event_ok ?_; unfold ref31_Event_sh)
  refine Ent.alloc' fun t2 => ?_
  refine Ent.opR (st_build (out := rdC (s, false)) rfl rfl rfl).still ?_
  refine Ent.box' fun rb => ?_
  refine kindstep_spec (by dsimp only; omega) fun k z1 hk => ?_
  have hkl := hk.len
  dsimp only at hkl
  refine Ent.opR (st_build (out := evC ⟨k, 0, 0, none, 0, []⟩) rfl rfl rfl).still ?_
  refine Ent.alloc' fun eb => ?_
  refine Ent.wstoA (l' := evC ⟨k, 0, 0, none, 0, []⟩) ?_ (vs := evC ⟨k, 0, 0, none, 0, []⟩) (hl := rfl) (hu := by (repeat (first | exact Upd.hd | apply Upd.tl)))
  refine Ent.wnB ?_
  refine Ent.cond (fun hb => ?_) fun hb => ?_
  · refine Ent.wlA (cs := evC ⟨k, 0, 0, none, 0, []⟩) ?_
    refine Ent.wstoA (l' := evC ⟨k, 0, 0, none, 0, []⟩) ?_ (vs := evC ⟨k, 0, 0, none, 0, []⟩) (hl := rfl) (hu := by (repeat (first | exact Upd.hd | apply Upd.tl)))
    refine Ent.wrA (l := evC ⟨k, 0, 0, none, 0, []⟩) ?_
    have h2 := h ⟨k, 0, 0, none, 0, []⟩ false ⟨by dsimp only; omega, by dsimp only; omega, by simp⟩ (fun hh => by cases hh) fun d d1 d2 hd => by
      obtain ⟨g1, g2, _⟩ := evT_form hd
      have := (hk.complete (m := d.1) (by rw [g2]) g1).2
      rw [this] at hb; cases hb
    refine h2.imp ?_
    refine Imp.trans (Imp.slN (sz := 1) (Imp.refl _)) ?_
    show Imp (SlO none 0 0 1 [] :: _) (SlO none 0 0 1 [] :: _)
    (focus ((repeat ((with_reducible apply Imp.pick); (repeat (first | exact Pick.hd | apply Pick.tl)))); (repeat (first | exact Imp.refl _ | exact Imp.nil _ | apply Imp.drop)); done))
  obtain ⟨_, hk1, hk2⟩ := hk.sound hb
  dsimp only at hk2
  have hz1 : z1 = (z1.1, false) := Prod.ext rfl hb
  -- what is left at the end
  have fin : ∀ (x : Ev) (z : Rs), EvR x → (z.2 = false → z.1 = [] → evT x.k x.t x.n x.b = (s ++ [10], true)) → (∀ d : dE', I64 d.2.1 → I64 d.2.2.1 → evL d = (s ++ [10], true) → z = ([], false) ∧ dEv x = d) →
      Ent e (pt eb (evC x) :: pt rb (rdC z) :: SlO x.a x.b.length x.c 1 (u8 x.b) :: pt t2 (evC ⟨0, 0, 0, none, 0, []⟩) :: rest) (DrawK fun S =>
        sR S (vS (Instr.loadAt 57 (ptr eb))) fun t37 => hB S 123 (ptr rb) 1 4 fun t41 =>
        condK (!t41) (hS S 123 (ptr rb) 0 9 fun t47 =>
          qB (bS .eql 9 (.tmp 47) (.const (.string (⟨#[]⟩ : ByteArray))) (.string t47) (.string (⟨#[]⟩ : ByteArray))) fun t48 =>
          sto 57 (ptr t2) t37 <| andK S <| rR (vS (do loadVar 57 (← asAddr (ptr t2)))) fun u_8 => K u_8 t48)
        (sto 57 (ptr t2) t37 <| andK S <| rR (vS (do loadVar 57 (← asAddr (ptr t2)))) fun u_10 => K u_10 false)) := fun x z hx h1 h2 => by
    refine Ent.draw [pt eb (evC x), pt rb (rdC z)] (by (focus ((repeat ((with_reducible apply Imp.pick); (repeat (first | exact Pick.hd | apply Pick.tl)))); (repeat (first | exact Imp.refl _ | exact Imp.nil _ | apply Imp.drop)); done))) ?_
    refine Ent.stR (v := .agg (evC x).toArray) (st_loadA (n := 4) (cs := evC x) .hd rfl rfl rfl) ?_
    refine Ent.whB ?_
    refine Ent.cond (fun hc => ?_) fun hc => ?_
    · have hz2 : z.2 = false := by simpa using hc
      refine Ent.whS ?_
      refine Ent.puB st_eqS ?_
      rw [bnil]
      refine Ent.wstoA (l' := evC x) ?_ (vs := evC x) (hl := rfl) (hu := by (repeat (first | exact Upd.hd | apply Upd.tl)))
      refine Ent.wand ?_
      refine Ent.wrA (l := evC x) ?_
      refine (h x (decide (z.1 = [])) hx (fun hh => h1 hz2 (of_decide_eq_true hh)) fun d d1 d2 hd => ?_).imp (by (focus ((repeat ((with_reducible apply Imp.pick); (repeat (first | exact Pick.hd | apply Pick.tl)))); (repeat (first | exact Imp.refl _ | exact Imp.nil _ | apply Imp.drop)); done)))
      obtain ⟨g1, g2⟩ := h2 d d1 d2 hd
      exact ⟨decide_eq_true (by rw [g1]), g2⟩
    · have hz2 : z.2 = true := by simpa using hc
      refine Ent.wstoA (l' := evC x) ?_ (vs := evC x) (hl := rfl) (hu := by (repeat (first | exact Upd.hd | apply Upd.tl)))
      refine Ent.wand ?_
      refine Ent.wrA (l := evC x) ?_
      refine (h x false hx (fun hh => by cases hh) fun d d1 d2 hd => ?_).imp (by (focus ((repeat ((with_reducible apply Imp.pick); (repeat (first | exact Pick.hd | apply Pick.tl)))); (repeat (first | exact Imp.refl _ | exact Imp.nil _ | apply Imp.drop)); done)))
      obtain ⟨g1, g2⟩ := h2 d d1 d2 hd
      rw [g1] at hz2; cases hz2
  have lift : ∀ {x : Ev} {z : Rs} {c : WP}, Ent e (pt eb (evC x) :: pt rb (rdC z) :: SlO none 0 0 1 [] :: pt t2 (evC ⟨0, 0, 0, none, 0, []⟩) :: rest) c → Ent e (pt rb (rdC z) :: pt eb (evC x) :: pt t2 (evC ⟨0, 0, 0, none, 0, []⟩) :: rest) c := fun {x z c} hc => by
    refine hc.imp ?_
    refine Imp.trans (Imp.slN (sz := 1) (Imp.refl _)) ?_
    (focus ((repeat ((with_reducible apply Imp.pick); (repeat (first | exact Pick.hd | apply Pick.tl)))); (repeat (first | exact Imp.refl _ | exact Imp.nil _ | apply Imp.drop)); done))
  by_cases h8 : k = 8
  · subst h8
    refine Ent.join0 (pt rb (rdC z1) :: pt eb (evC ⟨8, 0, 0, none, 0, []⟩) :: pt t2 (evC ⟨0, 0, 0, none, 0, []⟩) :: rest) ?_ ?_
    rotate_left
    · intro j1 hj1
      refine Ent.wfI ?_
      refine Ent.wF ?_
      exact hj1.imp (by (focus ((repeat ((with_reducible apply Imp.pick); (repeat (first | exact Pick.hd | apply Pick.tl)))); (repeat (first | exact Imp.refl _ | exact Imp.nil _ | apply Imp.drop)); done)))
    refine numstep_spec (by omega) fun n z2 hn => ?_
    refine Ent.wfW ?_
    refine Ent.join0 (pt rb (rdC z2) :: pt eb (evC ⟨8, 0, n, none, 0, []⟩) :: pt t2 (evC ⟨0, 0, 0, none, 0, []⟩) :: rest) ?_ ?_
    rotate_left
    · intro j2 hj2
      refine Ent.wfI ?_
      refine Ent.wF ?_
      refine Ent.wfI ?_
      refine Ent.wF ?_
      exact hj2.imp (by (focus ((repeat ((with_reducible apply Imp.pick); (repeat (first | exact Pick.hd | apply Pick.tl)))); (repeat (first | exact Imp.refl _ | exact Imp.nil _ | apply Imp.drop)); done)))
    refine lift (x := ⟨8, 0, n, none, 0, []⟩) ?_
    refine fin ⟨8, 0, n, none, 0, []⟩ z2 ⟨by dsimp only; omega, hn.i64, by simp⟩ (fun g1 g2 => ?_) fun d d1 d2 hd => ?_
    · obtain ⟨_, e1⟩ := hn.sound g1
      rw [g2, List.append_nil] at e1
      dsimp only
      unfold evT
      rw [if_pos rfl, joinB_2, hk2, e1]
      simp
    · obtain ⟨g1, g2, g3, g4⟩ := evT_form hd
      obtain ⟨e1, e2⟩ := hk.complete (m := d.1) (by rw [g2]) g1
      obtain ⟨dk, dt, dn, db⟩ := d
      dsimp only at e1 e2 g2 g3 g4 d1 d2
      subst e1
      rw [if_pos rfl] at e2
      obtain ⟨e3, e4⟩ := hn.complete (m := dn) (r := []) (by rw [e2, List.append_nil]) d2 (.inl rfl)
      refine ⟨e4, ?_⟩
      unfold dEv
      rw [g3 rfl, g4 (by decide), e3]
  refine Ent.join0 ((exs fun (p : Int × Rs) => sepL [pur (NumStep z1 p.1 p.2), pt rb (rdC p.2), pt eb (evC ⟨k, p.1, 0, none, 0, []⟩)]) :: pt t2 (evC ⟨0, 0, 0, none, 0, []⟩) :: rest) ?_ ?_
  rotate_left
  · intro j1 hj1
    refine Ent.wfI ?_
    refine Ent.wT ?_ (bne_iff_ne.2 h8)
    refine Ent.bring (A := pt rb (rdC z1)) ?_
    refine numstep_spec (by omega) fun t z2 ht => ?_
    refine Ent.wfW (l' := evC ⟨k, t, 0, none, 0, []⟩) ?_ (hl := rfl) (hu := by (repeat (first | exact Upd.hd | apply Upd.tl)))
    refine hj1.imp ?_
    exact Imp.exs (t, z2) (Imp.g3 (Imp.pur ht (by (focus ((repeat ((with_reducible apply Imp.pick); (repeat (first | exact Pick.hd | apply Pick.tl)))); (repeat (first | exact Imp.refl _ | exact Imp.nil _ | apply Imp.drop)); done)))))
  refine Ent.exs fun ⟨t, z2⟩ => Ent.g3 (Ent.pur fun ht => ?_)
  dsimp only at ht
  dsimp only
  have htl := ht.len
  refine numstep_spec (by omega) fun n z3 hn => ?_
  have hnl := hn.len
  refine Ent.wfW (l' := evC ⟨k, t, n, none, 0, []⟩) ?_ (hl := rfl) (hu := by (repeat (first | exact Upd.hd | apply Upd.tl)))
  by_cases h26 : k = 2 ∨ k = 6
  · have hrl := refword_len z3
    refine Ent.join0 ((exs fun (p : Option Addr × Nat) => sepL [pt eb (evC ⟨k, t, n, p.1, p.2, (refword z3).1⟩), pt rb (rdC (refword z3).2), SlO p.1 (refword z3).1.length p.2 1 (u8 (refword z3).1)]) :: pt t2 (evC ⟨0, 0, 0, none, 0, []⟩) :: rest) ?_ ?_
    rotate_left
    · intro j2 hj2
      have tail : Ent e (pt rb (rdC z3) :: pt eb (evC ⟨k, t, n, none, 0, []⟩) :: pt t2 (evC ⟨0, 0, 0, none, 0, []⟩) :: rest) (ref31_Reader_word (ptr rb) fun t35 => fW 57 (ptr eb) 3 52 t35 <| j2) := by
        refine refword_spec (by omega) fun a c => ?_
        refine Ent.wfW (l' := evC ⟨k, t, n, a, c, (refword z3).1⟩) ?_ (hl := rfl) (hu := by (repeat (first | exact Upd.hd | apply Upd.tl)))
        refine hj2.imp ?_
        exact Imp.exs (a, c) (Imp.g3 (by (focus ((repeat ((with_reducible apply Imp.pick); (repeat (first | exact Pick.hd | apply Pick.tl)))); (repeat (first | exact Imp.refl _ | exact Imp.nil _ | apply Imp.drop)); done))))
      refine Ent.wfI ?_
      by_cases h2 : k = 2
      · refine Ent.wT ?_ (beq_iff_eq.2 h2)
        exact tail
      · refine Ent.wF ?_ (beq_eq_false_iff_ne.2 h2)
        refine Ent.wfI ?_
        refine Ent.wT ?_ (beq_iff_eq.2 (h26.resolve_left h2))
        exact tail
    refine Ent.exs fun ⟨a, c⟩ => Ent.g3 ?_
    dsimp only
    refine fin ⟨k, t, n, a, c, (refword z3).1⟩ (refword z3).2 ⟨ht.i64, hn.i64, by dsimp only; omega⟩ (fun g1 g2 => ?_) fun d d1 d2 hd => ?_
    · obtain ⟨e1, e2⟩ := refword_sound g1
      rw [g2, List.append_nil] at e2
      obtain ⟨e3, e4⟩ := hn.sound e1
      obtain ⟨e5, e6⟩ := ht.sound e3
      dsimp only
      unfold evT
      rw [if_neg h8, if_pos h26, joinB_4, hk2, e6, e4, e2]
    · obtain ⟨g1, g2, g3, g4⟩ := evT_form hd
      obtain ⟨e1, e2⟩ := hk.complete (m := d.1) (by rw [g2]) g1
      obtain ⟨dk, dt, dn, db⟩ := d
      dsimp only at e1 e2 g2 g3 g4 d1 d2
      subst e1
      rw [if_neg h8, if_pos h26] at e2
      obtain ⟨e3, e4⟩ := ht.complete (m := dt) (r := 32 :: (Lib.itoa dn ++ 32 :: q db)) (by rw [e2]) d1 (.inr ⟨_, rfl⟩)
      obtain ⟨e5, e6⟩ := hn.complete (m := dn) (r := 32 :: q db) (by rw [e4]) d2 (.inr ⟨_, rfl⟩)
      rw [e6, refword_complete]
      exact ⟨rfl, by unfold dEv; rw [e3, e5]⟩
  · refine Ent.join0 (pt rb (rdC z3) :: pt eb (evC ⟨k, t, n, none, 0, []⟩) :: pt t2 (evC ⟨0, 0, 0, none, 0, []⟩) :: rest) ?_ ?_
    rotate_left
    · intro j2 hj2
      refine Ent.wfI ?_
      refine Ent.wF ?_ (beq_eq_false_iff_ne.2 fun hh => h26 (.inl hh))
      refine Ent.wfI ?_
      refine Ent.wF ?_ (beq_eq_false_iff_ne.2 fun hh => h26 (.inr hh))
      exact hj2.imp (by (focus ((repeat ((with_reducible apply Imp.pick); (repeat (first | exact Pick.hd | apply Pick.tl)))); (repeat (first | exact Imp.refl _ | exact Imp.nil _ | apply Imp.drop)); done)))
    refine lift (x := ⟨k, t, n, none, 0, []⟩) ?_
    refine fin ⟨k, t, n, none, 0, []⟩ z3 ⟨ht.i64, hn.i64, by simp⟩ (fun g1 g2 => ?_) fun d d1 d2 hd => ?_
    · obtain ⟨e3, e4⟩ := hn.sound g1
      rw [g2, List.append_nil] at e4
      obtain ⟨e5, e6⟩ := ht.sound e3
      have hnz : nameAt kindsL k ≠ [] := fun hh => by
        have : ∀ i : Fin 8, nameAt kindsL ((i.val : Int) + 1) ≠ [] := by decide +kernel
        refine this ⟨(k - 1).toNat, by omega⟩ ?_
        rw [show (((⟨(k - 1).toNat, by omega⟩ : Fin 8).val : Int) + 1) = k by dsimp only; omega]
        exact hh
      dsimp only
      unfold evT
      rw [if_neg h8, if_neg h26, joinB_3, hk2, e6, e4, decide_eq_true hnz]
      simp
    · obtain ⟨g1, g2, g3, g4⟩ := evT_form hd
      obtain ⟨e1, e2⟩ := hk.complete (m := d.1) (by rw [g2]) g1
      obtain ⟨dk, dt, dn, db⟩ := d
      dsimp only at e1 e2 g2 g3 g4 d1 d2
      subst e1
      rw [if_neg h8, if_neg h26, List.append_nil] at e2
      obtain ⟨e3, e4⟩ := ht.complete (m := dt) (r := 32 :: Lib.itoa dn) (by rw [e2]) d1 (.inr ⟨_, rfl⟩)
      obtain ⟨e5, e6⟩ := hn.complete (m := dn) (r := []) (by rw [e4, List.append_nil]) d2 (.inl rfl)
      refine ⟨e6, ?_⟩
      unfold dEv
      rw [e3, e5, g4 h26]
end
end Go.Proofs.YtoneapgooihajaaGreatDoor.Qa
