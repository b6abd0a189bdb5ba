/-
  READING WHAT WENT OUT (layer 31): a line of it.
-/
import Derived.Test.YtoneapgooihajaaGreatDoorQp
set_option maxRecDepth 100000
set_option linter.unusedVariables false
set_option linter.unusedSectionVars false
set_option linter.unusedSimpArgs false
set_option maxHeartbeats 0
namespace Go.Proofs.YtoneapgooihajaaGreatDoor.Qa
open Go Sh Sl
open Go.RowKit
attribute [local irreducible] condK ArK NilK OpK FnK StK joinK loopK DrawK andK PuK NxK EnK vS uS bS callS invokeS
/-- its numbers are numbers -/
def dI (d : dS) : Prop := I64 d.1 ∧ I64 d.2.2.1 ∧ I64 d.2.2.2.1 ∧ I64 d.2.2.2.2.2.2
/-- what a line is read as, and what is left -/
noncomputable def sentR (s : Bs) : dS × Rs :=
  let t := numR ((cutB (Lib.trimSuffix s [10])).2, false)
  let p := placeR goesL t.2
  if p.1 = 1 then let n := numR p.2; let b := wordR n.2; ((t.1, 1, n.1, 0, b.1, [], 0), b.2)
  else if p.1 = 2 then let n := numR p.2; ((t.1, 2, n.1, 0, [], [], 0), n.2)
  else if p.1 = 3 then let n := numR p.2; let b := wordR n.2; let m := numR b.2; ((t.1, 3, 0, n.1, [], b.1, m.1), m.2)
  else if p.1 = 4 then let n := numR p.2; let b := wordR n.2; ((t.1, 4, 0, n.1, b.1, [], 0), b.2)
  else let n := numR p.2; ((t.1, p.1, 0, n.1, [], [], 0), n.2)
/-- is it such a line? -/
noncomputable def sentOk (s : Bs) : Bool := !(sentR s).2.2 && ((sL (sentR s).1).2 && decide ((sL (sentR s).1).1 = s))
theorem gname_ix {k : Int} (h : 1 ≤ k ∧ k ≤ 5) : ixOf goesL (nameAt goesL k) = k := by
  have : ∀ i : Fin 5, ixOf goesL (nameAt goesL ((i.val : Int) + 1)) = (i.val : Int) + 1 := by decide +kernel
  have h2 := this ⟨(k - 1).toNat, by omega⟩
  have e1 : (((k - 1).toNat : Nat) : Int) + 1 = k := by omega
  simp only [e1] at h2
  exact h2
theorem gname_dom {k : Int} (h : nameAt goesL k ≠ []) : 1 ≤ k ∧ k ≤ 5 := by
  unfold nameAt at h
  split at h
  · rename_i h1
    have : goesL.length = 6 := rfl
    omega
  · exact absurd rfl h
theorem gname_nb (k : Int) : nb (nameAt goesL k) := by
  unfold nameAt
  split
  · rename_i h
    have h6 : goesL.length = 6 := rfl
    have : ∀ i : Fin 6, ∀ c ∈ goesL.getD i.val [], c ≠ 32 := by decide
    have h2 := this ⟨k.toNat, by omega⟩
    exact h2
  · intro c hc; cases hc
theorem numR_at {t : Int} (ht : I64 t) (r : Bs) : numR (Lib.itoa t ++ 32 :: r, false) = (t, r, false) := by
  unfold numR
  rw [cutB_at (itoa_nb t)]
  dsimp only
  rw [atoi_itoa ht]; rfl
theorem numR_end {t : Int} (ht : I64 t) : numR (Lib.itoa t, false) = (t, [], false) := by
  unfold numR
  rw [cutB_all (itoa_nb t)]
  dsimp only
  rw [atoi_itoa ht]; rfl
theorem wordR_end (b : Bs) : wordR (q b, false) = (b, [], false) := by
  unfold wordR
  rw [uq_some.2 (List.append_nil (q b)).symm]
  rfl
theorem wordR_at (b r : Bs) : wordR (q b ++ 32 :: r, false) = (b, r, false) := by
  unfold wordR
  rw [uq_some.2 rfl]
  dsimp only
  have : Lib.trimPrefix (32 :: r) [32] = r := by
    unfold Lib.trimPrefix
    rw [if_pos (by simp [Lib.hasPrefix])]
    rfl
  rw [this]
theorem placeG_at {k : Int} (hk : 1 ≤ k ∧ k ≤ 5) (r : Bs) : placeR goesL (nameAt goesL k ++ 32 :: r, false) = (k, r, false) := by
  unfold placeR
  rw [cutB_at (gname_nb k)]
  dsimp only
  rw [gname_ix hk, decide_eq_false (by omega)]; rfl
/-- a line that may be written is read as what it is of -/
theorem sent_back {d : dS} (hd : dI d) (h : (sL d).2 = true) : sentR (sL d).1 = (d, [], false) := by
  obtain ⟨t, k, sl, c, b, ho, p⟩ := d
  obtain ⟨h1, h2, h3, h4⟩ := hd
  dsimp only at h1 h2 h3 h4
  unfold sL ouT at h ⊢
  dsimp only at h ⊢
  simp only [Bool.and_eq_true, decide_eq_true_eq] at h
  obtain ⟨hn, hb⟩ := h
  have hk := gname_dom hn
  unfold bareD at hb
  dsimp only at hb
  unfold sentR
  rw [trimS_nl]
  have hc : ∀ r : Bs, cutB ([62] ++ 32 :: r) = ([62], r) := fun r => cutB_at (fun c hc => by rw [List.mem_singleton.1 hc]; decide)
  by_cases k1 : k = 1
  · subst k1
    rw [if_pos rfl] at hb ⊢
    simp only [Prod.mk.injEq, true_and, and_true] at hb
    obtain ⟨rfl, rfl, rfl⟩ := hb
    rw [joinB_5, hc]
    dsimp only
    rw [numR_at h1]
    dsimp only
    rw [placeG_at (by omega)]
    dsimp only
    rw [if_pos rfl, numR_at h2]
    dsimp only
    rw [wordR_end]
  rw [if_neg k1] at hb ⊢
  by_cases k2 : k = 2
  · subst k2
    rw [if_pos rfl] at hb ⊢
    simp only [Prod.mk.injEq, true_and, and_true] at hb
    obtain ⟨rfl, rfl, rfl, rfl⟩ := hb
    rw [joinB_4, hc]
    dsimp only
    rw [numR_at h1]
    dsimp only
    rw [placeG_at (by omega)]
    dsimp only
    rw [if_neg (by decide), if_pos rfl, numR_end h2]
  rw [if_neg k2] at hb ⊢
  by_cases k3 : k = 3
  · subst k3
    rw [if_pos rfl] at hb ⊢
    simp only [Prod.mk.injEq, true_and, and_true] at hb
    obtain ⟨rfl, rfl⟩ := hb
    rw [joinB_6, hc]
    dsimp only
    rw [numR_at h1]
    dsimp only
    rw [placeG_at (by omega)]
    dsimp only
    rw [if_neg (by decide), if_neg (by decide), if_pos rfl, numR_at h3]
    dsimp only
    rw [wordR_at]
    dsimp only
    rw [numR_end h4]
  rw [if_neg k3] at hb ⊢
  by_cases k4 : k = 4
  · subst k4
    rw [if_pos rfl] at hb ⊢
    simp only [Prod.mk.injEq, true_and, and_true] at hb
    obtain ⟨rfl, rfl, rfl⟩ := hb
    rw [joinB_5, hc]
    dsimp only
    rw [numR_at h1]
    dsimp only
    rw [placeG_at (by omega)]
    dsimp only
    rw [if_neg (by decide), if_neg (by decide), if_neg (by decide), if_pos rfl, numR_at h3]
    dsimp only
    rw [wordR_end]
  rw [if_neg k4] at hb ⊢
  simp only [Prod.mk.injEq, true_and, and_true] at hb
  obtain ⟨rfl, rfl, rfl, rfl⟩ := hb
  rw [joinB_4, hc]
  dsimp only
  rw [numR_at h1]
  dsimp only
  rw [placeG_at hk]
  dsimp only
  rw [if_neg k1, if_neg k2, if_neg k3, if_neg k4, numR_end h3]
theorem sentR_dI (s : Bs) : dI (sentR s).1 := by
  have h0 : I64 0 := ⟨by omega, by omega⟩
  have hn : ∀ z, I64 (numR z).1 := fun z => atoi_bounds _
  unfold dI sentR
  dsimp only
  split
  · exact ⟨hn _, hn _, h0, h0⟩
  · split
    · exact ⟨hn _, hn _, h0, h0⟩
    · split
      · exact ⟨hn _, h0, hn _, hn _⟩
      · split
        · exact ⟨hn _, h0, hn _, h0⟩
        · exact ⟨hn _, h0, hn _, h0⟩
theorem sent_ok {s : Bs} (h : sentOk s = true) : sL (sentR s).1 = (s, true) := by
  unfold sentOk at h
  simp only [Bool.and_eq_true, decide_eq_true_eq] at h
  exact Prod.ext h.2.2 h.2.1
theorem sent_of {d : dS} {s : Bs} (hd : dI d) (h : sL d = (s, true)) : sentOk s = true ∧ (sentR s).1 = d := by
  have h2 := sent_back hd (by rw [h])
  rw [h] at h2
  dsimp only at h2
  unfold sentOk
  rw [h2, h]
  simp
section
variable {e : Env} {ctx rest R : List HProp} {M : Hp}
theorem sent_spec {K : Value → Bool → WP} {s : Bs} (hs : s.length ≤ 1048576) (hG : GL e rest)
    (h : ∀ y : Se, dSe y = (sentR s).1 → I64 y.1 → OuR y.2 → Ent e (SlO y.2.a y.2.d.length y.2.cp 1 (u8 y.2.d) :: rest) (K (.agg (sC y).toArray) (sentOk s))) : Ent e rest (shell_sent (ba s) K) := by
  have h00 : I64 0 := ⟨by omega, by omega⟩
  have hn0 : ∀ z, I64 (numR z).1 := fun z => atoi_bounds _
  have hts := trimS_len s [10]
  have hcl := (cutB_len (Lib.trimSuffix s [10])).2
  (refine Ent.fn shell_sent_ok ?_; unfold shell_sent_sh)
  refine Ent.alloc' fun t2 => ?_
  refine trimSuffix_spec (s := s) (p := [10]) (by omega) ?_
  refine Ent.woR ?_
  refine Ent.box' fun rb => ?_
  refine Ent.imp (ctx' := pt rb (rdC (Lib.trimSuffix s [10], false)) :: pt t2 (sC (0, ⟨0, 0, 0, none, 0, [], [], 0⟩)) :: rest) (by exact Imp.refl _) ?_
  refine plain_spec (by dsimp only; omega) ?_
  refine number_spec (by dsimp only; omega) (hG.mono (by (focus (repeat (first | exact Imp.refl _ | exact Imp.nil _ | apply Imp.drop))))) ?_
  obtain ⟨tt, htt⟩ : ∃ tt, tt = numR ((cutB (Lib.trimSuffix s [10])).2, false) := ⟨_, rfl⟩
  have htl : tt.2.1.length ≤ (cutB (Lib.trimSuffix s [10])).2.length := by rw [htt]; exact numR_len _
  rw [← htt]
  refine Ent.opR (st_build (out := sC (tt.1, ⟨0, 0, 0, none, 0, [], [], 0⟩)) rfl rfl rfl).still ?_
  refine Ent.alloc' fun xb => ?_
  refine Ent.wstoA (l' := sC (tt.1, ⟨0, 0, 0, none, 0, [], [], 0⟩)) ?_ (vs := sC (tt.1, ⟨0, 0, 0, none, 0, [], [], 0⟩)) (hl := rfl) (hu := by (repeat (first | exact Upd.hd | apply Upd.tl)))
  refine Ent.woR ?_
  refine Ent.join0 ((exs fun (y : Se) => sepL [pur (dSe y = (sentR s).1 ∧ I64 y.1 ∧ OuR y.2), pt xb (sC y), pt rb (rdC (sentR s).2), SlO y.2.a y.2.d.length y.2.cp 1 (u8 y.2.d)]) :: pt t2 (sC (0, ⟨0, 0, 0, none, 0, [], [], 0⟩)) :: rest) ?_ ?_
  rotate_left
  · intro j1 hj1
    refine Ent.bring (A := pt rb (rdC tt.2)) ?_
    refine place_spec (S := goesS) (L := goesL) (by omega) goes_parted (by decide) (hG.mono (by (focus (repeat (first | exact Imp.refl _ | exact Imp.nil _ | apply Imp.drop))))) ?_
    obtain ⟨k, hk⟩ : ∃ k, k = (placeR goesL tt.2).1 := ⟨_, rfl⟩
    obtain ⟨z1, hz1⟩ : ∃ z1, z1 = (placeR goesL tt.2).2 := ⟨_, rfl⟩
    have hz1l : z1.1.length ≤ tt.2.1.length := by rw [hz1]; exact (cutB_len tt.2.1).2
    have hev : sentR s = (if k = 1 then let n := numR z1; let b := wordR n.2; ((tt.1, 1, n.1, 0, b.1, [], 0), b.2)
      else if k = 2 then let n := numR z1; ((tt.1, 2, n.1, 0, [], [], 0), n.2)
      else if k = 3 then let n := numR z1; let b := wordR n.2; let m := numR b.2; ((tt.1, 3, 0, n.1, [], b.1, m.1), m.2)
      else if k = 4 then let n := numR z1; let b := wordR n.2; ((tt.1, 4, 0, n.1, b.1, [], 0), b.2)
      else let n := numR z1; ((tt.1, k, 0, n.1, [], [], 0), n.2)) := by
      rw [hk, hz1, htt]; rfl
    rw [← hk, ← hz1]
    have hn1 := numR_len z1
    have hw1 := wordR_len (numR z1).2
    have fin : ∀ (y : Se) (z : Rs), sentR s = (dSe y, z) → I64 y.1 → OuR y.2 → Ent e (pt xb (sC y) :: pt rb (rdC z) :: SlO y.2.a y.2.d.length y.2.cp 1 (u8 y.2.d) :: pt t2 (sC (0, ⟨0, 0, 0, none, 0, [], [], 0⟩)) :: rest) j1 := fun y z h1 h2 h3 => by
      refine Ent.imp ?_ hj1
      rw [h1]
      exact Imp.exs y (Imp.g4 (Imp.pur ⟨rfl, h2, h3⟩ (Imp.refl _)))
    have finN : ∀ (y : Se) (z : Rs), y.2.a = none → y.2.d = [] → y.2.cp = 0 → sentR s = (dSe y, z) → I64 y.1 → OuR y.2 → Ent e (pt rb (rdC z) :: pt xb (sC y) :: pt t2 (sC (0, ⟨0, 0, 0, none, 0, [], [], 0⟩)) :: rest) j1 := fun y z ha hd hc h1 h2 h3 => by
      have hf := fin y z h1 h2 h3
      rw [ha, hd, hc] at hf
      refine hf.imp (Imp.trans (b := SlO none 0 0 1 [] :: pt rb (rdC z) :: pt xb (sC y) :: pt t2 (sC (0, ⟨0, 0, 0, none, 0, [], [], 0⟩)) :: rest) (Imp.slN (sz := 1) (Imp.refl _)) ?_)
      show Imp _ (_ :: _ :: SlO none 0 0 1 [] :: _)
      (focus ((repeat ((with_reducible apply Imp.pick); (repeat (first | exact Pick.hd | apply Pick.tl)))); (repeat (first | exact Imp.refl _ | exact Imp.nil _ | apply Imp.drop)); done))
    have nums : ∀ (o : Nat) (y : Se) (z : Rs) (Kn : Value → WP), o < 7 → z.1.length ≤ 268435456 → Ent e (pt rb (rdC (numR z).2) :: pt xb ((sC y).set o (.int .i64 (numR z).1)) :: pt t2 (sC (0, ⟨0, 0, 0, none, 0, [], [], 0⟩)) :: rest) (Kn (.tuple #[])) →
        Ent e (pt rb (rdC z) :: pt xb (sC y) :: pt t2 (sC (0, ⟨0, 0, 0, none, 0, [], [], 0⟩)) :: rest) (oR (vS (Instr.buildSlice 137 1 #[(0, .pointer (some ⟨xb, o, none⟩))])) fun t => shell_reader_numbers (ptr rb) t Kn) := fun o y z Kn ho hz hK => by
      refine Ent.slice (out := [.pointer (some ⟨xb, o, none⟩)]) rfl rfl rfl rfl (by decide) (by decide) (by rfl) fun b => ?_
      refine Ent.imp (ctx' := pt b ([o].map fun o => .pointer (some ⟨xb, o, none⟩)) :: pt rb (rdC z) :: pt xb (sC y) :: pt t2 (sC (0, ⟨0, 0, 0, none, 0, [], [], 0⟩)) :: rest) (by show Imp (pt b ([o].map fun o => .pointer (some ⟨xb, o, none⟩)) :: _) _; (focus ((repeat ((with_reducible apply Imp.pick); (repeat (first | exact Pick.hd | apply Pick.tl)))); (repeat (first | exact Imp.refl _ | exact Imp.nil _ | apply Imp.drop)); done))) ?_
      refine numbers_spec (z := z) (os := [o]) hz (hG.mono (by (focus (repeat (first | exact Imp.refl _ | exact Imp.nil _ | apply Imp.drop))))) (by intro x hx; rw [List.mem_singleton.1 hx]; exact ho) (by simp) ?_
      exact hK
    refine Ent.wnW (l' := sC (tt.1, ⟨k, 0, 0, none, 0, [], [], 0⟩)) ?_ (hl := rfl) (hu := by (repeat (first | exact Upd.hd | apply Upd.tl)))
    refine Ent.wnI ?_
    refine Ent.condE (fun k1 => ?_) fun k1 => ?_
    · have k1 : k = 1 := k1
      rw [if_pos k1] at hev
      refine Ent.nil ?_
      refine Ent.woR ?_
      refine nums 2 (tt.1, ⟨k, 0, 0, none, 0, [], [], 0⟩) z1 _ (by omega) (by omega) ?_
      refine word_spec (z := (numR z1).2) (by omega) fun a c => ?_
      refine Ent.wnW (l' := sC (tt.1, ⟨k, (numR z1).1, 0, a, c, (wordR (numR z1).2).1, [], 0⟩)) ?_ (hl := rfl) (hu := .tl (.tl .hd))
      have hf := fin (tt.1, ⟨k, (numR z1).1, 0, a, c, (wordR (numR z1).2).1, [], 0⟩) (wordR (numR z1).2).2 (by rw [hev, k1]; rfl) (by rw [htt]; exact hn0 _) ⟨hn0 _, h00, h00, by dsimp only; omega, by simp⟩
      exact hf.imp (by (focus ((repeat ((with_reducible apply Imp.pick); (repeat (first | exact Pick.hd | apply Pick.tl)))); (repeat (first | exact Imp.refl _ | exact Imp.nil _ | apply Imp.drop)); done)))
    rw [if_neg k1] at hev
    refine Ent.condE (fun k2 => ?_) fun k2 => ?_
    · have k2 : k = 2 := k2
      rw [if_pos k2] at hev
      refine Ent.nil ?_
      refine Ent.woR ?_
      refine nums 2 (tt.1, ⟨k, 0, 0, none, 0, [], [], 0⟩) z1 _ (by omega) (by omega) ?_
      exact finN (tt.1, ⟨k, (numR z1).1, 0, none, 0, [], [], 0⟩) (numR z1).2 rfl rfl rfl (by rw [hev, k2]; rfl) (by rw [htt]; exact hn0 _) ⟨hn0 _, h00, h00, by simp, by simp⟩
    rw [if_neg k2] at hev
    refine Ent.condE (fun k3 => ?_) fun k3 => ?_
    · have k3 : k = 3 := k3
      rw [if_pos k3] at hev
      refine Ent.nil ?_
      refine Ent.woR ?_
      refine nums 3 (tt.1, ⟨k, 0, 0, none, 0, [], [], 0⟩) z1 _ (by omega) (by omega) ?_
      refine word_spec (z := (numR z1).2) (by omega) fun a c => ?_
      refine Ent.bring (A := SlO a (wordR (numR z1).2).1.length c 1 (u8 (wordR (numR z1).2).1)) ?_
      refine Ent.rdS fun r1 _ => ?_
      refine obytes (r1 _ .hd) ?_
      refine Ent.drop ?_
      refine Ent.wnW (l' := sC (tt.1, ⟨k, 0, (numR z1).1, none, 0, [], (wordR (numR z1).2).1, 0⟩)) ?_ (hl := rfl) (hu := .tl .hd)
      refine Ent.nil ?_
      refine Ent.woR ?_
      refine nums 6 (tt.1, ⟨k, 0, (numR z1).1, none, 0, [], (wordR (numR z1).2).1, 0⟩) (wordR (numR z1).2).2 _ (by omega) (by omega) ?_
      exact finN (tt.1, ⟨k, 0, (numR z1).1, none, 0, [], (wordR (numR z1).2).1, (numR (wordR (numR z1).2).2).1⟩) (numR (wordR (numR z1).2).2).2 rfl rfl rfl (by rw [hev, k3]; rfl) (by rw [htt]; exact hn0 _) ⟨h00, hn0 _, hn0 _, by simp, by dsimp only; omega⟩
    rw [if_neg k3] at hev
    refine Ent.condE (fun k4 => ?_) fun k4 => ?_
    · have k4 : k = 4 := k4
      rw [if_pos k4] at hev
      refine Ent.nil ?_
      refine Ent.woR ?_
      refine nums 3 (tt.1, ⟨k, 0, 0, none, 0, [], [], 0⟩) z1 _ (by omega) (by omega) ?_
      refine word_spec (z := (numR z1).2) (by omega) fun a c => ?_
      refine Ent.wnW (l' := sC (tt.1, ⟨k, 0, (numR z1).1, a, c, (wordR (numR z1).2).1, [], 0⟩)) ?_ (hl := rfl) (hu := .tl (.tl .hd))
      have hf := fin (tt.1, ⟨k, 0, (numR z1).1, a, c, (wordR (numR z1).2).1, [], 0⟩) (wordR (numR z1).2).2 (by rw [hev, k4]; rfl) (by rw [htt]; exact hn0 _) ⟨h00, hn0 _, h00, by dsimp only; omega, by simp⟩
      exact hf.imp (by (focus ((repeat ((with_reducible apply Imp.pick); (repeat (first | exact Pick.hd | apply Pick.tl)))); (repeat (first | exact Imp.refl _ | exact Imp.nil _ | apply Imp.drop)); done)))
    rw [if_neg k4] at hev
    refine Ent.nil ?_
    refine Ent.woR ?_
    refine nums 3 (tt.1, ⟨k, 0, 0, none, 0, [], [], 0⟩) z1 _ (by omega) (by omega) ?_
    exact finN (tt.1, ⟨k, 0, (numR z1).1, none, 0, [], [], 0⟩) (numR z1).2 rfl rfl rfl (by rw [hev]; rfl) (by rw [htt]; exact hn0 _) ⟨h00, hn0 _, h00, by simp, by simp⟩
  refine Ent.exs fun y => Ent.g4 (Ent.pur fun ⟨hy1, hy2, hy3⟩ => ?_)
  have hres : sentOk s = (!(sentR s).2.2 && ((sL (dSe y)).2 && decide ((sL (dSe y)).1 = s))) := by
    unfold sentOk
    rw [← hy1]
  refine Ent.wlA (cs := sC y) ?_
  refine Ent.imp (ctx' := SlO y.2.a y.2.d.length y.2.cp 1 (u8 y.2.d) :: pt xb (sC y) :: pt rb (rdC (sentR s).2) :: pt t2 (sC (0, ⟨0, 0, 0, none, 0, [], [], 0⟩)) :: rest) (by (focus ((repeat ((with_reducible apply Imp.pick); (repeat (first | exact Pick.hd | apply Pick.tl)))); (repeat (first | exact Imp.refl _ | exact Imp.nil _ | apply Imp.drop)); done))) ?_
  refine Ent.rdS fun r1 _ => ?_
  refine outtext_spec (t := y.1) (x := y.2) hy3 hy2 (r1 _ .hd) (hG.mono (by (focus (repeat (first | exact Imp.refl _ | exact Imp.nil _ | apply Imp.drop))))) ?_
  refine Ent.draw [pt xb (sC y), pt rb (rdC (sentR s).2)] (by (focus ((repeat ((with_reducible apply Imp.pick); (repeat (first | exact Pick.hd | apply Pick.tl)))); (repeat (first | exact Imp.refl _ | exact Imp.nil _ | apply Imp.drop)); done))) ?_
  refine Ent.stR (v := .agg (sC y).toArray) (st_loadA (n := 7) (cs := sC y) .hd rfl rfl rfl) ?_
  refine Ent.whB ?_
  have fin : ∀ v, v = sentOk s → Ent e (SlO y.2.a y.2.d.length y.2.cp 1 (u8 y.2.d) :: pt xb (sC y) :: pt rb (rdC (sentR s).2) :: pt t2 (sC y) :: rest) (K (.agg (sC y).toArray) v) := fun v hv => by
    refine Ent.imp ?_ (h y hy1 hy2 hy3 |> fun hh => by rw [← hv] at hh; exact hh)
    (focus ((repeat ((with_reducible apply Imp.pick); (repeat (first | exact Pick.hd | apply Pick.tl)))); (repeat (first | exact Imp.refl _ | exact Imp.nil _ | apply Imp.drop)); done))
  have hsl : ouT y.1 (dOu y.2) = sL (dSe y) := rfl
  rw [hsl]
  refine Ent.cond (fun hb => ?_) fun hb => ?_
  · have hb' : (sentR s).2.2 = false := by simpa using hb
    refine Ent.cond (fun ho => ?_) fun ho => ?_
    · refine Ent.puB st_eqS ?_
      refine Ent.wstoA (l' := sC y) ?_ (vs := sC y) (hl := rfl) (hu := by (repeat (first | exact Upd.hd | apply Upd.tl)))
      refine Ent.wand ?_
      refine Ent.wrA ?_
      refine fin _ ?_
      rw [hres, hb', ho, ba_eqb]; rfl
    · refine Ent.wstoA (l' := sC y) ?_ (vs := sC y) (hl := rfl) (hu := by (repeat (first | exact Upd.hd | apply Upd.tl)))
      refine Ent.wand ?_
      refine Ent.wrA ?_
      refine fin _ ?_
      rw [hres, ho]; simp
  · have hb' : (sentR s).2.2 = true := by simpa using hb
    refine Ent.wstoA (l' := sC y) ?_ (vs := sC y) (hl := rfl) (hu := by (repeat (first | exact Upd.hd | apply Upd.tl)))
    refine Ent.wand ?_
    refine Ent.wrA ?_
    refine fin _ ?_
    rw [hres, hb']; rfl
end
end Go.Proofs.YtoneapgooihajaaGreatDoor.Qa
