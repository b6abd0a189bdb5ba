/-
  WORDS (layer 31): the document's Unquote.
-/
import Derived.Test.YtoneapgooihajaaGreatDoorQe
set_option maxRecDepth 100000
set_option linter.unusedVariables false
set_option linter.unusedSectionVars false
set_option linter.unusedSimpArgs false
set_option maxHeartbeats 0
namespace Go.Proofs.YtoneapgooihajaaGreatDoor.Qa
open Go Sh Sl
open Go.RowKit
attribute [local irreducible] condK ArK NilK OpK FnK StK joinK loopK DrawK andK PuK NxK EnK vS uS bS callS invokeS
section
variable {e : Env} {ctx rest R : List HProp}
theorem digit_spec {K : Int → WP} {c : UInt8} (h : Ent e rest (K (Lib.indexByte dg c))) : Ent e rest (ref31_digit (c.toNat : Int) K) := by
  (refine Ent.fn ref31_digit_ok ?_; unfold ref31_digit_sh)
  have hcl := c.toNat_lt
  rw [← digit_ix] at h
  refine Ent.join ?_
  refine Ent.condD (fun h1 => ?_) fun h1 => ?_
  · refine Ent.condD (fun h2 => ?_) fun h2 => ?_
    · rw [if_pos (by omega)] at h
      refine Ent.ar (in_u8 (by omega) (by omega)) ?_
      (refine Ent.go ?_)
      exact h
    · rw [if_neg (by omega)] at h
      refine Ent.condD (fun h3 => ?_) fun h3 => ?_
      · refine Ent.condD (fun h4 => ?_) fun h4 => ?_
        · rw [if_pos (by omega)] at h
          refine Ent.ar (in_u8 (by omega) (by omega)) ?_
          (refine Ent.go ?_)
          exact h
        · rw [if_neg (by omega)] at h
          exact h
      · rw [if_neg (by omega)] at h
        exact h
  · rw [if_neg (by omega), if_neg (by omega)] at h
    refine Ent.wF ?_
    refine Ent.wF ?_
    exact h
theorem ref_unquote_spec {K : Value → ByteArray → Bool → WP} {s : Bs} (hs : s.length ≤ 268435456) (h1 : ∀ b r a c, s = q b ++ r → Ent e (SlO a b.length c 1 (u8 b) :: rest) (K (.slice a b.length c) (ba r) true))
    (h0 : (∀ b r, s ≠ q b ++ r) → Ent e rest (K (.slice none 0 0) (ba []) false)) : Ent e rest (ref31_Unquote (ba s) K) := by
  (refine Ent.fn ref31_Unquote_ok ?_; unfold ref31_Unquote_sh)
  have hsz : ((ba s).size : Int) = (s.length : Int) := by simp [ByteArray.size]
  refine Ent.join1 (kd := .bool) (fun t => pur (t = decide (s[0]? ≠ some 34)) :: rest) ?_ ?_
  rotate_left
  · intro j1 hj1
    refine Ent.wlenS ?_
    rw [hsz]
    refine Ent.condE (fun h => ?_) fun h => ?_
    · refine (hj1 _).imp (Imp.pur ?_ (Imp.refl _))
      have : s = [] := List.eq_nil_of_length_eq_zero (by omega)
      subst this; rfl
    · obtain ⟨x, hx⟩ : ∃ x, s[0]? = some x := ⟨_, List.getElem?_eq_getElem (by omega)⟩
      refine oIx (c := x) (by omega) hx ?_
      refine (hj1 _).imp (Imp.pur ?_ (Imp.refl _))
      rw [hx]
      by_cases hxx : x = 34
      · subst hxx; rfl
      · rw [decide_eq_true (show (some x : Option UInt8) ≠ some 34 from fun hh => hxx (Option.some.inj hh))]
        exact bne_iff_ne.2 fun hh => hxx (UInt8.toNat_inj.1 (by show x.toNat = 34; omega))
  intro t
  refine Ent.pur fun ht => ?_
  subst ht
  refine Ent.condD (fun hc => ?_) fun hc => ?_
  · refine h0 fun b r hh => ?_
    rw [hh] at hc
    exact hc (by simp [q])
  have hc' : s[0]? = some 34 := Classical.not_not.1 hc
  have hlen : 1 ≤ s.length := (List.getElem?_eq_some_iff.1 hc').1
  refine Ent.slN (sz := 1) ?_
  refine Ent.loop2 (k0 := .raw) (k1 := .int .i64) (fun N (v : Value) (at_ : Int) => (exs fun (q : Bs × Option Addr × Nat × Nat) => sepL [pur (v = .slice q.2.1 q.1.length q.2.2.1 ∧ at_ = (q.2.2.2 : Int) ∧ 1 ≤ q.2.2.2 ∧ q.2.2.2 ≤ s.length ∧ N = s.length - q.2.2.2 ∧ q.1.length ≤ q.2.2.2 ∧ Inv s q.1 q.2.2.2), SlO q.2.1 q.1.length q.2.2.1 1 (u8 q.1)]) :: rest) (s.length - 1) ?_ ?_
  · exact Imp.exs ([], none, 0, 1) (Imp.g2 (Imp.pur ⟨rfl, rfl, Nat.le_refl _, hlen, rfl, Nat.zero_le _, inv_0 s⟩ (Imp.refl _)))
  intro N K' hK v at_
  refine Ent.exs fun ⟨out, a2, c2, p⟩ => Ent.g2 (Ent.pur fun ⟨hv, hat, hp1, hp2, hN, hol, hinv⟩ => ?_)
  dsimp only at hv hat hp1 hp2 hN hol hinv
  dsimp only
  subst hv hat
  have next : ∀ (y : Bs) (p' : Nat) a3 c3, p < p' → p' ≤ s.length → y.length ≤ p' - p → Inv s (out ++ y) p' → Ent e (SlO a3 (out.length + y.length) c3 1 (u8 (out ++ y)) :: rest) (K' (.slice a3 (out.length + y.length) c3) (p' : Int)) := fun y p' a3 c3 g1 g2 g3 g4 => by
    refine Ent.imp ?_ (hK (s.length - p') (by omega) _ _)
    refine Imp.exs (out ++ y, a3, c3, p') (Imp.g2 (Imp.pur ⟨by simp, rfl, by dsimp only; omega, g2, rfl, by simp; omega, g4⟩ ?_))
    rw [List.length_append]
    exact Imp.refl _
  refine Ent.join1 (kd := .bool) (fun t => pur (t = decide (p < s.length ∧ s[p]? ≠ some 34)) :: SlO a2 out.length c2 1 (u8 out) :: rest) ?_ ?_
  rotate_left
  · intro j4 hj4
    refine Ent.wlenS ?_
    rw [hsz]
    by_cases hl : p < s.length
    · obtain ⟨x, hx⟩ : ∃ x, s[p]? = some x := ⟨_, List.getElem?_eq_getElem hl⟩
      refine Ent.wT ?_
      refine oIx (c := x) (by omega) (by rw [Int.toNat_natCast]; exact hx) ?_
      refine (hj4 _).imp (Imp.pur ?_ (Imp.refl _))
      rw [hx]
      by_cases hxx : x = 34
      · subst hxx
        rw [decide_eq_false (fun hh => hh.2 rfl)]; rfl
      · rw [decide_eq_true ⟨hl, fun hh => hxx (Option.some.inj hh)⟩]
        exact bne_iff_ne.2 fun hh => hxx (UInt8.toNat_inj.1 (by show x.toNat = 34; omega))
    · refine Ent.wF ?_
      refine (hj4 _).imp (Imp.pur ?_ (Imp.refl _))
      rw [decide_eq_false (fun hh => hl hh.1)]
  intro t
  refine Ent.pur fun ht => ?_
  subst ht
  refine Ent.condD (fun hc => ?_) fun hc => ?_
  rotate_left
  · -- the end
    refine Ent.draw [] (Imp.nil _) ?_
    refine Ent.wsI ?_
    rw [hsz]
    by_cases hl : p < s.length
    rotate_left
    · refine Ent.wT ?_ (decide_eq_true (by omega))
      exact (h0 (inv_end hinv (by omega))).drop
    have hx : s[p]? = some 34 := Classical.byContradiction fun hh => hc ⟨hl, hh⟩
    refine Ent.wF ?_ (decide_eq_false (by omega))
    refine Ent.war ?_
    refine Ent.puS (st_slSH rfl (by omega) (by omega)) ?_
    rw [show ((p : Int) + 1).toNat = p + 1 by omega]
    refine Ent.rdS fun r1 _ => ?_
    refine ref_quote_spec (b := out) (by omega) (r1 _ .hd) ?_
    refine Ent.wand ?_
    refine Ent.puB (st_neS) ?_
    refine Ent.cond (fun hc => ?_) fun hc => ?_
    · refine (h0 fun b r hh => ?_).drop
      have := (inv_stop hinv hx hh).2.2
      rw [this] at hc
      simp at hc
    · have heq : q out = s.take (p + 1) := by simpa using hc
      refine Ent.draw [] (Imp.nil _) ?_
      refine Ent.war ?_
      refine Ent.puS (st_slSL rfl (by omega) (by omega)) ?_
      rw [show ((p : Int) + 1).toNat = p + 1 by omega]
      exact h1 out (s.drop (p + 1)) a2 c2 (by rw [heq, List.take_append_drop])
  obtain ⟨hl, hx34'⟩ := hc
  obtain ⟨x, hx⟩ : ∃ x, s[p]? = some x := ⟨_, List.getElem?_eq_getElem hl⟩
  have hx34 : x ≠ 34 := fun hh => hx34' (by rw [hx, hh])
  have rx : ∀ {k : Int → WP} {G : List HProp}, Ent e G (k x.toNat) → Ent e G (oI .u8 (vS (Instr.index 9 (.string (ba s)) (.int .i64 (p : Int)))) k) := fun h => oIx (by omega) (by rw [Int.toNat_natCast]; exact hx) h
  have h92 : ((x.toNat : Int) = 92) ↔ x = 92 := ⟨fun hh => UInt8.toNat_inj.1 (by show x.toNat = 92; omega), fun hh => by rw [hh]; rfl⟩
  refine rx ?_
  refine Ent.condN (fun hc => ?_) fun hc => ?_
  · refine rx ?_
    refine app_lit (x := [x]) rfl (fun a3 c3 => ?_) rfl (by simp) (by simp; omega)
    refine Ent.war ?_
    exact next _ (p + 1) a3 c3 (by omega) (by omega) (by simp) (inv_plain hinv hx hx34 (.inl fun hh => hc (h92.2 hh)))
  have hx92 := h92.1 hc
  subst hx92
  refine Ent.war ?_
  refine Ent.wlenS ?_
  rw [hsz]
  refine Ent.condD (fun hc1 => ?_) fun hc1 => ?_
  · refine (h0 fun b r hh => ?_).drop
    have := inv_plain hinv hx hx34 (.inr (by omega))
    exact inv_end this (by omega) b r hh
  obtain ⟨y, hy⟩ : ∃ y, s[p + 1]? = some y := ⟨_, List.getElem?_eq_getElem (by omega)⟩
  have ry : ∀ {k : Int → WP} {G : List HProp}, Ent e G (k y.toNat) → Ent e G (oI .u8 (vS (Instr.index 9 (.string (ba s)) (.int .i64 ((p : Int) + 1)))) k) := fun h => oIx (by omega) (by rw [show ((p : Int) + 1).toNat = p + 1 by omega]; exact hy) h
  refine Ent.war ?_
  refine ry ?_
  refine Ent.condN (fun hc2 => ?_) fun hc2 => ?_
  · refine Ent.war ?_
    refine ry ?_
    refine app_lit (x := [y]) rfl (fun a3 c3 => ?_) rfl (by simp) (by simp; omega)
    refine Ent.war ?_
    rw [show ((p : Int) + 2) = ((p + 2 : Nat) : Int) by omega]
    exact next _ (p + 2) a3 c3 (by omega) (by omega) (by simp) (inv_esc hinv hx hy fun hh => hc2 (by rw [hh.1]; rfl))
  obtain rfl : y = 120 := UInt8.toNat_inj.1 (by show y.toNat = 120; omega)
  have bad : ¬ (p + 3 < s.length ∧ ∃ z1 z2, s[p + 2]? = some z1 ∧ s[p + 3]? = some z2 ∧ 0 ≤ Lib.indexByte dg z1 ∧ 0 ≤ Lib.indexByte dg z2) → ∀ b r, s ≠ q b ++ r := fun hn b r hh => by
    obtain ⟨g0, c, b'', _, g2, g3, _⟩ := inv_x hinv hx hy hh
    have hcl := c.toNat_lt
    exact hn ⟨g0, _, _, g2, g3, by rw [ix_hexd _ (by omega)]; omega, by rw [ix_hexd _ (by omega)]; omega⟩
  refine Ent.join1 (kd := .bool) (fun t => pur (t = true ↔ ¬ (p + 3 < s.length ∧ ∃ z1 z2, s[p + 2]? = some z1 ∧ s[p + 3]? = some z2 ∧ 0 ≤ Lib.indexByte dg z1 ∧ 0 ≤ Lib.indexByte dg z2)) :: SlO a2 out.length c2 1 (u8 out) :: rest) ?_ ?_
  rotate_left
  · intro j5 hj5
    refine Ent.war ?_
    refine Ent.wlenS ?_
    rw [hsz]
    refine Ent.condD (fun hc3 => ?_) fun hc3 => ?_
    · refine (hj5 _).imp (Imp.pur ⟨fun _ hh => by omega, fun _ => rfl⟩ (Imp.refl _))
    obtain ⟨z1, hz1⟩ : ∃ y, s[p + 2]? = some y := ⟨_, List.getElem?_eq_getElem (by omega)⟩
    obtain ⟨z2, hz2⟩ : ∃ y, s[p + 3]? = some y := ⟨_, List.getElem?_eq_getElem (by omega)⟩
    refine Ent.war ?_
    refine oIx (c := z1) (by omega) (by rw [show ((p : Int) + 2).toNat = p + 2 by omega]; exact hz1) ?_
    refine digit_spec ?_
    refine Ent.condD (fun hc4 => ?_) fun hc4 => ?_
    · refine (hj5 _).imp (Imp.pur ⟨fun _ ⟨_, w1, w2, g1, _, g3, _⟩ => ?_, fun _ => rfl⟩ (Imp.refl _))
      rw [hz1] at g1
      cases g1
      omega
    · refine Ent.war ?_
      refine oIx (c := z2) (by omega) (by rw [show ((p : Int) + 3).toNat = p + 3 by omega]; exact hz2) ?_
      refine digit_spec ?_
      refine (hj5 _).imp (Imp.pur ⟨fun hh ⟨_, w1, w2, _, g2, _, g4⟩ => ?_, fun hh => ?_⟩ (Imp.refl _))
      · rw [hz2] at g2
        cases g2
        have := of_decide_eq_true hh
        omega
      · exact decide_eq_true (by
          rcases Int.lt_or_le (Lib.indexByte dg z2) 0 with h5 | h5
          · exact h5
          · exact absurd ⟨by omega, z1, z2, hz1, hz2, by omega, h5⟩ hh)
  intro t
  refine Ent.pur fun ht => ?_
  refine Ent.cond (fun hc3 => (h0 (bad (ht.1 hc3))).drop) fun hc3 => ?_
  have hok := Classical.not_not.1 fun hh => by rw [ht.2 hh] at hc3; cases hc3
  obtain ⟨hl3, z1, z2, hz1, hz2, k1, k2⟩ := hok
  obtain ⟨d1, j1, e1⟩ := ix_some k1
  obtain ⟨d2, j2, e2⟩ := ix_some k2
  clear k1 k2
  subst e1 e2
  refine Ent.draw [] (Imp.nil _) ?_
  refine Ent.war ?_
  refine qIx (c := hexd d1) (by omega) (by rw [show ((p : Int) + 2).toNat = p + 2 by omega]; exact hz1) ?_
  refine Ent.war ?_
  refine qIx (c := hexd d2) (by omega) (by rw [show ((p : Int) + 3).toNat = p + 3 by omega]; exact hz2) ?_
  refine digit_spec ?_
  refine Ent.wand ?_
  rw [ix_hexd d1 j1]
  refine Ent.war ?_
  refine digit_spec ?_
  refine Ent.wand ?_
  rw [ix_hexd d2 j2]
  refine Ent.war ?_
  have e3 : (16 * (d1 : Int) + d2) = ((UInt8.ofNat (16 * d1 + d2)).toNat : Int) := by rw [UInt8.toNat_ofNat']; omega
  rw [e3]
  have hcl := (UInt8.ofNat (16 * d1 + d2)).toNat_lt
  refine Ent.rI (st_conv rfl rfl (in_u8 (by omega) (by omega))).still ?_
  refine app_lit (x := [UInt8.ofNat (16 * d1 + d2)]) rfl (fun a3 c3 => ?_) rfl (by simp) (by simp; omega)
  refine Ent.wand ?_
  refine Ent.war ?_
  rw [show ((p : Int) + 4) = ((p + 4 : Nat) : Int) by omega]
  exact next _ (p + 4) a3 c3 (by omega) (by omega) (by simp) (inv_hex hinv hx hy hz1 hz2 j1 j2)
end
end Go.Proofs.YtoneapgooihajaaGreatDoor.Qa
