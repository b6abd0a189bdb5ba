/-
  WORDS (layer 31): Unquote, of the program and of the document.
-/
import Derived.Test.YtoneapgooihajaaGreatDoorQd
set_option maxRecDepth 100000
set_option linter.unusedVariables false
set_option linter.unusedSectionVars false
set_option linter.unusedSimpArgs false
set_option maxHeartbeats 0
namespace Go.Proofs.YtoneapgooihajaaGreatDoor.Qa
open Go Sh Sl
open Go.RowKit
attribute [local irreducible] condK ArK NilK OpK FnK StK joinK loopK DrawK andK PuK NxK EnK vS uS bS callS invokeS
/-- where a reading stands: whatever word the text begins with begins with what was read -/
def Inv (s out : Bs) (p : Nat) : Prop := ∀ b r, s = q b ++ r → ∃ b', b = out ++ b' ∧ s.drop p = encs b' ++ 34 :: r
theorem drop_at {s : Bs} {p : Nat} {x : UInt8} (h : s[p]? = some x) : s.drop p = x :: s.drop (p + 1) := by
  have hl := (List.getElem?_eq_some_iff.1 h).1
  rw [List.drop_eq_getElem_cons hl, (List.getElem?_eq_some_iff.1 h).2]
theorem inv_0 (s : Bs) : Inv s [] 1 := fun b r h => ⟨b, rfl, by rw [h]; simp [q]⟩
theorem inv_end {s out : Bs} {p : Nat} (h : Inv s out p) (hp : s.length ≤ p) (b r : Bs) : s ≠ q b ++ r := fun hs => by
  obtain ⟨b', _, h2⟩ := h b r hs
  rw [List.drop_eq_nil_of_le hp] at h2
  simp at h2
theorem inv_stop {s out : Bs} {p : Nat} (h : Inv s out p) (hx : s[p]? = some 34) {b r : Bs} (hs : s = q b ++ r) : b = out ∧ r = s.drop (p + 1) ∧ q out = s.take (p + 1) := by
  obtain ⟨b', h1, h2⟩ := h b r hs
  rw [drop_at hx] at h2
  have hb := encs_stop (b := b') (r := r) h2.symm rfl
  subst hb
  have h3 : r = s.drop (p + 1) := by simpa [encs] using h2.symm
  have h4 : b = out := by simpa using h1
  refine ⟨h4, h3, ?_⟩
  have h5 : s = q out ++ s.drop (p + 1) := by rw [← h4, ← h3]; exact hs
  have h6 := congrArg List.length h5
  have hl := (List.getElem?_eq_some_iff.1 hx).1
  rw [List.length_append, List.length_drop] at h6
  conv => rhs; rw [h5]
  rw [List.take_left' (by omega)]
theorem inv_plain {s out : Bs} {p : Nat} {x : UInt8} (h : Inv s out p) (hx : s[p]? = some x) (h34 : x ≠ 34) (h92 : x ≠ 92 ∨ s.length ≤ p + 1) : Inv s (out ++ [x]) (p + 1) := fun b r hs => by
  obtain ⟨b', h1, h2⟩ := h b r hs
  rw [drop_at hx] at h2
  cases b' with
  | nil => exact absurd (List.cons.inj h2).1 h34
  | cons c b'' =>
    rw [encs_cons, List.append_assoc] at h2
    by_cases hc : x = 92
    · subst hc
      have h3 : s.length ≤ p + 1 := h92.resolve_left (fun hh => hh rfl)
      rw [List.drop_eq_nil_of_le h3] at h2
      rcases enc_esc h2.symm with ⟨_, h4⟩ | ⟨h4, _⟩ <;> simp at h4
    · obtain ⟨h3, h4, _⟩ := enc_head h2.symm hc
      subst h3
      exact ⟨b'', by rw [h1]; simp, h4.symm⟩
theorem inv_esc {s out : Bs} {p : Nat} {y : UInt8} (h : Inv s out p) (hx : s[p]? = some 92) (hy : s[p + 1]? = some y) (hn : ¬ (y = 120 ∧ p + 3 < s.length)) : Inv s (out ++ [y]) (p + 2) := fun b r hs => by
  obtain ⟨b', h1, h2⟩ := h b r hs
  rw [drop_at hx] at h2
  cases b' with
  | nil => exact absurd (List.cons.inj h2).1 (by decide)
  | cons c b'' =>
    rw [encs_cons, List.append_assoc] at h2
    rw [drop_at hy] at h2
    rcases enc_esc h2.symm with ⟨_, h4⟩ | ⟨h4, _⟩
    · exfalso
      obtain ⟨h5, h6⟩ := List.cons.inj h4
      refine hn ⟨h5, ?_⟩
      have h7 := congrArg List.length h6
      rw [List.length_drop] at h7
      simp at h7
      omega
    · obtain ⟨h5, h6⟩ := List.cons.inj h4
      subst h5
      exact ⟨b'', by rw [h1]; simp, h6⟩
theorem inv_x {s out : Bs} {p : Nat} (h : Inv s out p) (hx : s[p]? = some 92) (hy : s[p + 1]? = some 120) {b r : Bs} (hs : s = q b ++ r) : p + 3 < s.length ∧ ∃ c b'', b = out ++ c :: b'' ∧ s[p + 2]? = some (hexd (c.toNat / 16)) ∧ s[p + 3]? = some (hexd (c.toNat % 16)) ∧ s.drop (p + 4) = encs b'' ++ 34 :: r := by
  obtain ⟨b', h1, h2⟩ := h b r hs
  rw [drop_at hx] at h2
  cases b' with
  | nil => exact absurd (List.cons.inj h2).1 (by decide)
  | cons c b'' =>
    rw [encs_cons, List.append_assoc, drop_at hy] at h2
    rcases enc_esc h2.symm with ⟨_, h4⟩ | ⟨h4, hc⟩
    · have h6 := (List.cons.inj h4).2
      have e2 : s[p + 2]? = some (hexd (c.toNat / 16)) := by
        have := congrArg (fun l => l[0]?) h6
        simpa [List.getElem?_drop] using this
      have e3 : s[p + 3]? = some (hexd (c.toNat % 16)) := by
        have := congrArg (fun l => l[1]?) h6
        simpa [List.getElem?_drop] using this
      have e4 := congrArg (fun l => l.drop 2) h6
      simp only [List.drop_drop, List.drop_succ_cons, List.drop_zero] at e4
      exact ⟨(List.getElem?_eq_some_iff.1 e3).1, c, b'', h1, e2, e3, e4⟩
    · exfalso
      have h5 := (List.cons.inj h4).1
      rcases hc with rfl | rfl <;> exact absurd h5 (by decide)
theorem inv_hex {s out : Bs} {p : Nat} {d1 d2 : Nat} (h : Inv s out p) (hx : s[p]? = some 92) (hy : s[p + 1]? = some 120) (h1 : s[p + 2]? = some (hexd d1)) (h2 : s[p + 3]? = some (hexd d2)) (k1 : d1 < 16) (k2 : d2 < 16) : Inv s (out ++ [UInt8.ofNat (16 * d1 + d2)]) (p + 4) := fun b r hs => by
  obtain ⟨_, c, b'', g1, g2, g3, g4⟩ := inv_x h hx hy hs
  rw [h1] at g2
  rw [h2] at g3
  have hcl := c.toNat_lt
  have e1 := hexd_inj ⟨d1, k1⟩ ⟨c.toNat / 16, by omega⟩ (Option.some.inj g2)
  have e2 := hexd_inj ⟨d2, k2⟩ ⟨c.toNat % 16, by omega⟩ (Option.some.inj g3)
  simp only [Fin.mk.injEq] at e1 e2
  have e3 : UInt8.ofNat (16 * d1 + d2) = c := by
    have : 16 * d1 + d2 = c.toNat := by omega
    rw [this]; simp
  rw [e3]
  exact ⟨b'', by rw [g1]; simp, g4⟩
theorem digit_ix (c : UInt8) : (if 48 ≤ c.toNat ∧ c.toNat ≤ 57 then (c.toNat : Int) - 48 else if 97 ≤ c.toNat ∧ c.toNat ≤ 102 then (c.toNat : Int) - 97 + 10 else -1) = Lib.indexByte dg c := by
  have : ∀ n : Fin 256, (if 48 ≤ n.val ∧ n.val ≤ 57 then (n.val : Int) - 48 else if 97 ≤ n.val ∧ n.val ≤ 102 then (n.val : Int) - 97 + 10 else -1) = Lib.indexByte dg (UInt8.ofNat n.val) := by decide +kernel
  have h := this ⟨c.toNat, c.toNat_lt⟩
  simpa using h
theorem nib (d1 d2 : Nat) (h1 : d1 < 16) (h2 : d2 < 16) : IntKind.u8.wrap (IntKind.i64.wrap (((BitVec.ofInt IntKind.i64.bits (IntKind.i64.wrap ((d1 : Int) * 2 ^ (4 : Int).toNat)) ||| BitVec.ofInt IntKind.i64.bits (d2 : Int)).toNat : Nat) : Int)) = ((16 * d1 + d2 : Nat) : Int) := by
  have : ∀ a b : Fin 16, IntKind.u8.wrap (IntKind.i64.wrap (((BitVec.ofInt IntKind.i64.bits (IntKind.i64.wrap ((a.val : Int) * 2 ^ (4 : Int).toNat)) ||| BitVec.ofInt IntKind.i64.bits (b.val : Int)).toNat : Nat) : Int)) = ((16 * a.val + b.val : Nat) : Int) := by decide +kernel
  exact this ⟨d1, h1⟩ ⟨d2, h2⟩
theorem st_shl {t : TypeId} {X Y : Operand} {k k' : IntKind} {a b : Int} (h0 : 0 ≤ b) (h1 : b ≤ k.bits) : Pu (bS .shl t X Y (.int k a) (.int k' b)) (.int k (k.wrap (a * 2 ^ b.toNat))) :=
  still_bS (fun w => by simp [eqGuard_shl]) fun w => by simp [binOp_shl, shift_shl _ _ _ _ h0 h1]
section
variable {e : Env} {ctx rest R : List HProp}
theorem ix_none {x : UInt8} (h : Lib.indexByte dg x < 0) {d : Nat} (hd : d < 16) : x ≠ hexd d := fun hh => by
  rw [hh, ix_hexd d hd] at h
  omega
theorem unquote_spec {K : Value → ByteArray → Bool → WP} {s : Bs} (hs : s.length ≤ 268435456) (h1 : ∀ b r a c, s = q b ++ r → Ent e (SlO a b.length c 1 (u8 b) :: rest) (K (.slice a b.length c) (ba r) true))
    (h0 : (∀ b r, s ≠ q b ++ r) → Ent e rest (K (.slice none 0 0) (ba []) false)) : Ent e rest (shell_Unquote (ba s) K) := by
  (refine Ent.fn shell_Unquote_ok ?_; unfold shell_Unquote_sh)
  refine hasPrefix_spec (s := s) (p := [34]) ?_
  cases hp : Lib.hasPrefix s [34] with
  | false =>
    refine Ent.wT ?_
    refine h0 fun b r hh => ?_
    rw [hh] at hp
    simp [Lib.hasPrefix, q] at hp
  | true =>
    refine Ent.wF ?_
    have hlen : 1 ≤ s.length := by
      cases s with
      | nil => simp [Lib.hasPrefix] at hp
      | cons x s => simp
    refine Ent.slice (out := []) (by_ := 1) rfl rfl rfl rfl (by decide) (by decide) (by rfl) fun b0 => ?_
    refine Ent.loop2 (k0 := .raw) (k1 := .int .i64) (fun N (v : Value) (at_ : Int) => (exs fun (q : Bs × Option Addr × Nat × Nat) => sepL [pur (v = .slice q.2.1 q.1.length q.2.2.1 ∧ at_ = (q.2.2.2 : Int) ∧ 1 ≤ q.2.2.2 ∧ q.2.2.2 ≤ s.length ∧ N = s.length - q.2.2.2 ∧ q.1.length ≤ q.2.2.2 ∧ Inv s q.1 q.2.2.2), SlO q.2.1 q.1.length q.2.2.1 1 (u8 q.1)]) :: rest) (s.length - 1) ?_ ?_
    · refine Imp.exs ([], some ⟨b0, 0, none⟩, 0, 1) (Imp.g2 (Imp.pur ⟨rfl, rfl, Nat.le_refl _, hlen, rfl, Nat.zero_le _, inv_0 s⟩ ?_))
      exact slO_pt (n := 0) (sz := 1) rfl
    intro N K' hK v at_
    refine Ent.exs fun ⟨out, a2, c2, p⟩ => Ent.g2 (Ent.pur fun ⟨hv, hat, hp1, hp2, hN, hol, hinv⟩ => ?_)
    dsimp only at hv hat hp1 hp2 hN hol hinv
    dsimp only
    subst hv hat
    have next : ∀ (y : Bs) (p' : Nat) a3 c3, p < p' → p' ≤ s.length → y.length ≤ p' - p → Inv s (out ++ y) p' → Ent e (SlO a3 (out.length + y.length) c3 1 (u8 (out ++ y)) :: rest) (K' (.slice a3 (out.length + y.length) c3) (p' : Int)) := fun y p' a3 c3 g1 g2 g3 g4 => by
      refine Ent.imp ?_ (hK (s.length - p') (by omega) _ _)
      refine Imp.exs (out ++ y, a3, c3, p') (Imp.g2 (Imp.pur ⟨by simp, rfl, by dsimp only; omega, g2, rfl, by simp; omega, g4⟩ ?_))
      rw [List.length_append]
      exact Imp.refl _
    have hsz : ((ba s).size : Int) = (s.length : Int) := by simp [ByteArray.size]
    refine Ent.wlenS ?_
    rw [hsz]
    by_cases hl : p < s.length
    rotate_left
    · refine Ent.wF ?_
      exact (h0 (inv_end hinv (by omega))).drop
    obtain ⟨x, hx⟩ : ∃ x, s[p]? = some x := ⟨_, List.getElem?_eq_getElem hl⟩
    have rx : ∀ {k : Int → WP} {G : List HProp}, Ent e G (k x.toNat) → Ent e G (oI .u8 (vS (Instr.index 9 (.string (ba s)) (.int .i64 (p : Int)))) k) := fun h => oIx (by omega) (by rw [Int.toNat_natCast]; exact hx) h
    refine Ent.wT ?_
    refine rx ?_
    refine Ent.condE (fun h34 => ?_) fun h34 => ?_
    · -- the end of the word
      obtain rfl : x = 34 := UInt8.toNat_inj.1 (by show x.toNat = 34; omega)
      refine Ent.draw [] (Imp.nil _) ?_
      refine Ent.war ?_
      refine Ent.puS (st_slSH rfl (by omega) (by omega)) ?_
      rw [show ((p : Int) + 1).toNat = p + 1 by omega]
      refine Ent.rdS fun r1 _ => ?_
      refine quote_spec (b := out) (by omega) (r1 _ .hd) ?_
      refine Ent.puB (st_neS) ?_
      refine Ent.cond (fun hc => ?_) fun hc => ?_
      · refine (h0 fun b r hh => ?_).drop
        have := (inv_stop hinv hx hh).2.2
        rw [this] at hc
        simp at hc
      · have heq : q out = s.take (p + 1) := by simpa using hc
        refine Ent.draw [] (Imp.nil _) ?_
        refine Ent.war ?_
        refine Ent.puS (st_slSL rfl (by omega) (by omega)) ?_
        rw [show ((p : Int) + 1).toNat = p + 1 by omega]
        exact h1 out (s.drop (p + 1)) a2 c2 (by rw [heq, List.take_append_drop])
    have hx34 : x ≠ 34 := fun hh => h34 (by rw [hh]; rfl)
    have h92 : ((x.toNat : Int) = 92) ↔ x = 92 := ⟨fun hh => UInt8.toNat_inj.1 (by show x.toNat = 92; omega), fun hh => by rw [hh]; rfl⟩
    refine Ent.join1 (kd := .bool) (fun t => pur (t = decide (x = 92 ∧ p + 3 < s.length ∧ s[p + 1]? = some 120)) :: SlO a2 out.length c2 1 (u8 out) :: rest) ?_ ?_
    rotate_left
    · intro j3 hj3
      refine rx ?_
      refine Ent.condE (fun hc => ?_) fun hc => ?_
      · have hx92 := h92.1 hc
        refine Ent.war ?_
        refine Ent.wlenS ?_
        rw [hsz]
        by_cases hl3 : p + 3 < s.length
        · obtain ⟨y, hy⟩ : ∃ y, s[p + 1]? = some y := ⟨_, List.getElem?_eq_getElem (by omega)⟩
          refine Ent.wT ?_ (decide_eq_true (by omega))
          refine Ent.war ?_
          refine oIx (c := y) (by omega) (by rw [show ((p : Int) + 1).toNat = p + 1 by omega]; exact hy) ?_
          refine (hj3 _).imp (Imp.pur ?_ (Imp.refl _))
          rw [hy]
          by_cases hyy : y = 120
          · subst hyy
            rw [decide_eq_true ⟨hx92, hl3, rfl⟩]; rfl
          · rw [decide_eq_false (fun hh => hyy (Option.some.inj hh.2.2))]
            exact beq_eq_false_iff_ne.2 fun hh => hyy (UInt8.toNat_inj.1 (by show y.toNat = 120; omega))
        · refine Ent.wF ?_ (decide_eq_false (by omega))
          refine (hj3 _).imp (Imp.pur ?_ (Imp.refl _))
          rw [decide_eq_false (fun hh => hl3 hh.2.1)]
      · refine (hj3 _).imp (Imp.pur ?_ (Imp.refl _))
        rw [decide_eq_false (fun hh => hc (h92.2 hh.1))]
    intro t
    refine Ent.pur fun ht => ?_
    subst ht
    refine Ent.condD (fun hc => ?_) fun hc => ?_
    · -- two digits
      obtain ⟨hx92, hl3, hy⟩ := hc
      subst hx92
      obtain ⟨z1, hz1⟩ : ∃ y, s[p + 2]? = some y := ⟨_, List.getElem?_eq_getElem (by omega)⟩
      obtain ⟨z2, hz2⟩ : ∃ y, s[p + 3]? = some y := ⟨_, List.getElem?_eq_getElem (by omega)⟩
      refine Ent.draw [] (Imp.nil _) ?_
      refine Ent.war ?_
      refine qIx (c := z1) (by omega) (by rw [show ((p : Int) + 2).toNat = p + 2 by omega]; exact hz1) ?_
      refine Ent.war ?_
      refine qIx (c := z2) (by omega) (by rw [show ((p : Int) + 3).toNat = p + 3 by omega]; exact hz2) ?_
      refine indexByte_spec (s := dg) ?_
      refine indexByte_spec (s := dg) ?_
      refine Ent.orJ ?_
      refine Ent.cond (fun hc => ?_) fun hc => ?_
      · refine (h0 fun b r hh => ?_).drop
        obtain ⟨_, c, b'', _, g2, g3, _⟩ := inv_x hinv hx hy hh
        have hcl := c.toNat_lt
        rw [hz1] at g2
        rw [hz2] at g3
        simp only [Bool.or_eq_true, decide_eq_true_eq] at hc
        rcases hc with hc | hc
        · exact ix_none hc (by omega) (Option.some.inj g2)
        · exact ix_none hc (by omega) (Option.some.inj g3)
      · simp only [Bool.or_eq_false_iff, decide_eq_false_iff_not] at hc
        obtain ⟨d1, k1, e1⟩ := ix_some (x := z1) (by omega)
        obtain ⟨d2, k2, e2⟩ := ix_some (x := z2) (by omega)
        subst e1 e2
        rw [ix_hexd d1 k1, ix_hexd d2 k2]
        refine Ent.opI (st_shl (by decide) (by decide)).still ?_
        refine Ent.opI st_or.still ?_
        refine Ent.opI (st_convw rfl rfl).still ?_
        rw [nib d1 d2 k1 k2]
        have e3 : ((16 * d1 + d2 : Nat) : Int) = ((UInt8.ofNat (16 * d1 + d2)).toNat : Int) := by rw [UInt8.toNat_ofNat']; omega
        rw [e3]
        refine app_lit (x := [UInt8.ofNat (16 * d1 + d2)]) rfl (fun a3 c3 => ?_) rfl (by simp) (by simp; omega)
        refine Ent.war ?_
        refine Ent.war ?_
        rw [show ((p : Int) + 3 + 1) = ((p + 4 : Nat) : Int) by omega]
        exact next _ (p + 4) a3 c3 (by omega) (by omega) (by simp) (inv_hex hinv hx hy hz1 hz2 k1 k2)
    · refine Ent.join1 (kd := .bool) (fun t => pur (t = decide (x = 92 ∧ p + 1 < s.length)) :: SlO a2 out.length c2 1 (u8 out) :: rest) ?_ ?_
      rotate_left
      · intro j5 hj5
        refine rx ?_
        refine Ent.condE (fun hc1 => ?_) fun hc1 => ?_
        · refine Ent.war ?_
          refine Ent.wlenS ?_
          rw [hsz]
          refine (hj5 _).imp (Imp.pur ?_ (Imp.refl _))
          exact decide_eq_decide.2 ⟨fun hh => ⟨h92.1 hc1, by omega⟩, fun hh => by omega⟩
        · refine (hj5 _).imp (Imp.pur ?_ (Imp.refl _))
          rw [decide_eq_false (fun hh => hc1 (h92.2 hh.1))]
      intro t
      refine Ent.pur fun ht => ?_
      subst ht
      refine Ent.condD (fun hc2 => ?_) fun hc2 => ?_
      · obtain ⟨hx92, hl1⟩ := hc2
        subst hx92
        obtain ⟨y, hy⟩ : ∃ y, s[p + 1]? = some y := ⟨_, List.getElem?_eq_getElem (by omega)⟩
        refine Ent.war ?_
        refine oIx (c := y) (by omega) (by rw [show ((p : Int) + 1).toNat = p + 1 by omega]; exact hy) ?_
        refine app_lit (x := [y]) rfl (fun a3 c3 => ?_) rfl (by simp) (by simp; omega)
        refine Ent.war ?_
        rw [show ((p : Int) + 1 + 1) = ((p + 2 : Nat) : Int) by omega]
        exact next _ (p + 2) a3 c3 (by omega) (by omega) (by simp) (inv_esc hinv hx hy fun hh => hc ⟨rfl, hh.2, by rw [hy, hh.1]⟩)
      · refine rx ?_
        refine app_lit (x := [x]) rfl (fun a3 c3 => ?_) rfl (by simp) (by simp; omega)
        refine Ent.war ?_
        exact next _ (p + 1) a3 c3 (by omega) (by omega) (by simp) (inv_plain hinv hx hx34 (by
          by_cases hh : x = 92
          · exact .inr (by have : ¬ p + 1 < s.length := fun h3 => hc2 ⟨hh, h3⟩; omega)
          · exact .inl hh))
end
end Go.Proofs.YtoneapgooihajaaGreatDoor.Qa
