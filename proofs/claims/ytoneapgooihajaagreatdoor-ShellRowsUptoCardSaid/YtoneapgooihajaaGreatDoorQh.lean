/-
  READING A LINE (layer 31): parts, numbers, words; an event's line.
-/
import Derived.Test.YtoneapgooihajaaGreatDoorQg
import Derived.Test.YtoneapgooihajaaGreatDoorOm
import Derived.Lib.AtoiAllCases
set_option maxRecDepth 100000
set_option linter.unusedVariables false
set_option linter.unusedSectionVars false
set_option linter.unusedSimpArgs false
set_option maxHeartbeats 0
namespace Go.Proofs.YtoneapgooihajaaGreatDoor.Qa
open Go Sh Sl
open Go.RowKit
attribute [local irreducible] condK ArK NilK OpK FnK StK joinK loopK DrawK andK PuK NxK EnK vS uS bS callS invokeS
theorem cutB_len (s : Bs) : (cutB s).1.length ≤ s.length ∧ (cutB s).2.length ≤ s.length := by
  rcases ix_blank s with ⟨_, g2, g3⟩ | ⟨n, _, g2, g3, g4⟩
  · unfold cutB; rw [g2, g3]; simp
  · unfold cutB; rw [g3, g4]; simp; omega
theorem atoi_bounds (s : Bs) : -9223372036854775808 ≤ (atoi s).1 ∧ (atoi s).1 ≤ 9223372036854775807 := by
  unfold atoi
  cases h : Lib.atoiAll s with
  | ok v => exact Lib.atoiAll_bounds h
  | range => exact Lib.atoiSat_bounds s
  | _ =>
    show -9223372036854775808 ≤ (0 : Int) ∧ (0 : Int) ≤ 9223372036854775807
    omega
/-- the word a text begins with, and what stands behind -/
noncomputable def uq (s : Bs) : Option (Bs × Bs) := open Classical in if h : ∃ p : Bs × Bs, s = q p.1 ++ p.2 then some (Classical.choose h) else none
theorem uq_some {s b r : Bs} : uq s = some (b, r) ↔ s = q b ++ r := by
  unfold uq
  constructor
  · intro h
    split at h
    · rename_i hh
      have := Classical.choose_spec hh
      rw [Option.some.inj h] at this
      exact this
    · cases h
  · intro h
    have hh : ∃ p : Bs × Bs, s = q p.1 ++ p.2 := ⟨(b, r), h⟩
    rw [dif_pos hh]
    obtain ⟨h3, h4⟩ := q_inj (h.symm.trans (Classical.choose_spec hh))
    have : Classical.choose hh = (b, r) := Prod.ext h3.symm h4.symm
    rw [this]
theorem uq_none {s : Bs} : uq s = none ↔ ∀ b r, s ≠ q b ++ r := by
  constructor
  · intro h b r hs
    rw [uq_some.2 hs] at h; cases h
  · intro h
    cases hu : uq s with
    | none => rfl
    | some p => exact absurd (uq_some.1 hu) (h p.1 p.2)
theorem uq_len {s b r : Bs} (h : uq s = some (b, r)) : b.length ≤ s.length ∧ r.length ≤ s.length := by
  have h1 := uq_some.1 h
  have h2 := (encs_len b).1
  rw [h1, List.length_append, q_len]
  omega
/-- where a reader stands: what is left, and whether a part was none -/
abbrev Rs := Bs × Bool
def placeR (L : List Bs) (z : Rs) : Int × Rs := (ixOf L (cutB z.1).1, (cutB z.1).2, z.2 || decide (ixOf L (cutB z.1).1 < 1))
def numR (z : Rs) : Int × Rs := ((atoi (cutB z.1).1).1, (cutB z.1).2, z.2 || (atoi (cutB z.1).1).2)
noncomputable def wordR (z : Rs) : Bs × Rs := match uq z.1 with
  | some (b, r) => (b, Lib.trimPrefix r [32], z.2)
  | none => ([], [], true)
theorem numR_len (z : Rs) : (numR z).2.1.length ≤ z.1.length := (cutB_len z.1).2
theorem trimP_len (r p : Bs) : (Lib.trimPrefix r p).length ≤ r.length := by
  unfold Lib.trimPrefix
  split
  · rw [List.length_drop]; omega
  · omega
/-- numbers read into their places -/
def numsR (os : List Nat) (p : Rs × List Value) : Rs × List Value := os.foldl (fun p o => ((numR p.1).2, p.2.set o (.int .i64 (numR p.1).1))) p
theorem numsR_snoc (os : List Nat) (o : Nat) (p : Rs × List Value) : numsR (os ++ [o]) p = ((numR (numsR os p).1).2, (numsR os p).2.set o (.int .i64 (numR (numsR os p).1).1)) := by
  unfold numsR
  rw [List.foldl_append]; rfl
theorem numsR_len (os : List Nat) (p : Rs × List Value) : (numsR os p).1.1.length ≤ p.1.1.length ∧ (numsR os p).2.length = p.2.length := by
  induction os generalizing p with
  | nil => exact ⟨Nat.le_refl _, rfl⟩
  | cons o os ih =>
    obtain ⟨h1, h2⟩ := ih ((numR p.1).2, p.2.set o (.int .i64 (numR p.1).1))
    have := numR_len p.1
    refine ⟨Nat.le_trans h1 this, ?_⟩
    rw [List.length_set] at h2
    exact h2
abbrev rdC (z : Rs) : List Value := [.string (ba z.1), .bool z.2]
section
variable {e : Env} {ctx rest R : List HProp}
theorem st_neNil {t : TypeId} {X : Operand} {T : TypeId} {p : Value} (hu : P.underlying t = some (.interface (P.methodsAt t))) : Pu (bS .neq t X (.const .nilIface) (.iface T p) .nilIface) (.bool true) :=
  still_bS (fun w => by simp [eqGuard]) fun w => by simp [binOp, run_equal_held_nil w t T p hu]
theorem st_eqNil {t : TypeId} {X : Operand} (hu : P.underlying t = some (.interface (P.methodsAt t))) : Pu (bS .neq t X (.const .nilIface) .nilIface .nilIface) (.bool false) :=
  still_bS (fun w => by simp [eqGuard_nil_constR]) fun w => by simp [binOp, run_equal_nil_nil w t hu]
theorem plain_spec {K : ByteArray → WP} {rb : Nat} {z : Rs} (hs : z.1.length ≤ 268435456) (h : Ent e (pt rb (rdC ((cutB z.1).2, z.2)) :: rest) (K (ba (cutB z.1).1))) : Ent e (pt rb (rdC z) :: rest) (shell_reader_plain (ptr rb) K) := by
  (refine Ent.fn shell_reader_plain_ok ?_; unfold shell_reader_plain_sh)
  (refine Ent.go ?_)
  refine cut_spec (s := z.1) (by omega) fun _ => ?_
  (refine Ent.go ?_)
  exact h
theorem place_spec {K : Int → WP} {rb : Nat} {z : Rs} {S : Bs} {L : List Bs} (hs : z.1.length ≤ 268435456) (hL : Parted S L) (hl : L.length ≤ 1000) (hG : GL e rest) (h : Ent e (pt rb (rdC (placeR L z).2) :: rest) (K (placeR L z).1)) : Ent e (pt rb (rdC z) :: rest) (shell_reader_place (ptr rb) (ba S) K) := by
  (refine Ent.fn shell_reader_place_ok ?_; unfold shell_reader_place_sh)
  refine split_spec hL (hG.mono (by (focus (repeat (first | exact Imp.refl _ | exact Imp.nil _ | apply Imp.drop))))) fun b => ?_
  refine Ent.bring (A := pt rb (rdC z)) ?_
  refine plain_spec hs ?_
  refine Ent.bring (A := pt b (ss L)) ?_
  refine index_spec (by omega) ?_
  have fin : ∀ v : Bool, v = (z.2 || decide (ixOf L (cutB z.1).1 < 1)) → Ent e (pt b (ss L) :: pt rb [.string (ba (cutB z.1).2), .bool v] :: rest) (K (ixOf L (cutB z.1).1)) := fun v hv => by
    refine Ent.imp ?_ h
    rw [hv]
    exact Imp.drop (Imp.refl _)
  refine Ent.wnB ?_
  refine Ent.cond (fun hb => ?_) fun hb => ?_
  · refine Ent.wnW ?_
    exact fin true (by rw [hb]; rfl)
  · refine Ent.wnW ?_
    exact fin _ (by rw [hb]; rfl)
theorem number_spec {K : Int → WP} {rb : Nat} {z : Rs} (hs : z.1.length ≤ 268435456) (hG : GL e rest) (h : Ent e (pt rb (rdC (numR z).2) :: rest) (K (numR z).1)) : Ent e (pt rb (rdC z) :: rest) (shell_reader_number (ptr rb) K) := by
  have hcl := (cutB_len z.1).1
  (refine Ent.fn shell_reader_number_ok ?_; unfold shell_reader_number_sh)
  refine plain_spec hs ?_
  refine atoi_spec (s := (cutB z.1).1) (by omega) (hG.mono (by (focus (repeat (first | exact Imp.refl _ | exact Imp.nil _ | apply Imp.drop))))) fun er her => ?_
  refine Ent.wnB ?_
  refine Ent.cond (fun hb => ?_) fun hb => ?_
  · refine Ent.wnW ?_
    refine Ent.imp ?_ h
    unfold numR
    rw [hb]
    exact Imp.refl _
  · cases hz2 : (atoi (cutB z.1).1).2 with
    | true =>
      rw [if_pos hz2] at her
      obtain ⟨T, p, rfl⟩ := her
      refine Ent.opB (st_neNil (by kernel_rfl)).still ?_
      refine Ent.wnW ?_
      refine Ent.imp ?_ h
      unfold numR
      rw [hb, hz2]
      exact Imp.refl _
    | false =>
      rw [if_neg (by rw [hz2]; decide)] at her
      subst her
      refine Ent.opB (st_eqNil (by kernel_rfl)).still ?_
      refine Ent.wnW ?_
      refine Ent.imp ?_ h
      unfold numR
      rw [hb, hz2]
      exact Imp.refl _
theorem word_spec {K : Value → WP} {rb : Nat} {z : Rs} (hs : z.1.length ≤ 268435456) (h : ∀ a c, Ent e (pt rb (rdC (wordR z).2) :: SlO a (wordR z).1.length c 1 (u8 (wordR z).1) :: rest) (K (.slice a (wordR z).1.length c))) : Ent e (pt rb (rdC z) :: rest) (shell_reader_word (ptr rb) K) := by
  (refine Ent.fn shell_reader_word_ok ?_; unfold shell_reader_word_sh)
  (refine Ent.go ?_)
  refine unquote_spec (s := z.1) hs (fun b r a c hq => ?_) fun hno => ?_
  · have hu := uq_some.2 hq
    unfold wordR at h
    rw [hu] at h
    dsimp only at h
    refine Ent.wnB ?_
    refine Ent.cond (fun hb => ?_) fun hb => ?_
    · refine Ent.wnW ?_
      refine trimPrefix_spec (s := r) (p := [32]) ?_
      refine Ent.wnW ?_
      refine Ent.imp ?_ (h a c)
      rw [hb]
      (focus ((repeat ((with_reducible apply Imp.pick); (repeat (first | exact Pick.hd | apply Pick.tl)))); (repeat (first | exact Imp.refl _ | exact Imp.nil _ | apply Imp.drop)); done))
    · refine Ent.wnW ?_
      refine trimPrefix_spec (s := r) (p := [32]) ?_
      refine Ent.wnW ?_
      refine Ent.imp ?_ (h a c)
      rw [hb]
      (focus ((repeat ((with_reducible apply Imp.pick); (repeat (first | exact Pick.hd | apply Pick.tl)))); (repeat (first | exact Imp.refl _ | exact Imp.nil _ | apply Imp.drop)); done))
  · have hu := uq_none.2 hno
    unfold wordR at h
    rw [hu] at h
    dsimp only at h
    have h2 := (h none 0).imp (Imp.trans (b := SlO none 0 0 1 [] :: pt rb (rdC ([], true)) :: rest) (Imp.slN (sz := 1) (Imp.refl _)) (by show Imp _ (_ :: SlO none 0 0 1 [] :: rest); (focus ((repeat ((with_reducible apply Imp.pick); (repeat (first | exact Pick.hd | apply Pick.tl)))); (repeat (first | exact Imp.refl _ | exact Imp.nil _ | apply Imp.drop)); done))))
    refine Ent.wnB ?_
    refine Ent.cond (fun hb => ?_) fun hb => ?_
    · refine Ent.wnW ?_
      refine trimPrefix_spec (s := []) (p := [32]) ?_
      refine Ent.wnW ?_
      exact h2
    · refine Ent.wnW ?_
      refine trimPrefix_spec (s := []) (p := [32]) ?_
      refine Ent.wnW ?_
      exact h2
theorem numbers_spec {K : Value → WP} {rb b eb c : Nat} {z : Rs} {l : List Value} {os : List Nat} (hs : z.1.length ≤ 268435456) (hG : GL e rest) (ho : ∀ o ∈ os, o < l.length) (hol : os.length ≤ 100) (h : Ent e (pt rb (rdC (numsR os (z, l)).1) :: pt eb (numsR os (z, l)).2 :: rest) (K (.tuple #[]))) :
    Ent e (pt b (os.map fun o => .pointer (some ⟨eb, o, none⟩)) :: pt rb (rdC z) :: pt eb l :: rest) (shell_reader_numbers (ptr rb) (.slice (some ⟨b, 0, none⟩) os.length c) K) := by
  (refine Ent.fn shell_reader_numbers_ok ?_; unfold shell_reader_numbers_sh)
  refine Ent.wlen ?_
  refine Ent.rngL0 os.length (fun k => pt b (os.map fun o => .pointer (some ⟨eb, o, none⟩)) :: pt rb (rdC (numsR (os.take k) (z, l)).1) :: pt eb (numsR (os.take k) (z, l)).2 :: rest) rfl (Imp.refl _) ?_
  intro k hk K' hK
  have hlen := numsR_len (os.take k) (z, l)
  by_cases hl : k < os.length
  · obtain ⟨o, hx⟩ : ∃ o, os[k]? = some o := ⟨_, List.getElem?_eq_getElem hl⟩
    have hol := ho o (List.mem_of_getElem? hx)
    have hnx := numsR_snoc (os.take k) o (z, l)
    rw [← take_snoc hx] at hnx
    refine Ent.wT ?_
    refine Ent.wiRb (v := .pointer (some ⟨eb, o, none⟩)) ?_ (hv := by simp [hx])
    refine Ent.callB (by rfl) ?_
    show Ent e _ (shell_reader_number (ptr rb) _)
    refine Ent.bring (A := pt rb (rdC (numsR (os.take k) (z, l)).1)) ?_
    refine number_spec (by have := hlen.1; dsimp only at this; omega) (hG.mono (by (focus (repeat (first | exact Imp.refl _ | exact Imp.nil _ | apply Imp.drop))))) ?_
    refine Ent.nil ?_
    refine Ent.wsto (l' := (numsR (os.take (k + 1)) (z, l)).2) ?_ (hl := by rw [hnx]) (ho := by have := hlen.2; dsimp only at this; omega) (hu := by (repeat (first | exact Upd.hd | apply Upd.tl)))
    refine Ent.war ?_
    refine Ent.imp ?_ (hK hl)
    rw [hnx]
    (focus ((repeat ((with_reducible apply Imp.pick); (repeat (first | exact Pick.hd | apply Pick.tl)))); (repeat (first | exact Imp.refl _ | exact Imp.nil _ | apply Imp.drop)); done))
  · have hke : k = os.length := by omega
    rw [hke, List.take_length]
    refine Ent.wF ?_
    exact h.drop
/-- what a line is read as: its numbers, its bytes, and what is left -/
noncomputable def evR (s : Bs) : (Int × Int × Int × Bs) × Rs :=
  let p := placeR kindsL (Lib.trimSuffix s [10], false)
  if p.1 = 8 then let n := numR p.2; ((p.1, 0, n.1, []), n.2)
  else if p.1 = 2 ∨ p.1 = 6 then let t := numR p.2; let n := numR t.2; let b := wordR n.2; ((p.1, t.1, n.1, b.1), b.2)
  else let t := numR p.2; let n := numR t.2; ((p.1, t.1, n.1, []), n.2)
/-- is it an event's line? -/
noncomputable def evOk (s : Bs) : Bool := !(evR s).2.2 && ((evT (evR s).1.1 (evR s).1.2.1 (evR s).1.2.2.1 (evR s).1.2.2.2).2 && decide ((evT (evR s).1.1 (evR s).1.2.1 (evR s).1.2.2.1 (evR s).1.2.2.2).1 = s))
theorem trimS_len (s p : Bs) : (Lib.trimSuffix s p).length ≤ s.length := by
  unfold Lib.trimSuffix
  split
  · rw [List.length_take]; omega
  · omega
theorem wordR_len (z : Rs) : (wordR z).1.length ≤ z.1.length ∧ (wordR z).2.1.length ≤ z.1.length := by
  unfold wordR
  cases hu : uq z.1 with
  | none => simp
  | some p =>
    obtain ⟨b, r⟩ := p
    have := uq_len hu
    have := trimP_len r [32]
    dsimp only
    omega
theorem ba_eqb (a b : Bs) : decide (ba a = ba b) = decide (a = b) := decide_eq_decide.2 ⟨fun h => by simpa [ba] using congrArg (fun z : ByteArray => z.data.toList) h, fun h => by rw [h]⟩
theorem event_spec {K : Value → Bool → WP} {s : Bs} (hs : s.length ≤ 1048576) (hG : GL e rest) (h : ∀ x : Ev, (x.k, x.t, x.n, x.b) = (evR s).1 → EvR x → Ent e (SlO x.a x.b.length x.c 1 (u8 x.b) :: rest) (K (.agg (evC x).toArray) (evOk s))) : Ent e rest (shell_event (ba s) K) := by
  (refine Ent.fn shell_event_ok ?_; unfold shell_event_sh)
  have hts := trimS_len s [10]
  refine Ent.alloc' fun t2 => ?_
  refine trimSuffix_spec (s := s) (p := [10]) (by omega) ?_
  refine Ent.woR ?_
  refine Ent.box' fun rb => ?_
  obtain ⟨z0, hz0⟩ : ∃ z0 : Rs, z0 = (Lib.trimSuffix s [10], false) := ⟨_, rfl⟩
  refine Ent.imp (ctx' := pt rb (rdC z0) :: pt t2 (evC ⟨0, 0, 0, none, 0, []⟩) :: rest) (by rw [hz0]; exact Imp.refl _) ?_
  have hz0l : z0.1.length ≤ s.length := by rw [hz0]; exact hts
  refine place_spec (S := kindsS) (L := kindsL) (by omega) kinds_parted (by decide) (hG.mono (by (focus (repeat (first | exact Imp.refl _ | exact Imp.nil _ | apply Imp.drop))))) ?_
  refine Ent.woR ?_
  refine Ent.alloc' fun eb => ?_
  refine Ent.wstoA (l' := evC ⟨(placeR kindsL z0).1, 0, 0, none, 0, []⟩) ?_ (vs := evC ⟨(placeR kindsL z0).1, 0, 0, none, 0, []⟩) (hl := rfl) (hu := by (repeat (first | exact Upd.hd | apply Upd.tl)))
  have hz1 := (cutB_len z0.1).2
  have hz1' : (placeR kindsL z0).2.1.length ≤ z0.1.length := hz1
  refine Ent.join0 ((exs fun (x : Ev) => sepL [pur ((x.k, x.t, x.n, x.b) = (evR s).1 ∧ EvR x), pt eb (evC x), pt rb (rdC (evR s).2), SlO x.a x.b.length x.c 1 (u8 x.b)]) :: pt t2 (evC ⟨0, 0, 0, none, 0, []⟩) :: rest) ?_ ?_
  rotate_left
  · intro j1 hj1
    have fin : ∀ (x : Ev) (z : Rs), (x.k, x.t, x.n, x.b) = (evR s).1 → z = (evR s).2 → EvR x → Ent e (pt eb (evC x) :: pt rb (rdC z) :: SlO x.a x.b.length x.c 1 (u8 x.b) :: pt t2 (evC ⟨0, 0, 0, none, 0, []⟩) :: rest) j1 := fun x z h1 h2 h3 => by
      refine Ent.imp ?_ hj1
      rw [h2]
      exact Imp.exs x (Imp.g4 (Imp.pur ⟨h1, h3⟩ (Imp.refl _)))
    obtain ⟨k, hk⟩ : ∃ k, k = (placeR kindsL z0).1 := ⟨_, rfl⟩
    obtain ⟨z1, hzz⟩ : ∃ z1, z1 = (placeR kindsL z0).2 := ⟨_, rfl⟩
    rw [← hk, ← hzz]
    rw [← hzz] at hz1'
    have hev : evR s = (if k = 8 then let n := numR z1; ((k, 0, n.1, []), n.2)
      else if k = 2 ∨ k = 6 then let t := numR z1; let n := numR t.2; let b := wordR n.2; ((k, t.1, n.1, b.1), b.2)
      else let t := numR z1; let n := numR t.2; ((k, t.1, n.1, []), n.2)) := by
      rw [hk, hzz]
      unfold evR
      rw [← hz0]
    refine Ent.wfI ?_
    refine Ent.condE (fun h8 => ?_) fun h8 => ?_
    · rw [if_pos h8] at hev
      refine Ent.woR ?_
      refine Ent.slice (out := [.pointer (some ⟨eb, 2, none⟩)]) rfl rfl rfl rfl (by decide) (by decide) (by rfl) fun b => ?_
      refine Ent.imp (ctx' := pt b ([2].map fun o => .pointer (some ⟨eb, o, none⟩)) :: pt rb (rdC z1) :: pt eb (evC ⟨k, 0, 0, none, 0, []⟩) :: pt t2 (evC ⟨0, 0, 0, none, 0, []⟩) :: rest) (by show Imp (pt b ([2].map fun o => .pointer (some ⟨eb, o, none⟩)) :: _) _; (focus ((repeat ((with_reducible apply Imp.pick); (repeat (first | exact Pick.hd | apply Pick.tl)))); (repeat (first | exact Imp.refl _ | exact Imp.nil _ | apply Imp.drop)); done))) ?_
      refine numbers_spec (z := z1) (os := [2]) (by omega) (hG.mono (by (focus (repeat (first | exact Imp.refl _ | exact Imp.nil _ | apply Imp.drop))))) (by simp) (by simp) ?_
      have hf := fin ⟨k, 0, (numR z1).1, none, 0, []⟩ (numR z1).2 (by rw [hev]) (by rw [hev]) ⟨⟨by show (-9223372036854775808 : Int) ≤ 0; omega, by show (0 : Int) ≤ 9223372036854775807; omega⟩, atoi_bounds _, by show 0 ≤ 1048576; omega⟩
      refine Ent.imp (Imp.trans (b := SlO none 0 0 1 [] :: pt rb (rdC (numR z1).2) :: pt eb (evC ⟨k, 0, (numR z1).1, none, 0, []⟩) :: pt t2 (evC ⟨0, 0, 0, none, 0, []⟩) :: rest) (Imp.slN (sz := 1) (Imp.refl _)) ?_) hf
      show Imp _ (_ :: _ :: SlO none 0 0 1 [] :: _)
      (focus ((repeat ((with_reducible apply Imp.pick); (repeat (first | exact Pick.hd | apply Pick.tl)))); (repeat (first | exact Imp.refl _ | exact Imp.nil _ | apply Imp.drop)); done))
    rw [if_neg h8] at hev
    refine Ent.join1 (kd := .bool) (fun t => pur (t = decide (k = 2 ∨ k = 6)) :: pt eb (evC ⟨k, 0, 0, none, 0, []⟩) :: pt rb (rdC z1) :: pt t2 (evC ⟨0, 0, 0, none, 0, []⟩) :: rest) ?_ ?_
    rotate_left
    · intro j2 hj2
      refine Ent.condE (fun h2 => ?_) fun h2 => ?_
      · refine (hj2 _).imp (Imp.pur ?_ (Imp.refl _))
        rw [decide_eq_true (.inl h2), h2]; rfl
      · refine (hj2 _).imp (Imp.pur ?_ (Imp.refl _))
        by_cases h6 : k = 6
        · rw [h6]; rfl
        · rw [decide_eq_false (fun hh => hh.elim h2 h6)]
          exact beq_eq_false_iff_ne.2 h6
    intro t
    refine Ent.pur fun ht => ?_
    subst ht
    have hn1 := numR_len z1
    have hn2 := numR_len (numR z1).2
    refine Ent.condD (fun h26 => ?_) fun h26 => ?_
    · rw [if_pos h26] at hev
      refine Ent.woR ?_
      refine Ent.woR ?_
      refine Ent.slice (out := [.pointer (some ⟨eb, 1, none⟩), .pointer (some ⟨eb, 2, none⟩)]) rfl rfl rfl rfl (by decide) (by decide) (by rfl) fun b => ?_
      refine Ent.imp (ctx' := pt b ([1, 2].map fun o => .pointer (some ⟨eb, o, none⟩)) :: pt rb (rdC z1) :: pt eb (evC ⟨k, 0, 0, none, 0, []⟩) :: pt t2 (evC ⟨0, 0, 0, none, 0, []⟩) :: rest) (by show Imp (pt b ([1, 2].map fun o => .pointer (some ⟨eb, o, none⟩)) :: _) _; (focus ((repeat ((with_reducible apply Imp.pick); (repeat (first | exact Pick.hd | apply Pick.tl)))); (repeat (first | exact Imp.refl _ | exact Imp.nil _ | apply Imp.drop)); done))) ?_
      refine numbers_spec (z := z1) (os := [1, 2]) (by omega) (hG.mono (by (focus (repeat (first | exact Imp.refl _ | exact Imp.nil _ | apply Imp.drop))))) (by simp) (by simp) ?_
      refine word_spec (z := (numR (numR z1).2).2) (by omega) fun a c => ?_
      have hwl := (wordR_len (numR (numR z1).2).2).1
      refine Ent.imp (ctx' := pt eb (evC ⟨k, (numR z1).1, (numR (numR z1).2).1, none, 0, []⟩) :: pt rb (rdC (wordR (numR (numR z1).2).2).2) :: SlO a (wordR (numR (numR z1).2).2).1.length c 1 (u8 (wordR (numR (numR z1).2).2).1) :: pt t2 (evC ⟨0, 0, 0, none, 0, []⟩) :: rest) (by show Imp (_ :: _ :: pt eb (evC ⟨k, (numR z1).1, (numR (numR z1).2).1, none, 0, []⟩) :: _) _; (focus ((repeat ((with_reducible apply Imp.pick); (repeat (first | exact Pick.hd | apply Pick.tl)))); (repeat (first | exact Imp.refl _ | exact Imp.nil _ | apply Imp.drop)); done))) ?_
      refine Ent.wfW (l' := evC ⟨k, (numR z1).1, (numR (numR z1).2).1, a, c, (wordR (numR (numR z1).2).2).1⟩) ?_ (hl := rfl) (hu := by (repeat (first | exact Upd.hd | apply Upd.tl)))
      have hf := fin ⟨k, (numR z1).1, (numR (numR z1).2).1, a, c, (wordR (numR (numR z1).2).2).1⟩ (wordR (numR (numR z1).2).2).2 (by rw [hev]) (by rw [hev]) ⟨atoi_bounds _, atoi_bounds _, by show (wordR _).1.length ≤ _; omega⟩
      refine Ent.imp ?_ hf
      (focus ((repeat ((with_reducible apply Imp.pick); (repeat (first | exact Pick.hd | apply Pick.tl)))); (repeat (first | exact Imp.refl _ | exact Imp.nil _ | apply Imp.drop)); done))
    · rw [if_neg h26] at hev
      refine Ent.woR ?_
      refine Ent.woR ?_
      refine Ent.slice (out := [.pointer (some ⟨eb, 1, none⟩), .pointer (some ⟨eb, 2, none⟩)]) rfl rfl rfl rfl (by decide) (by decide) (by rfl) fun b => ?_
      refine Ent.imp (ctx' := pt b ([1, 2].map fun o => .pointer (some ⟨eb, o, none⟩)) :: pt rb (rdC z1) :: pt eb (evC ⟨k, 0, 0, none, 0, []⟩) :: pt t2 (evC ⟨0, 0, 0, none, 0, []⟩) :: rest) (by show Imp (pt b ([1, 2].map fun o => .pointer (some ⟨eb, o, none⟩)) :: _) _; (focus ((repeat ((with_reducible apply Imp.pick); (repeat (first | exact Pick.hd | apply Pick.tl)))); (repeat (first | exact Imp.refl _ | exact Imp.nil _ | apply Imp.drop)); done))) ?_
      refine numbers_spec (z := z1) (os := [1, 2]) (by omega) (hG.mono (by (focus (repeat (first | exact Imp.refl _ | exact Imp.nil _ | apply Imp.drop))))) (by simp) (by simp) ?_
      have hf := fin ⟨k, (numR z1).1, (numR (numR z1).2).1, none, 0, []⟩ (numR (numR z1).2).2 (by rw [hev]) (by rw [hev]) ⟨atoi_bounds _, atoi_bounds _, by show 0 ≤ 1048576; omega⟩
      refine Ent.imp (Imp.trans (b := SlO none 0 0 1 [] :: pt rb (rdC (numR (numR z1).2).2) :: pt eb (evC ⟨k, (numR z1).1, (numR (numR z1).2).1, none, 0, []⟩) :: pt t2 (evC ⟨0, 0, 0, none, 0, []⟩) :: rest) (Imp.slN (sz := 1) (Imp.refl _)) ?_) hf
      show Imp _ (_ :: _ :: SlO none 0 0 1 [] :: _)
      (focus ((repeat ((with_reducible apply Imp.pick); (repeat (first | exact Pick.hd | apply Pick.tl)))); (repeat (first | exact Imp.refl _ | exact Imp.nil _ | apply Imp.drop)); done))
  refine Ent.exs fun x => Ent.g4 (Ent.pur fun ⟨hx1, hx2⟩ => ?_)
  have hres : evOk s = (!(evR s).2.2 && ((evT x.k x.t x.n x.b).2 && decide ((evT x.k x.t x.n x.b).1 = s))) := by
    unfold evOk
    rw [← hx1]
  refine Ent.wlA (cs := evC x) ?_
  refine Ent.imp (ctx' := SlO x.a x.b.length x.c 1 (u8 x.b) :: pt eb (evC x) :: pt rb (rdC (evR s).2) :: pt t2 (evC ⟨0, 0, 0, none, 0, []⟩) :: rest) (by (focus ((repeat ((with_reducible apply Imp.pick); (repeat (first | exact Pick.hd | apply Pick.tl)))); (repeat (first | exact Imp.refl _ | exact Imp.nil _ | apply Imp.drop)); done))) ?_
  refine Ent.rdS fun r1 _ => ?_
  refine evtext_spec (x := x) hx2 (r1 _ .hd) (hG.mono (by (focus (repeat (first | exact Imp.refl _ | exact Imp.nil _ | apply Imp.drop))))) ?_
  refine Ent.draw [pt eb (evC x), pt rb (rdC (evR s).2)] (by (focus ((repeat ((with_reducible apply Imp.pick); (repeat (first | exact Pick.hd | apply Pick.tl)))); (repeat (first | exact Imp.refl _ | exact Imp.nil _ | apply Imp.drop)); done))) ?_
  refine Ent.stR (v := .agg (evC x).toArray) (st_loadA (n := 4) (cs := evC x) .hd rfl rfl rfl) ?_
  refine Ent.whB ?_
  have fin : ∀ v, v = evOk s → Ent e (SlO x.a x.b.length x.c 1 (u8 x.b) :: pt eb (evC x) :: pt rb (rdC (evR s).2) :: pt t2 (evC x) :: rest) (K (.agg (evC x).toArray) v) := fun v hv => by
    refine Ent.imp ?_ (h x hx1 hx2 |> fun hh => by rw [← hv] at hh; exact hh)
    (focus ((repeat ((with_reducible apply Imp.pick); (repeat (first | exact Pick.hd | apply Pick.tl)))); (repeat (first | exact Imp.refl _ | exact Imp.nil _ | apply Imp.drop)); done))
  refine Ent.cond (fun hb => ?_) fun hb => ?_
  · have hb' : (evR s).2.2 = false := by simpa using hb
    refine Ent.cond (fun ho => ?_) fun ho => ?_
    · refine Ent.puB st_eqS ?_
      refine Ent.wstoA (l' := evC x) ?_ (vs := evC x) (hl := rfl) (hu := by (repeat (first | exact Upd.hd | apply Upd.tl)))
      refine Ent.wand ?_
      refine Ent.wrA ?_
      refine fin _ ?_
      rw [hres, hb', ho, ba_eqb]; rfl
    · refine Ent.wstoA (l' := evC x) ?_ (vs := evC x) (hl := rfl) (hu := by (repeat (first | exact Upd.hd | apply Upd.tl)))
      refine Ent.wand ?_
      refine Ent.wrA ?_
      refine fin _ ?_
      rw [hres, ho]; simp
  · have hb' : (evR s).2.2 = true := by simpa using hb
    refine Ent.wstoA (l' := evC x) ?_ (vs := evC x) (hl := rfl) (hu := by (repeat (first | exact Upd.hd | apply Upd.tl)))
    refine Ent.wand ?_
    refine Ent.wrA ?_
    refine fin _ ?_
    rw [hres, hb']; rfl
end
end Go.Proofs.YtoneapgooihajaaGreatDoor.Qa
