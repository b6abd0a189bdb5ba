/-
  READING ROWS (layer 31): a row's first line; what lines come to.
-/
import Derived.Test.YtoneapgooihajaaGreatDoorXa
set_option maxRecDepth 100000
set_option linter.unusedVariables false
set_option linter.unusedSectionVars false
set_option linter.unusedSimpArgs false
set_option maxHeartbeats 0
namespace Go.Proofs.YtoneapgooihajaaGreatDoor.Qa
open Go Sh Sl
open Go.RowKit
attribute [local irreducible] condK ArK NilK OpK FnK StK joinK loopK DrawK andK PuK NxK EnK vS uS bS callS invokeS
abbrev errS : Bs := [101, 114, 114, 111, 114]
/-- what a row's first line is read as, and what is left -/
def rowR (s : Bs) : (Int × Int) × Rs :=
  let p := placeR kindsL (Lib.trimSuffix s [10], false)
  if (cutB p.2.1).1 = errS then let n := numR ((cutB p.2.1).2, p.2.2); ((p.1, n.1), n.2) else ((p.1, 0), ((cutB p.2.1).2, p.2.2))
abbrev hdR (d : Int × Int) : dR := (d.1, d.2, [])
def rowOk (s : Bs) : Bool := !(rowR s).2.2 && ((rwT (hdR (rowR s).1)).2 && decide ((rwT (hdR (rowR s).1)).1 = s))
theorem rwT_hd {k er : Int} (h : (rwT (hdR (k, er))).2 = true) : (1 ≤ k ∧ k ≤ 8) ∧ (rwT (hdR (k, er))).1 = (if er ≠ 0 then joinB [nameAt kindsL k, errS, Lib.itoa er] else joinB [nameAt kindsL k, [111, 107]]) ++ [10] := by
  unfold rwT hdR at h ⊢
  dsimp only at h ⊢
  by_cases hn : nameAt kindsL k = []
  · rw [if_pos (.inl hn)] at h; cases h
  · rw [if_neg (fun hh => hh.elim hn fun h2 => h2.1 rfl)] at h ⊢
    have hk : 1 ≤ k ∧ k ≤ 8 := by
      unfold nameAt at hn
      split at hn
      · rename_i h1
        have : kindsL.length = 9 := rfl
        omega
      · exact absurd rfl hn
    refine ⟨hk, ?_⟩
    by_cases he : er ≠ 0
    · rw [if_pos he, if_pos he]
    · rw [if_neg he, if_neg he]
      simp [sTx]
theorem row_back {k er : Int} (hd : I64 er) (h : (rwT (hdR (k, er))).2 = true) : rowR (rwT (hdR (k, er))).1 = ((k, er), [], false) := by
  obtain ⟨hk, ht⟩ := rwT_hd h
  rw [ht]
  unfold rowR
  rw [trimS_nl]
  have hp : ∀ r : Bs, placeR kindsL (nameAt kindsL k ++ 32 :: r, false) = (k, r, false) := fun r => by
    unfold placeR
    rw [cutB_at (name_nb k)]
    dsimp only
    rw [name_ix hk, decide_eq_false (by omega)]; rfl
  by_cases he : er ≠ 0
  · rw [if_pos he, joinB_3, hp]
    dsimp only
    rw [cutB_at (a := errS) (by intro c hc hh; subst hh; revert hc; decide)]
    dsimp only
    rw [if_pos rfl, numR_end hd]
  · have he0 : er = 0 := by omega
    rw [if_neg he, joinB_2, hp]
    dsimp only
    rw [cutB_all (a := [111, 107]) (by intro c hc hh; subst hh; revert hc; decide)]
    dsimp only
    rw [if_neg (by decide), he0]
theorem row_ok {s : Bs} (h : rowOk s = true) : rwT (hdR (rowR s).1) = (s, true) := by
  unfold rowOk at h
  simp only [Bool.and_eq_true, decide_eq_true_eq] at h
  exact Prod.ext h.2.2 h.2.1
theorem row_of {k er : Int} {s : Bs} (hd : I64 er) (h : rwT (hdR (k, er)) = (s, true)) : rowOk s = true ∧ (rowR s).1 = (k, er) := by
  have h2 := row_back hd (by rw [h])
  rw [h] at h2
  dsimp only at h2
  unfold rowOk
  rw [h2, h]
  simp
theorem rowR_I64 (s : Bs) : I64 (rowR s).1.2 := by
  unfold rowR
  dsimp only
  split
  · exact atoi_bounds _
  · exact (⟨by omega, by omega⟩ : I64 0)
/-- one line more -/
noncomputable def rstep (st : List dR) (x : Bs) : Option (List dR) :=
  if x.head? = some 62 then
    match st.getLast? with
    | some d => if sentOk x = true ∧ d.1 = 8 ∧ d.2.1 = 0 then some (st.dropLast ++ [(d.1, d.2.1, d.2.2 ++ [(sentR x).1])]) else none
    | none => none
  else if rowOk x = true then some (st ++ [hdR (rowR x).1]) else none
noncomputable def rgo : List dR → List Bs → Option (List dR)
  | st, [] => some st
  | st, x :: r => (rstep st x).bind fun st' => rgo st' r
theorem rgo_app (a b : List Bs) : ∀ st, rgo st (a ++ b) = (rgo st a).bind fun st' => rgo st' b := by
  induction a with
  | nil => intro st; rfl
  | cons x a ih =>
    intro st
    show (rstep st x).bind _ = ((rstep st x).bind _).bind _
    cases rstep st x with
    | none => rfl
    | some st' => exact ih st'
theorem rgo_snoc {ls : List Bs} {x : Bs} {k : Nat} {st0 st : List dR} (h : rgo st0 (ls.take k) = some st) (hx : ls[k]? = some x) : rgo st0 (ls.take (k + 1)) = rstep st x := by
  rw [take_snoc hx, rgo_app, h]
  show (rgo st [x]) = _
  show (rstep st x).bind _ = _
  cases rstep st x <;> rfl
theorem rstep_len {st st' : List dR} {x : Bs} (h : rstep st x = some st') : st'.length ≤ st.length + 1 ∧ (∀ n, (∀ d ∈ st, d.2.2.length ≤ n) → ∀ d ∈ st', d.2.2.length ≤ n + 1) := by
  unfold rstep at h
  split at h
  · cases hl : st.getLast? with
    | none => rw [hl] at h; cases h
    | some d =>
      rw [hl] at h
      dsimp only at h
      split at h
      · cases h
        refine ⟨by simp, fun n hn y hy => ?_⟩
        rcases List.mem_append.1 hy with hy | hy
        · exact Nat.le_succ_of_le (hn y (List.dropLast_subset _ hy))
        · rw [List.mem_singleton.1 hy]
          have := hn d (List.mem_of_getLast? hl)
          simp; omega
      · cases h
  · split at h
    · cases h
      refine ⟨by simp, fun n hn y hy => ?_⟩
      rcases List.mem_append.1 hy with hy | hy
      · exact Nat.le_succ_of_le (hn y hy)
      · rw [List.mem_singleton.1 hy]; simp
    · cases h
theorem rgo_len : ∀ (ls : List Bs) (st st' : List dR) (n : Nat), (∀ d ∈ st, d.2.2.length ≤ n) → rgo st ls = some st' → st'.length ≤ st.length + ls.length ∧ ∀ d ∈ st', d.2.2.length ≤ n + ls.length
  | [], st, st', n, hn, h => by cases h; exact ⟨by simp, fun d hd => hn d hd⟩
  | x :: r, st, st', n, hn, h => by
    cases hs : rstep st x with
    | none =>
      have h' : (rstep st x).bind (fun st' => rgo st' r) = some st' := h
      rw [hs] at h'; cases h'
    | some s1 =>
      have h' : (rstep st x).bind (fun st' => rgo st' r) = some st' := h
      rw [hs] at h'
      obtain ⟨h1, h2⟩ := rstep_len hs
      obtain ⟨h3, h4⟩ := rgo_len r s1 st' (n + 1) (h2 n hn) h'
      refine ⟨by rw [List.length_cons]; omega, fun d hd => ?_⟩
      have := h4 d hd
      rw [List.length_cons]; omega
section
variable {e : Env} {ctx rest R : List HProp} {M : Hp}
theorem row_spec {K : Value → Bool → WP} {s : Bs} (hs : s.length ≤ 1048576) (hG : GL e rest) (h : Ent e rest (K (.agg (rwC ⟨(rowR s).1.1, (rowR s).1.2, none, 0, []⟩).toArray) (rowOk s))) : Ent e rest (shell_row (ba s) K) := by
  have hts := trimS_len s [10]
  have hre := rowR_I64 s
  (refine Ent.fn shell_row_ok ?_; unfold shell_row_sh)
  refine Ent.alloc' fun t2 => ?_
  refine trimSuffix_spec (s := s) (p := [10]) (by omega) ?_
  refine Ent.woR ?_
  refine Ent.box' fun rb => ?_
  obtain ⟨z0, hz0⟩ : ∃ z0 : Rs, z0 = (Lib.trimSuffix s [10], false) := ⟨_, rfl⟩
  refine Ent.imp (ctx' := pt rb (rdC z0) :: pt t2 (rwC ⟨0, 0, none, 0, []⟩) :: rest) (by rw [hz0]; exact Imp.refl _) ?_
  have hz0l : z0.1.length ≤ s.length := by rw [hz0]; exact hts
  refine place_spec (S := kindsS) (L := kindsL) (by omega) kinds_parted (by decide) (hG.mono (by (focus (repeat (first | exact Imp.refl _ | exact Imp.nil _ | apply Imp.drop))))) ?_
  obtain ⟨k, hk⟩ : ∃ k, k = (placeR kindsL z0).1 := ⟨_, rfl⟩
  obtain ⟨z1, hz1⟩ : ∃ z1, z1 = (placeR kindsL z0).2 := ⟨_, rfl⟩
  have hz1l : z1.1.length ≤ z0.1.length := by rw [hz1]; exact (cutB_len z0.1).2
  have hev : rowR s = (if (cutB z1.1).1 = errS then let n := numR ((cutB z1.1).2, z1.2); ((k, n.1), n.2) else ((k, 0), ((cutB z1.1).2, z1.2))) := by
    rw [hk, hz1, hz0]; rfl
  rw [← hk, ← hz1]
  refine Ent.opR (st_build (out := rwC ⟨k, 0, none, 0, []⟩) rfl rfl rfl).still ?_
  refine Ent.alloc' fun xb => ?_
  refine Ent.wstoA (l' := rwC ⟨k, 0, none, 0, []⟩) ?_ (vs := rwC ⟨k, 0, none, 0, []⟩) (hl := rfl) (hu := by (repeat (first | exact Upd.hd | apply Upd.tl)))
  have hcl := cutB_len z1.1
  obtain ⟨X, hX⟩ : ∃ X : Rw, X = ⟨(rowR s).1.1, (rowR s).1.2, none, 0, []⟩ := ⟨_, rfl⟩
  refine Ent.join0 (pt xb (rwC X) :: pt rb (rdC (rowR s).2) :: pt t2 (rwC ⟨0, 0, none, 0, []⟩) :: rest) ?_ ?_
  rotate_left
  · intro j1 hj1
    refine Ent.bring (A := pt rb (rdC z1)) ?_
    refine plain_spec (by omega) ?_
    refine Ent.opB (st_eqS).still ?_
    rw [show decide (ba (cutB z1.1).1 = (⟨#[101, 114, 114, 111, 114]⟩ : ByteArray)) = decide ((cutB z1.1).1 = errS) from ba_eqb _ errS]
    refine Ent.condD (fun he => ?_) fun he => ?_
    · rw [if_pos he] at hev
      refine number_spec (by dsimp only; omega) (hG.mono (by (focus (repeat (first | exact Imp.refl _ | exact Imp.nil _ | apply Imp.drop))))) ?_
      refine Ent.wfW (l' := rwC ⟨k, (numR ((cutB z1.1).2, z1.2)).1, none, 0, []⟩) ?_ (hl := rfl) (hu := by (repeat (first | exact Upd.hd | apply Upd.tl)))
      refine hj1.imp ?_
      rw [hX, hev]
      (focus ((repeat ((with_reducible apply Imp.pick); (repeat (first | exact Pick.hd | apply Pick.tl)))); (repeat (first | exact Imp.refl _ | exact Imp.nil _ | apply Imp.drop)); done))
    · rw [if_neg he] at hev
      refine hj1.imp ?_
      rw [hX, hev]
      (focus ((repeat ((with_reducible apply Imp.pick); (repeat (first | exact Pick.hd | apply Pick.tl)))); (repeat (first | exact Imp.refl _ | exact Imp.nil _ | apply Imp.drop)); done))
  have hXr : RwR (pt xb (rwC X) :: pt rb (rdC (rowR s).2) :: pt t2 (rwC ⟨0, 0, none, 0, []⟩) :: rest) X := by
    rw [hX]
    exact ⟨hre, Rd.nil _, fun y hy => (by cases hy), by simp⟩
  refine Ent.wlA (cs := rwC X) ?_
  refine rowtext_spec (x := X) hXr (hG.mono (by (focus (repeat (first | exact Imp.refl _ | exact Imp.nil _ | apply Imp.drop))))) ?_
  have hd : dRw X = hdR (rowR s).1 := by rw [hX]; rfl
  rw [hd]
  refine Ent.draw [pt xb (rwC X), pt rb (rdC (rowR s).2)] (by (focus ((repeat ((with_reducible apply Imp.pick); (repeat (first | exact Pick.hd | apply Pick.tl)))); (repeat (first | exact Imp.refl _ | exact Imp.nil _ | apply Imp.drop)); done))) ?_
  refine Ent.stR (v := .agg (rwC X).toArray) (st_loadA (n := 3) (cs := rwC X) .hd rfl rfl rfl) ?_
  refine Ent.whB ?_
  have fin : ∀ v, v = rowOk s → Ent e (pt xb (rwC X) :: pt rb (rdC (rowR s).2) :: pt t2 (rwC X) :: rest) (K (.agg (rwC X).toArray) v) := fun v hv => by
    rw [hv, hX]
    exact h.imp (by (focus ((repeat ((with_reducible apply Imp.pick); (repeat (first | exact Pick.hd | apply Pick.tl)))); (repeat (first | exact Imp.refl _ | exact Imp.nil _ | apply Imp.drop)); done)))
  refine Ent.cond (fun hb => ?_) fun hb => ?_
  · have hb' : (rowR s).2.2 = false := by simpa using hb
    refine Ent.cond (fun ho => ?_) fun ho => ?_
    · refine Ent.puB st_eqS ?_
      refine Ent.wstoA (l' := rwC X) ?_ (vs := rwC X) (hl := rfl) (hu := by (repeat (first | exact Upd.hd | apply Upd.tl)))
      refine Ent.wand ?_
      refine Ent.wrA ?_
      refine fin _ ?_
      unfold rowOk
      rw [hb', ho, ba_eqb]; rfl
    · refine Ent.wstoA (l' := rwC X) ?_ (vs := rwC X) (hl := rfl) (hu := by (repeat (first | exact Upd.hd | apply Upd.tl)))
      refine Ent.wand ?_
      refine Ent.wrA ?_
      refine fin _ ?_
      unfold rowOk
      rw [ho]; simp
  · have hb' : (rowR s).2.2 = true := by simpa using hb
    refine Ent.wstoA (l' := rwC X) ?_ (vs := rwC X) (hl := rfl) (hu := by (repeat (first | exact Upd.hd | apply Upd.tl)))
    refine Ent.wand ?_
    refine Ent.wrA ?_
    refine fin _ ?_
    unfold rowOk
    rw [hb']; rfl
end
end Go.Proofs.YtoneapgooihajaaGreatDoor.Qa
