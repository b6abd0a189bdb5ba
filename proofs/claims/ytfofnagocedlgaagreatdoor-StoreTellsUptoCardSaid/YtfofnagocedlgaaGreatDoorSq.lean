/-
  THE STORE (layer 21): Put, whole.
-/
import Derived.Test.YtfofnagocedlgaaGreatDoorSp
set_option maxRecDepth 100000
set_option linter.unusedVariables false
set_option linter.unusedSectionVars false
set_option linter.unusedSimpArgs false
set_option maxHeartbeats 0
namespace Go.Proofs.YtfofnagocedlgaaGreatDoor.Tx
open Go Sh Sl
open Go.RowKit
attribute [local irreducible] condK ArK NilK OpK FnK StK joinK loopK DrawK andK PuK NxK EnK vS uS bS callS invokeS
section
variable {e : Env} {ctx ctx' rest R : List HProp} {M : Hp} {b : Nat} {X : List (Option Et)} {tr kp : List Int} {bytes most n : Nat}
theorem put_c1 {R : List HProp} {x z : Et} {eb : Nat} {k : Bool → WP} (hx : RdE R x) (hz : RdE R z) (bx : EB x) (bz : EB z) (h : Ent e ([pt eb (ec x)] ++ R) (k (pdP x z))) :
    Ent e ([pt eb (ec x)] ++ R) (FnK P (.one .bool) 38 (#[.agg (ec z).toArray] ++ [ptr eb].toArray) k) := by
  have h5 := bx.w
  have g5 := bz.w
  have hfl := fsz_len x.wl
  have gfl := fsz_len z.wl
  refine Ent.fn (sh := store_Store_Put_c1_sh (.agg (ec z).toArray) (ptr eb) k) (fun w h => store_Store_Put_c1_ok w h) ?_
  show Ent e (pt eb (ec x) :: R) _
  refine Ent.box' fun zb => ?_
  (refine Ent.go ?_)
  by_cases h1 : z.url = x.url
  · refine Ent.wT ?_ (decide_eq_true (by rw [h1]))
    (refine Ent.go ?_)
    refine vary_same_spec hz.w.tl.tl hx.w.tl.tl (by omega) (by omega) ?_
    have : decide (z.wl = x.wl) = pdP x z := by unfold pdP; rw [decide_eq_true h1]; rfl
    rw [this]
    exact Ent.imp (by show Imp _ (_ :: R); (focus ((repeat ((with_reducible apply Imp.pick); (repeat (first | exact Pick.hd | apply Pick.tl)))); (repeat (first | exact Imp.refl _ | exact Imp.nil _ | apply Imp.drop)); done))) h
  · refine Ent.wF ?_ (decide_eq_false fun hh => h1 (ba_inj.1 hh))
    have : pdP x z = false := by unfold pdP; rw [decide_eq_false h1]; rfl
    rw [← this]
    exact Ent.imp (by show Imp _ (_ :: R); (focus ((repeat ((with_reducible apply Imp.pick); (repeat (first | exact Pick.hd | apply Pick.tl)))); (repeat (first | exact Imp.refl _ | exact Imp.nil _ | apply Imp.drop)); done))) h
theorem SRep.ok {p : WP} (h : SOk M X tr kp bytes most → (tr ++ kp).Nodup → (∀ x, x ∈ tr ++ kp → 0 ≤ x ∧ x < 64) → Ent e (SRep M b X tr kp bytes most n :: rest) p) : Ent e (SRep M b X tr kp bytes most n :: rest) p :=
  SRep.open fun lb hk => Ent.imp (Imp.perm (.swap _ _ _)) (Lr.LRep.ok fun ⟨m, t, hok⟩ _ => Ent.imp ((Imp.perm (.swap _ _ _)).trans (SRep.shut hk)) (h hk hok.nd (fun x hx => hok.ids x hx)))
theorem evS_step {bytes most sz f : Nat} {s : St3} (h : full most bytes sz s = true) : evS most bytes sz (f + 1) s = evS most bytes sz f (ev1 s) := by simp [evS, h]
theorem evS_stop {bytes most sz f : Nat} {s : St3} (h : full most bytes sz s = false) : evS most bytes sz (f + 1) s = s := by simp [evS, h]
theorem put_spec {K : Int → WP} {x : Et} (hr : RdE rest x) (hb : EB x) (hn : n < 4503599627370496)
    (h7 : (size x > bytes ∨ most = 0) → Ent e (SRep M b (gone3 (pdP x) ⟨X, tr, kp⟩).X (gone3 (pdP x) ⟨X, tr, kp⟩).tr (gone3 (pdP x) ⟨X, tr, kp⟩).kp bytes most n :: Sl.ro M :: rest) (K 7))
    (h0 : ∀ M' y, Hp.le M M' → dE y = dE x → RdEM M' y → size x ≤ bytes → 0 < most → ∀ s2, s2 = evS most bytes (size x) 65 (gone3 (pdP x) ⟨X, tr, kp⟩) → full most bytes (size x) s2 = false →
      Ent e (SRep M' b (s2.X.set (free s2.X) (some y)) ((free s2.X : Int) :: s2.tr) s2.kp bytes most (n + 1) :: Sl.ro M' :: rest) (K 0)) :
    Ent e (SRep M b X tr kp bytes most n :: Sl.ro M :: rest) (store_Store_Put (ptr b) (.agg (ec x).toArray) K) := by
  have hsz := size_b hb
  (refine Ent.fn store_Store_Put_ok ?_; unfold store_Store_Put_sh)
  refine Ent.box' fun eb => ?_
  refine Ent.join ?_
  refine Ent.opB (by apply Pu.still; exact st_nilP rfl (.inr rfl)) ?_
  refine Ent.wF ?_ rfl
  refine Ent.bring (A := SRep M b X tr kp bytes most n) ?_
  refine SRep.open fun lb hk => ?_
  refine nRat (off := 640) rfl rfl .hd (SC_list hk.len) ?_
  refine Ent.opB (by apply Pu.still; exact st_nilP rfl (.inr rfl)) ?_
  refine Ent.wF ?_ rfl
  refine Ent.imp (SRep.shut hk) ?_
  refine Ent.imp (ctx' := SRep M b X tr kp bytes most n :: Sl.ro M :: ([pt eb (ec x)] ++ rest)) (by show Imp _ (_ :: _ :: _ :: rest); (focus ((repeat ((with_reducible apply Imp.pick); (repeat (first | exact Pick.hd | apply Pick.tl)))); (repeat (first | exact Imp.refl _ | exact Imp.nil _ | apply Imp.drop)); done))) ?_
  refine gone_spec (cap := [ptr eb]) (pdP x) (by rfl) (fun R z k hM hR hrz hbz hk => put_c1 (hr.mono hR) (hrz.rd hM) hb hbz hk) ?_
  show Ent e (_ :: _ :: pt eb (ec x) :: rest) _
  obtain ⟨s0, hs0⟩ : ∃ s0, s0 = gone3 (pdP x) ⟨X, tr, kp⟩ := ⟨_, rfl⟩
  have eX : gX (pdP x) X 64 = s0.X := by rw [hs0]; rfl
  have etr : gL (pdP x) X 64 tr = s0.tr := by rw [hs0]; rfl
  have ekp : gL (pdP x) X 64 kp = s0.kp := by rw [hs0]; rfl
  rw [eX, etr, ekp]
  rw [← hs0] at h7 h0
  clear eX etr ekp hk
  (refine Ent.go ?_)
  refine size_spec (hr.mono (by (focus (repeat (first | exact Imp.refl _ | exact Imp.nil _ | apply Imp.drop))))) hb ?_
  refine Ent.join1 (kd := .bool) (fun v => pur (v = (decide (bytes < size x) || decide (most = 0))) :: SRep M b s0.X s0.tr s0.kp bytes most n :: Sl.ro M :: pt eb (ec x) :: rest) ?_ ?_
  rotate_left
  · intro k' hk'
    refine SRep.open fun lb hk => ?_
    have hbb := hk.by_
    refine nIat (off := 641) rfl .hd (SC_bytes hk.len) ?_
    by_cases h1 : bytes < size x
    · refine Ent.wT ?_ (decide_eq_true (by omega))
      refine Ent.imp ((SRep.shut hk).trans (Imp.pur ?_ (Imp.refl _))) (hk' _)
      rw [decide_eq_true h1]; rfl
    · refine Ent.wF ?_ (decide_eq_false (by omega))
      refine nIat (off := 642) rfl .hd (SC_most hk.len) ?_
      refine Ent.imp ((SRep.shut hk).trans (Imp.pur ?_ (Imp.refl _))) (hk' _)
      rw [decide_eq_false h1, Bool.false_or]
      by_cases h2 : most = 0
      · subst h2; rfl
      · rw [decide_eq_false h2]
        exact beq_eq_false_iff_ne.2 (by omega)
  intro v
  refine Ent.pur fun hv => ?_
  subst hv
  by_cases hbad : size x > bytes ∨ most = 0
  · refine Ent.wT ?_ (by rcases hbad with h1 | h1 <;> simp [h1])
    exact Ent.imp (by (focus ((repeat ((with_reducible apply Imp.pick); (repeat (first | exact Pick.hd | apply Pick.tl)))); (repeat (first | exact Imp.refl _ | exact Imp.nil _ | apply Imp.drop)); done))) (h7 hbad)
  have hle : size x ≤ bytes := by omega
  have hmp : 0 < most := by omega
  refine Ent.wF ?_ (by rw [decide_eq_false (by omega), decide_eq_false (by omega)]; rfl)
  refine SRep.ok fun hk0 hnd0 hid0 => ?_
  have hl0 : (s0.tr ++ s0.kp).length ≤ 64 := Lr.len_le 64 _ hnd0 hid0
  refine Ent.loop0 (fun N => exs (fun (s : St3) => sepL [pur (evS most bytes (size x) 65 s0 = evS most bytes (size x) N s ∧ s.tr.length + s.kp.length < N), SRep M b s.X s.tr s.kp bytes most n]) :: Sl.ro M :: pt eb (ec x) :: rest) 65 ?_ ?_
  · refine Imp.exs s0 (Imp.g2 (Imp.pur ⟨rfl, ?_⟩ (Imp.refl _)))
    rw [List.length_append] at hl0
    omega
  intro N K' hK
  refine Ent.exs fun s => Ent.g2 (Ent.pur fun ⟨f1, f2⟩ => ?_)
  obtain ⟨N', rfl⟩ : ∃ N', N = N' + 1 := ⟨N - 1, by omega⟩
  refine SRep.ok fun hk hnd hid => ?_
  have hus := hk.us
  have hbb := hk.by_
  refine Ent.join1 (kd := .bool) (fun v => pur (v = full most bytes (size x) s) :: SRep M b s.X s.tr s.kp bytes most n :: Sl.ro M :: pt eb (ec x) :: rest) ?_ ?_
  rotate_left
  · intro k' hk'
    refine SRep.open fun lb hk => ?_
    refine Ent.draw [pt b (SC s.X lb bytes most (used s.X))] (by (focus ((repeat ((with_reducible apply Imp.pick); (repeat (first | exact Pick.hd | apply Pick.tl)))); (repeat (first | exact Imp.refl _ | exact Imp.nil _ | apply Imp.drop)); done))) ?_
    refine hIat (off := 642) rfl .hd (SC_most hk.len) ?_
    refine count_spec hk.len .hd ?_
    refine Ent.wand ?_
    by_cases h1 : most ≤ cnt s.X
    · refine Ent.wT ?_ (decide_eq_true (by omega))
      refine Ent.imp ((SRep.shut hk).trans (Imp.pur ?_ (Imp.refl _))) (hk' _)
      unfold full; rw [decide_eq_true h1]; rfl
    · refine Ent.wF ?_ (decide_eq_false (by omega))
      refine hIat (off := 641) rfl .hd (SC_bytes hk.len) ?_
      refine hIat (off := 643) rfl .hd (SC_used hk.len) ?_
      refine Ent.ar (in_i64 (by omega) (by omega)) ?_
      refine Ent.imp ((SRep.shut hk).trans (Imp.pur ?_ (Imp.refl _))) (hk' _)
      unfold full
      rw [decide_eq_false h1, Bool.false_or]
      exact decide_eq_decide.2 (by omega)
  intro v
  refine Ent.pur fun hv => ?_
  subst hv
  cases hfl : full most bytes (size x) s with
  | true =>
    refine Ent.wT ?_
    have hne : s.tr ++ s.kp ≠ [] := by
      intro hh
      have hno : ∀ (i : Nat) z, s.X[i]? ≠ some (some z) := fun i z hz => by
        have := (hk.mem i).1 ⟨z, hz⟩
        rw [hh] at this; cases this
      obtain ⟨u1, u2⟩ := used_none hno
      unfold full at hfl
      rw [u1, u2, decide_eq_false (by omega), decide_eq_false (by omega)] at hfl
      cases hfl
    obtain ⟨v1, v2⟩ := vic_mem hne
    obtain ⟨w1, w2⟩ := hid _ v2
    obtain ⟨vi, hvi⟩ := Int.eq_ofNat_of_zero_le w1
    have hmemv := (hk.mem vi).2 (by rw [← hvi]; exact v2)
    obtain ⟨z, hz⟩ := hmemv
    refine SRep.open fun lb hk => ?_
    refine nRat (off := 640) rfl rfl .hd (SC_list hk.len) ?_
    refine Ent.bring (A := Lr.LRep lb s.tr s.kp (most * 2 / 3) n) ?_
    refine Lr.victim_spec ?_
    rw [v1, hvi]
    refine Ent.wF ?_
    refine Ent.imp ((Imp.perm (.swap _ _ _)).trans (SRep.shut hk)) ?_
    refine out_spec hz ?_
    have e1 : ev1 s = ⟨s.X.set vi none, Lr.out s.tr vi, Lr.out s.kp vi⟩ := by unfold ev1; rw [hvi, Int.toNat_natCast]
    refine Ent.imp ?_ (hK N' (by omega))
    refine Imp.exs ⟨s.X.set vi none, Lr.out s.tr vi, Lr.out s.kp vi⟩ (Imp.g2 (Imp.pur ⟨?_, ?_⟩ (Imp.refl _)))
    · rw [f1, evS_step hfl, e1]
    · dsimp only
      have h1 := out_len s.tr vi
      have h2 := out_len s.kp vi
      rw [hvi] at v2
      rcases List.mem_append.1 v2 with h3 | h3
      · have := out_lt h3; omega
      · have := out_lt h3; omega
  | false =>
    refine Ent.wF ?_
    have hfin : evS most bytes (size x) 65 s0 = s := by rw [f1, evS_stop hfl]
    have hfl2 := hfl
    unfold full at hfl2
    rw [Bool.or_eq_false_iff, decide_eq_false_iff_not, decide_eq_false_iff_not] at hfl2
    obtain ⟨g1, g2⟩ := hfl2
    have hms := hk.ms
    obtain ⟨c1, c2, c3⟩ := cnt_lt (X := s.X) (most := most) (by omega) (by rw [hk.len]; omega) hk.lt
    refine SRep.open fun lb hk => ?_
    have hX := hk.len
    refine Ent.draw [pt b (SC s.X lb bytes most (used s.X))] (by (focus ((repeat ((with_reducible apply Imp.pick); (repeat (first | exact Pick.hd | apply Pick.tl)))); (repeat (first | exact Imp.refl _ | exact Imp.nil _ | apply Imp.drop)); done))) ?_
    refine Ent.nil ?_
    refine Ent.puR (st_field (off := 0) rfl) ?_
    refine hIat (off := 642) rfl .hd (SC_most hX) ?_
    refine Ent.puR (st_slP hms) ?_
    refine ixf_spec hX .hd hms c1 c2 c3 ?_
    refine Ent.wand ?_
    refine Ent.draw [pt eb (ec x)] (by (focus ((repeat ((with_reducible apply Imp.pick); (repeat (first | exact Pick.hd | apply Pick.tl)))); (repeat (first | exact Imp.refl _ | exact Imp.nil _ | apply Imp.drop)); done))) ?_
    refine Ent.stR (v := .agg (ec x).toArray) (st_loadA (n := 9) .hd rfl rfl rfl) ?_
    refine Ent.nil ?_
    refine Ent.puR (st_field (off := 0) rfl) ?_
    refine copied_spec (hr.mono (by (focus (repeat (first | exact Imp.refl _ | exact Imp.nil _ | apply Imp.drop))))) hb fun y hy => ?_
    refine Ent.puR (v := .agg (slC (some y)).toArray) (by apply st_build; exact rfl; exact rfl; exact rfl) ?_
    refine Ent.puR (st_ixA (m := 64) (sz := 10) rfl rfl (by omega) (by omega)) ?_
    refine Ent.storeA (l := SC s.X lb bytes most (used s.X)) (vs := slC (some y)) (n := 10) (by (repeat (first | exact Upd.hd | apply Upd.tl))) rfl rfl rfl (by rw [SC_len hX, Int.toNat_natCast]; omega) ?_
    rw [Int.toNat_natCast, SC_setSlot (by omega)]
    have hX2 : (s.X.set (free s.X) (some y)).length = 64 := by rw [List.length_set]; exact hX
    refine nIat (off := 643) rfl (by (repeat (first | exact Has.hd | apply Has.tl))) (SC_used hX2) ?_
    refine Ent.ar (in_i64 (by omega) (by omega)) ?_
    refine Ent.nil ?_
    refine Ent.opR (st_field (off := 643) rfl).still ?_
    refine Ent.store (l := SC (s.X.set (free s.X) (some y)) lb bytes most (used s.X)) (by (repeat (first | exact Upd.hd | apply Upd.tl))) rfl rfl (by rw [SC_len hX2]; omega) ?_
    rw [SC_setUsed hX2]
    refine nRat (off := 640) rfl rfl (by (repeat (first | exact Has.hd | apply Has.tl))) (SC_list hX2) ?_
    have hup := used_put (x := y) c2
    have hsy := size_of hy
    have eus : ((used s.X : Int) + (size x : Int)) = ((used (s.X.set (free s.X) (some y)) : Nat) : Int) := by omega
    rw [eus]
    refine Ent.bring (A := Lr.LRep lb s.tr s.kp (most * 2 / 3) n) ?_
    have hnm : (free s.X : Int) ∉ s.tr ++ s.kp := fun hh => by
      obtain ⟨z, hz⟩ := (hk.mem (free s.X)).2 hh
      rw [c2] at hz; cases hz
    refine Lr.add_spec hn (fun hh => absurd ?_ hh) fun _ _ _ => ?_
    · unfold Lr.addC
      rw [if_neg (by omega), if_neg hnm]
    refine Ent.imp (ctx' := OwnE y (Sl.ro M :: Lr.LRep lb ((free s.X : Int) :: s.tr) s.kp (most * 2 / 3) (n + 1) :: pt b (SC (s.X.set (free s.X) (some y)) lb bytes most (used (s.X.set (free s.X) (some y)) : Nat)) :: pt eb (ec x) :: rest)) (by (focus ((repeat ((with_reducible apply Imp.pick); (repeat (first | exact Pick.hd | apply Pick.tl)))); (repeat (first | exact Imp.refl _ | exact Imp.nil _ | apply Imp.drop)); done))) ?_
    refine keepE fun M' hl hry => ?_
    refine Ent.imp ?_ (h0 M' y hl hy hry hle hmp s hfin.symm hfl)
    refine Imp.trans ?_ (SRep.shut (lb := lb) ((hk.mono hl).put c2 c1 hry (EB.of hy hb) (by omega)))
    (focus ((repeat ((with_reducible apply Imp.pick); (repeat (first | exact Pick.hd | apply Pick.tl)))); (repeat (first | exact Imp.refl _ | exact Imp.nil _ | apply Imp.drop)); done))
end
end Go.Proofs.YtfofnagocedlgaaGreatDoor.Tx
