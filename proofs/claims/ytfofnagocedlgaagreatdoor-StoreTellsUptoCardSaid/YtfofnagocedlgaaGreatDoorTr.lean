/-
  TEXT (layer 2): the document's List.
-/
import Derived.Test.YtfofnagocedlgaaGreatDoorTl
set_option maxRecDepth 100000
set_option linter.unusedVariables false
set_option linter.unusedSectionVars false
set_option linter.unusedSimpArgs false
set_option maxHeartbeats 0
namespace Go.Proofs.YtfofnagocedlgaaGreatDoor.Tx
open Go Sh Sl
attribute [local irreducible] condK ArK NilK OpK FnK StK joinK loopK DrawK andK PuK NxK EnK vS uS bS callS invokeS
theorem fold_next {l : Bs} {p : Nat} {c : UInt8} {s : Ls} (h : l[p]? = some c) (hf : (l.take p).foldl stp l0 = s) : (l.take (p + 1)).foldl stp l0 = stp s c := by
  rw [List.take_add_one, h]
  show List.foldl stp l0 (List.take p l ++ [c]) = _
  rw [List.foldl_append, hf]; rfl
section
variable {e : Env} {ctx ctx' rest : List HProp}
theorem ref_quoted_spec {K : Int → WP} {l : Bs} {p fr : Nat} {out : List Bs} {c0 : UInt8} (hl : l.length ≤ 1099511627776) (hc0 : l[p]? = some c0) (h34 : c0.toNat = 34) (hf : (l.take p).foldl stp l0 = ⟨false, false, (l.take p).drop fr, out⟩) (hfr : fr ≤ p)
    (h : ∀ r : Nat, p < r → r ≤ l.length → (∃ q m, (l.take r).foldl stp l0 = ⟨q, m, (l.take r).drop fr, out⟩ ∧ (r < l.length → q = false ∧ m = false)) → Ent e rest (K r)) : Ent e rest (ref02_quoted (ba l) p K) := by
  have hp := (List.getElem?_eq_some_iff.1 hc0).1
  (refine Ent.fn ref02_quoted_ok ?_; unfold ref02_quoted_sh)
  (refine Ent.go ?_)
  have hsz : ((ba l).size : Int) = l.length := by simp [ba, ByteArray.size]
  have f0 : (l.take (p + 1)).foldl stp l0 = ⟨true, false, (l.take (p + 1)).drop fr, out⟩ := by
    rw [fold_next hc0 hf, drop_snoc hc0 hfr]
    unfold stp
    simp only [Bool.false_eq_true, if_false, Bool.false_and]
    rw [if_pos h34]; rfl
  refine Ent.loop1 (k0 := .int .i64) (fun N v => exs (fun (k : Nat) => sepL [pur (v = (k : Int) ∧ p < k ∧ ((k ≤ l.length ∧ (l.take k).foldl stp l0 = ⟨true, false, (l.take k).drop fr, out⟩) ∨ (k = l.length + 1 ∧ (l.take l.length).foldl stp l0 = ⟨true, true, (l.take l.length).drop fr, out⟩)) ∧ N = l.length + 1 - k)]) :: rest) (l.length + 1 - (p + 1)) ?_ ?_
  · exact Imp.exs (p + 1) (Imp.g1 (Imp.pur ⟨by simp, by omega, .inl ⟨by omega, f0⟩, rfl⟩ (Imp.refl _)))
  intro N K' hK v
  refine Ent.exs fun k => Ent.g1 (Ent.pur fun ⟨f1, f2, f3, f4⟩ => ?_)
  subst f1 f4
  refine Ent.join ?_
  refine Ent.wlenB ?_
  rcases f3 with ⟨g1, g2⟩ | ⟨g1, g2⟩
  · by_cases hk : k < l.length
    · obtain ⟨c, hc⟩ : ∃ c, l[k]? = some c := ⟨_, List.getElem?_eq_getElem hk⟩
      have hc' : l[(k : Int).toNat]? = some c := by rw [Int.toNat_natCast]; exact hc
      refine Ent.wT ?_ (decide_eq_true (by omega))
      refine ixB (t := 0) (by omega) hc' ?_
      have hn := fold_next hc g2
      have hcur := drop_snoc hc (by omega : fr ≤ k)
      by_cases y34 : c.toNat = 34
      · refine Ent.wF ?_ (by rw [y34]; rfl)
        refine Ent.wlenB ?_
        refine Ent.wF ?_ (decide_eq_false (by omega))
        refine Ent.ar (in_i64 (by omega) (by omega)) ?_
        have e1 : (k : Int) + 1 = ((k + 1 : Nat) : Int) := by omega
        rw [e1]
        refine h (k + 1) (by omega) (by omega) ⟨false, false, ?_, fun _ => ⟨rfl, rfl⟩⟩
        rw [hn, hcur]
        unfold stp
        have h92 : ¬ c.toNat = 92 := by omega
        simp only [Bool.false_eq_true, if_false, h92, decide_false, Bool.and_false]
        rw [if_pos y34]; rfl
      · refine Ent.wT ?_ (bne_iff_ne.2 (by omega))
        refine ixB (t := 0) (by omega) hc' ?_
        refine Ent.condE (fun y92 => ?_) fun n92 => ?_
        · have z92 : c.toNat = 92 := by omega
          refine Ent.ar (in_i64 (by omega) (by omega)) ?_
          refine Ent.ar (in_i64 (by omega) (by omega)) ?_
          have e1 : (k : Int) + 1 + 1 = ((k + 2 : Nat) : Int) := by omega
          rw [e1]
          have hs1 : (l.take (k + 1)).foldl stp l0 = ⟨true, true, (l.take (k + 1)).drop fr, out⟩ := by
            rw [hn, hcur]
            unfold stp
            simp only [Bool.false_eq_true, if_false, z92, decide_true, Bool.and_self, if_true]
          refine Ent.imp ?_ (hK (l.length + 1 - (k + 2)) (by omega) _)
          refine Imp.exs (k + 2) (Imp.g1 (Imp.pur ⟨rfl, by omega, ?_, rfl⟩ (Imp.refl _)))
          by_cases hk1 : k + 1 < l.length
          · obtain ⟨d, hd⟩ : ∃ d, l[k + 1]? = some d := ⟨_, List.getElem?_eq_getElem hk1⟩
            refine .inl ⟨by omega, ?_⟩
            rw [fold_next hd hs1, drop_snoc hd (by omega : fr ≤ k + 1)]
            rfl
          · have e2 : k + 1 = l.length := by omega
            refine .inr ⟨by omega, ?_⟩
            rw [← e2]; exact hs1
        · have h92 : ¬ c.toNat = 92 := by omega
          refine Ent.ar (in_i64 (by omega) (by omega)) ?_
          have e1 : (k : Int) + 1 = ((k + 1 : Nat) : Int) := by omega
          rw [e1]
          refine Ent.imp ?_ (hK (l.length + 1 - (k + 1)) (by omega) _)
          refine Imp.exs (k + 1) (Imp.g1 (Imp.pur ⟨rfl, by omega, .inl ⟨by omega, ?_⟩, rfl⟩ (Imp.refl _)))
          rw [hn, hcur]
          unfold stp
          simp only [Bool.false_eq_true, if_false, h92, decide_false, Bool.and_false, y34, Bool.true_eq_false, and_false]
    · have hkl : k = l.length := by omega
      subst hkl
      refine Ent.wF ?_ (decide_eq_false (by omega))
      refine Ent.wF ?_ rfl
      refine Ent.wlenB ?_
      refine Ent.wT ?_ (decide_eq_true (by omega))
      refine Ent.wlenB ?_
      exact h _ f2 (Nat.le_refl _) ⟨true, false, g2, fun hh => absurd hh (Nat.lt_irrefl _)⟩
  · subst g1
    refine Ent.wF ?_ (decide_eq_false (by omega))
    refine Ent.wF ?_ rfl
    refine Ent.wlenB ?_
    refine Ent.wT ?_ (decide_eq_true (by omega))
    refine Ent.wlenB ?_
    exact h _ hp (Nat.le_refl _) ⟨true, true, g2, fun hh => absurd hh (Nat.lt_irrefl _)⟩
theorem ref_list_spec {K : Value → WP} {l : Bs} (hl : l.length ≤ 1099511627776) (h : ∀ a c, Ent e (SlO a (lst l).length c 1 (ss (lst l)) :: rest) (K (.slice a (lst l).length c))) : Ent e rest (ref02_List (ba l) K) := by
  (refine Ent.fn ref02_List_ok ?_; unfold ref02_List_sh)
  have hout : ∀ p, (l.take p |>.foldl stp l0).out.length ≤ l.length := fun p => by
    have := fold_tot (l.take p) l0
    have h3 : (l.take p).length ≤ l.length := by simp; omega
    simp [tot] at this
    omega
  refine Ent.loop3 (k0 := .raw) (k1 := .int .i64) (k2 := .int .i64) (fun N v fv pv => exs (fun (y : Nat × Nat × List Bs × Option Addr × Nat) => sepL [pur (v = .slice y.2.2.2.1 y.2.2.1.length y.2.2.2.2 ∧ fv = (y.2.1 : Int) ∧ pv = (y.1 : Int) ∧ ((y.1 ≤ l.length ∧ y.2.1 ≤ y.1 ∧ ∃ q m, (l.take y.1).foldl stp l0 = ⟨q, m, (l.take y.1).drop y.2.1, y.2.2.1⟩ ∧ (y.1 < l.length → q = false ∧ m = false)) ∨ (y.1 = l.length + 1 ∧ y.2.2.1 = lst l)) ∧ N = l.length + 1 - y.1), SlO y.2.2.2.1 y.2.2.1.length y.2.2.2.2 1 (ss y.2.2.1)]) :: rest) (l.length + 1) ?_ ?_
  · refine Imp.exs (0, 0, [], none, 0) (Imp.g2 (Imp.pur ⟨rfl, rfl, rfl, .inl ⟨Nat.zero_le _, Nat.le_refl _, false, false, by simp, fun _ => ⟨rfl, rfl⟩⟩, rfl⟩ ?_))
    exact Imp.slN (Imp.refl _)
  intro N K' hK v fv pv
  refine Ent.exs fun ⟨p, fr, out, a, c⟩ => Ent.g2 (Ent.pur fun ⟨f1, f2, f3, f4, f5⟩ => ?_)
  dsimp only at f1 f2 f3 f4 f5
  dsimp only
  subst f1 f2 f3 f5
  refine Ent.wlenB ?_
  rcases f4 with ⟨g1, g2, q, m, g3, g4⟩ | ⟨g1, g2⟩
  rotate_left
  · subst g1 g2
    refine Ent.wF ?_ (decide_eq_false (by omega))
    exact h a c
  have hol : out.length ≤ l.length := by have := hout p; rw [g3] at this; exact this
  refine Ent.wT ?_ (decide_eq_true (by omega))
  refine Ent.join ?_
  refine Ent.wlenB ?_
  obtain ⟨cur, hcurd⟩ : ∃ cur, cur = (l.take p).drop fr := ⟨_, rfl⟩
  have hcl : cur.length ≤ l.length := by rw [hcurd]; simp; omega
  -- a part ends here
  have ends : (∀ a2 c2, Ent e (SlO a2 (emit cur out).length c2 1 (ss (emit cur out)) :: rest) (K' (.slice a2 (emit cur out).length c2) ((p + 1 : Nat) : Int) ((p + 1 : Nat) : Int))) →
      Ent e (SlO a out.length c 1 (ss out) :: rest) (oS (vS (Instr.sliceAt 9 (.string (ba l)) (some (.int .i64 (fr : Int))) (some (.int .i64 (p : Int))) none)) fun t37 =>
       ref02_Trim t37 fun t38 =>
       oB (bS .neq 9 (.tmp 39) (.const (.string (⟨#[]⟩ : ByteArray))) (.string t38) (.string (⟨#[]⟩ : ByteArray))) fun t40 =>
       condK t40
       (oR (vS (Instr.buildSlice 61 1 #[(0, (.string t38))])) fun t43 =>
       app 61 61 61 (.slice a out.length c) t43 fun t44 =>
       ArK .i64 ((p : Int) + 1) fun t46 =>
       ArK .i64 ((p : Int) + 1) fun t48 =>
       K' t44 t46 t48)
       (ArK .i64 ((p : Int) + 1) fun t46_1 =>
       ArK .i64 ((p : Int) + 1) fun t48_1 =>
       K' (.slice a out.length c) t46_1 t48_1)) := by
    intro hk
    refine Ent.opS (st_slSB (by omega) (by omega) (by omega)).still ?_
    rw [Int.toNat_natCast, Int.toNat_natCast, ← hcurd]
    refine ref_trim_spec (by omega) ?_
    have e0 : (p : Int) + 1 = ((p + 1 : Nat) : Int) := by omega
    by_cases ht : trim cur = []
    · have e1 : emit cur out = out := by unfold emit; rw [if_pos ht]
      rw [e1] at hk
      (refine Ent.go ?_)
      refine Ent.wF ?_ (by rw [decide_eq_true (ba_nil.2 ht)]; rfl)
      (refine Ent.go ?_)
      exact hk a c
    · have e1 : emit cur out = out ++ [trim cur] := by unfold emit; rw [if_neg ht]
      rw [e1] at hk
      (refine Ent.go ?_)
      refine Ent.wT ?_ (by rw [decide_eq_false (fun hh => ht (ba_nil.1 hh))]; rfl)
      refine Ent.app1 (fun a2 c2 => ?_)
      (refine Ent.go ?_)
      have := hk a2 c2
      have e2 : (out ++ [trim cur]).length = out.length + 1 := by simp
      rw [e2, ss_app] at this
      exact this
  by_cases hp : p < l.length
  · obtain ⟨rfl, rfl⟩ := g4 hp
    obtain ⟨x, hx⟩ : ∃ x, l[p]? = some x := ⟨_, List.getElem?_eq_getElem hp⟩
    have hx' : l[(p : Int).toNat]? = some x := by rw [Int.toNat_natCast]; exact hx
    have hn := fold_next hx g3
    refine Ent.wT ?_ (decide_eq_true (by omega))
    refine ixB (t := 0) (by omega) hx' ?_
    refine Ent.condE (fun y34 => ?_) fun n34 => ?_
    · refine ref_quoted_spec hl hx (by omega) g3 g2 fun r hr1 hr2 hr3 => ?_
      refine Ent.imp ?_ (hK (l.length + 1 - r) (by omega) _ _ _)
      exact Imp.exs (r, fr, out, a, c) (Imp.g2 (Imp.pur ⟨rfl, rfl, rfl, .inl ⟨hr2, (by dsimp only; omega), hr3⟩, rfl⟩ (Imp.refl _)))
    · have m34 : ¬ x.toNat = 34 := by omega
      refine Ent.join ?_
      refine Ent.wlenB ?_
      refine Ent.wF ?_ (beq_eq_false_iff_ne.2 (by omega))
      refine ixB (t := 0) (by omega) hx' ?_
      refine Ent.condE (fun y44 => ?_) fun n44 => ?_
      · have z44 : x.toNat = 44 := by omega
        refine ends fun a2 c2 => ?_
        refine Ent.imp ?_ (hK (l.length + 1 - (p + 1)) (by omega) _ _ _)
        refine Imp.exs (p + 1, p + 1, emit cur out, a2, c2) (Imp.g2 (Imp.pur ⟨rfl, rfl, rfl, .inl ⟨by omega, Nat.le_refl _, false, false, ?_, fun _ => ⟨rfl, rfl⟩⟩, rfl⟩ (Imp.refl _)))
        rw [hn]
        have : (l.take (p + 1)).drop (p + 1) = [] := List.drop_eq_nil_of_le (by simp; omega)
        rw [this, hcurd]
        unfold stp
        simp only [Bool.false_eq_true, if_false, Bool.false_and, m34]
        rw [if_pos ⟨z44, trivial⟩]
      · have m44 : ¬ x.toNat = 44 := by omega
        (refine Ent.go ?_)
        have e0 : (p : Int) + 1 = ((p + 1 : Nat) : Int) := by omega
        rw [e0]
        refine Ent.imp ?_ (hK (l.length + 1 - (p + 1)) (by omega) _ _ _)
        refine Imp.exs (p + 1, fr, out, a, c) (Imp.g2 (Imp.pur ⟨rfl, rfl, rfl, .inl ⟨by omega, (by dsimp only; omega), false, false, ?_, fun _ => ⟨rfl, rfl⟩⟩, rfl⟩ (Imp.refl _)))
        rw [hn, drop_snoc hx g2]
        unfold stp
        simp only [Bool.false_eq_true, if_false, Bool.false_and, m34, m44, false_and]
  · have hpl : p = l.length := by omega
    refine Ent.wF ?_ (decide_eq_false (by omega))
    refine Ent.wF ?_ rfl
    refine Ent.join ?_
    refine Ent.wlenB ?_
    refine Ent.wT ?_ (beq_iff_eq.2 (by omega))
    refine Ent.wT ?_ rfl
    refine ends fun a2 c2 => ?_
    refine Ent.imp ?_ (hK (l.length + 1 - (p + 1)) (by omega) _ _ _)
    refine Imp.exs (p + 1, p + 1, emit cur out, a2, c2) (Imp.g2 (Imp.pur ⟨rfl, rfl, rfl, .inr ⟨by omega, ?_⟩, rfl⟩ (Imp.refl _)))
    rw [hcurd, hpl, List.take_of_length_le (Nat.le_refl _)]
    rw [hpl, List.take_of_length_le (Nat.le_refl _)] at g3
    unfold lst
    dsimp only
    rw [g3]
end
end Go.Proofs.YtfofnagocedlgaaGreatDoor.Tx
