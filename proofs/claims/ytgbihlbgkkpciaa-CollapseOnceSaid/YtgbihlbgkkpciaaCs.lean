/-
  COLLAPSE (layer 24): slices.Sort of at most twelve ints.
-/
import Derived.Test.YtgbihlbgkkpciaaCo
import Derived.Test.YtgbihlbgkkpciaaRv
set_option maxRecDepth 100000
set_option linter.unusedVariables false
set_option linter.unusedSectionVars false
set_option linter.unusedSimpArgs false
set_option maxHeartbeats 0
namespace Go.Proofs.Ytgbihlbgkkpciaa.Co
open Go Sh Sl
attribute [local irreducible] condK ArK NilK OpK FnK StK joinK loopK DrawK andK PuK NxK EnK vS uS bS callS invokeS
section
variable {e : Env} {ctx rest : List HProp}
def gt (l : List Int) (i : Nat) : Int := l.getD i 0
theorem gt_at {l : List Int} {i : Nat} (h : i < l.length) : l[i]? = some (gt l i) := by simp [gt, List.getD, h]
theorem less_spec {K : Bool → WP} {x y : Int} (h : Ent e rest (K (decide (x < y)))) : Ent e rest (cmp_Less_int x y K) := by
  (refine Ent.fn cmp_Less_int_ok ?_; unfold cmp_Less_int_sh)
  (refine Ent.fn cmp_isNaN_int_ok ?_; unfold cmp_isNaN_int_sh)
  refine Ent.condF (by simp) ?_
  exact h
/-- x is being brought to its place: at j, behind it up to i what is greater -/
structure Ins (l l' : List Int) (i j : Nat) : Prop where
  perm : l'.Perm l
  ji : j ≤ i
  srt : ∀ p q, p < q → q ≤ i → p ≠ j → q ≠ j → gt l' p ≤ gt l' q
  up : ∀ q, j < q → q ≤ i → gt l' j < gt l' q
def Srt (l' : List Int) (i : Nat) : Prop := ∀ p q, p < q → q < i → gt l' p ≤ gt l' q
theorem Ins.done {l l' : List Int} {i j : Nat} (h : Ins l l' i j) (hs : 0 < j → ¬ gt l' j < gt l' (j - 1)) : Srt l' (i + 1) := fun p q h1 h2 => by
  by_cases hp : p = j
  · subst hp; exact Int.le_of_lt (h.up q h1 (by omega))
  · by_cases hq : q = j
    · subst hq
      have h3 := hs (by omega)
      by_cases hp1 : p = q - 1
      · subst hp1; omega
      · have := h.srt p (q - 1) (by omega) (by omega) hp (by omega)
        omega
    · exact h.srt p q h1 (by omega) hp hq
def sw (l : List Int) (j : Nat) : List Int := (l.set j (gt l (j - 1))).set (j - 1) (gt l j)
theorem sw_ii {l : List Int} {j : Nat} {r : List Value} (h : j < l.length) : ii (sw l j) ++ r = ((ii l ++ r).set j (.int .i64 (gt l (j - 1)))).set (j - 1) (.int .i64 (gt l j)) := by
  rw [List.set_append_left _ _ (by simpa using h), List.set_append_left _ _ (by simp; omega)]
  simp [ii, sw, List.map_set]
theorem gt_set {l : List Int} {i j : Nat} {v : Int} (h : i < l.length) : gt (l.set i v) j = if j = i then v else gt l j := by
  unfold gt
  rw [List.getD_eq_getElem?_getD, List.getD_eq_getElem?_getD, List.getElem?_set]
  by_cases e : i = j
  · subst e; simp [h]
  · simp [e, Ne.symm e]
theorem gt_sw {l : List Int} {j p : Nat} (h : j < l.length) (h0 : 0 < j) : gt (sw l j) p = if p = j - 1 then gt l j else if p = j then gt l (j - 1) else gt l p := by
  unfold sw
  rw [gt_set (by simp; omega), gt_set h]
theorem sw_perm {l : List Int} {j : Nat} (h : j < l.length) (h0 : 0 < j) : (sw l j).Perm l := by
  have e1 : gt l j = l[j] := by simp [gt, h]
  have e2 : gt l (j - 1) = l[j - 1]'(by omega) := by simp [gt, show j - 1 < l.length by omega]
  unfold sw
  rw [e1, e2]
  exact List.set_set_perm h (by omega)
theorem Ins.swap {l l' : List Int} {i j : Nat} (h : Ins l l' i j) (h0 : 0 < j) (hl : j < l'.length) (hlt : gt l' j < gt l' (j - 1)) : Ins l (sw l' j) i (j - 1) := by
  have hji := h.ji
  refine ⟨(sw_perm hl h0).trans h.perm, by omega, fun p q h1 h2 h3 h4 => ?_, fun q h1 h2 => ?_⟩
  · rw [gt_sw hl h0, gt_sw hl h0, if_neg h3, if_neg h4]
    by_cases hp : p = j
    · subst hp
      rw [if_pos rfl, if_neg (by omega)]
      exact h.srt _ _ (by omega) h2 (by omega) (by omega)
    · rw [if_neg hp]
      by_cases hq : q = j
      · subst hq
        rw [if_pos rfl]
        exact h.srt _ _ (by omega) (by omega) hp (by omega)
      · rw [if_neg hq]; exact h.srt _ _ h1 h2 hp hq
  · rw [gt_sw hl h0, gt_sw hl h0, if_pos rfl, if_neg (by omega)]
    by_cases hq : q = j
    · rw [if_pos hq]; exact hlt
    · rw [if_neg hq]; exact h.up q (by omega) h2
theorem ins_spec {K : Value → WP} {b n c : Nat} {l : List Int} {r : List Value} (hn : l.length = n) (hb : n ≤ 65536) (h : ∀ l' : List Int, l'.Perm l → Srt l' n → Ent e (pt b (ii l' ++ r) :: rest) (K (.tuple #[]))) :
    Ent e (pt b (ii l ++ r) :: rest) (slices_insertionSortOrdered_int (.slice (some ⟨b, 0, none⟩) n c) 0 n K) := by
  (refine Ent.fn slices_insertionSortOrdered_int_ok ?_; unfold slices_insertionSortOrdered_int_sh)
  (refine Ent.go ?_)
  refine Ent.loop1 (k0 := .int .i64) (fun N v => exs (fun (x : List Int × Nat) => sepL [pur (v = (x.2 : Int) ∧ x.1.Perm l ∧ Srt x.1 x.2 ∧ 1 ≤ x.2 ∧ x.2 ≤ n + 1 ∧ N = n + 1 - x.2), pt b (ii x.1 ++ r)]) :: rest) n ?_ ?_
  · exact Imp.exs (l, 1) (Imp.g2 (Imp.pur ⟨by simp, .refl _, fun p q h1 h2 => by omega, by simp, by simp, by simp⟩ (Imp.refl _)))
  intro N K' hK v
  refine Ent.exs fun ⟨l1, i⟩ => Ent.g2 (Ent.pur fun ⟨f1, f2, f3, f4, f5, f6⟩ => ?_)
  dsimp only at f1 f2 f3 f4 f5 f6
  subst f1 f6
  dsimp only
  have hl1 := f2.length_eq
  by_cases hi : i < n
  · (refine Ent.go ?_)
    refine Ent.loop1 (k0 := .int .i64) (fun N v => exs (fun (x : List Int × Nat) => sepL [pur (v = (x.2 : Int) ∧ Ins l x.1 i x.2 ∧ N = x.2), pt b (ii x.1 ++ r)]) :: rest) i ?_ ?_
    · exact Imp.exs (l1, i) (Imp.g2 (Imp.pur ⟨by simp, ⟨f2, Nat.le_refl _, fun p q h1 h2 h3 h4 => f3 p q h1 (by omega), fun q h1 h2 => by omega⟩, rfl⟩ (Imp.refl _)))
    intro j K2 hK2 v
    refine Ent.exs fun ⟨l2, j'⟩ => Ent.g2 (Ent.pur fun ⟨g1, g2, g3⟩ => ?_)
    dsimp only at g1 g2 g3
    subst g1 g3
    dsimp only
    have hl2 := g2.perm.length_eq
    have hji := g2.ji
    have stop : (0 < j → ¬ gt l2 j < gt l2 (j - 1)) → Ent e (pt b (ii l2 ++ r) :: rest) (ArK .i64 ((i : Int) + 1) fun t14 => K' t14) := fun hs => by
      (refine Ent.go ?_)
      refine Ent.imp (Imp.exs (l2, i + 1) (Imp.g2 (Imp.pur ⟨by simp, g2.perm, g2.done hs, by simp, by simp; omega, rfl⟩ (Imp.refl _)))) (hK (n + 1 - (i + 1)) (by omega) _)
    refine Ent.join ?_
    by_cases hj : 0 < j
    · have v1 : (ii l2 ++ r)[0 + (j : Int).toNat * 1]? = some (.int .i64 (gt l2 j)) := by
        simp only [Nat.zero_add, Nat.mul_one, Int.toNat_natCast]
        rw [List.getElem?_append_left (by simp; omega)]; simp [ii]; exact gt_at (by omega)
      have v2 : (ii l2 ++ r)[0 + ((j : Int) - 1).toNat * 1]? = some (.int .i64 (gt l2 (j - 1))) := by
        have e1 : ((j : Int) - 1).toNat = j - 1 := by omega
        simp only [Nat.zero_add, Nat.mul_one, e1]
        rw [List.getElem?_append_left (by simp; omega)]; simp [ii]; exact gt_at (by omega)
      (refine Ent.go ?_)
      refine less_spec ?_
      refine Ent.condD (fun hlt => ?_) (fun hlt => ?_)
      · (refine Ent.go ?_)
        have e1 : (j : Int) - 1 = ((j - 1 : Nat) : Int) := by omega
        rw [e1]
        (refine Ent.go ?_)
        refine Ent.imp ?_ (hK2 (j - 1) (by omega) _)
        refine Imp.exs (sw l2 j, j - 1) (Imp.g2 (Imp.pur ⟨rfl, g2.swap hj (by omega) hlt, rfl⟩ ?_))
        rw [sw_ii (by omega)]
        exact Imp.refl _
      · exact stop fun _ => hlt
    · refine Ent.draw0 ?_
      refine Ent.condF (by simp; omega) ?_
      refine Ent.condF rfl ?_
      exact stop fun h0 => absurd h0 hj
  · (refine Ent.go ?_)
    refine h l1 f2 fun p q h1 h2 => f3 p q h1 (by omega)
theorem idxS {c : Int → WP} {s : ByteArray} {k : IntKind} {i : Int} (h0 : 0 ≤ i) (h1 : i.toNat < s.size) (h : ∀ z : Nat, z < 256 → Ent e rest (c z)) : Ent e rest (OpK P (.one (.int .u8)) (vS (Instr.index 9 (.string s) (.int k i))) c) :=
  Ent.opI (st_ixS rfl h0 h1).still (h _ (s[i.toNat]).toNat_lt)
theorem len_spec {K : Int → WP} {x : Int} (h0 : 0 ≤ x) (h1 : x ≤ 12) (h : ∀ n, Ent e rest (K n)) : Ent e rest (bits_Len x K) := by
  (refine Ent.fn bits_Len_ok ?_; unfold bits_Len_sh)
  (refine Ent.fn bits_Len64_ok ?_; unfold bits_Len64_sh)
  refine Ent.join ?_
  (refine Ent.go ?_)
  refine Ent.join ?_
  refine Ent.condF (by simp; omega) ?_
  refine Ent.condF (by simp; omega) ?_
  (refine Ent.go ?_)
  have hsz : ∀ d : ByteArray, d.size = 256 → x.toNat < d.size := fun d hd => by omega
  refine idxS h0 (hsz _ (by rfl)) fun z hz => ?_
  (refine Ent.go ?_)
  exact h _
theorem slOc {a : Option Addr} {n c sz : Nat} {l : List Value} {p : WP} (h : (a = none → c = 0) → Ent e (SlO a n c sz l :: ctx) p) : Ent e (SlO a n c sz l :: ctx) p := fun w hw => by
  have hw2 := hw
  obtain ⟨g1, g2, hd, l1, l2, ⟨hl, hA⟩, hr⟩ := hw.heap
  rcases hA with ⟨_, _, hc⟩ | ⟨b, r, ha, _⟩
  · exact h (fun _ => hc) w hw2
  · exact h (fun h' => by rw [h'] at ha; cases ha) w hw2
theorem sort_spec {K : Value → WP} {a : Option Addr} {n c : Nat} {l : List Int} (hn : l.length = n) (hb : n ≤ 12) (h : ∀ l' : List Int, l'.Perm l → Srt l' n → Ent e (SlO a n c 1 (ii l') :: rest) (K (.tuple #[]))) :
    Ent e (SlO a n c 1 (ii l) :: rest) (slices_Sort_int (.slice a n c) K) := by
  (refine Ent.fn slices_Sort_int_ok ?_; unfold slices_Sort_int_sh)
  (refine Ent.go ?_)
  refine len_spec (by omega) (by omega) fun t => ?_
  (refine Ent.fn slices_pdqsortOrdered_int_ok ?_; unfold slices_pdqsortOrdered_int_sh)
  refine Ent.loop5 (fun _ a b _ _ _ => pur (a = 0 ∧ b = n) :: SlO _ n c 1 (ii l) :: rest) 0 (Imp.pur ⟨rfl, rfl⟩ (Imp.refl _)) ?_
  intro N K' hK a0 b0 l0 x0 y0
  refine Ent.pur fun ⟨h1, h2⟩ => ?_
  subst h1 h2
  (refine Ent.go ?_)
  refine slOc fun hcn => ?_
  refine Ent.slO fun k1 k2 k3 k4 => SlO.open2 (fun b r hc hcr ha => ?_) (fun ha h0 hl0 => ?_)
  · subst ha
    refine ins_spec (l := l) (r := r) hn (by omega) fun l' hp hs => ?_
    refine Ent.imp (fun x k => sepL_cons (fun hh hx => ⟨?_, .inr ⟨b, r, rfl, hc, ?_, hx⟩⟩) (fun _ z => z) k) (h l' hp hs)
    · have := hp.length_eq; simp; omega
    · have := hp.length_eq; simp at hcr ⊢; omega
  · subst ha h0
    obtain rfl : l = [] := List.eq_nil_of_length_eq_zero hn
    (refine Ent.fn slices_insertionSortOrdered_int_ok ?_; unfold slices_insertionSortOrdered_int_sh)
    (refine Ent.go ?_)
    refine Ent.loop1 (k0 := .int .i64) (fun _ v => pur (v = 1) :: rest) 0 (Imp.pur rfl (Imp.refl _)) ?_
    intro N2 K2 hK2 v
    refine Ent.pur fun hv => ?_
    subst hv
    (refine Ent.go ?_)
    have h2 := h [] (.refl _) fun p q h1 h2 => by omega
    have hc0 : c = 0 := hcn rfl
    subst hc0
    exact Ent.slN h2
theorem sorted_spec {β : Type} {vf : β → Value} {K : Value → WP} {r bm : Nat} {m : List (Int × β)} (hn : (m.map (·.1)).Nodup) (hl : m.length ≤ 12)
    (h : ∀ a c l, l.Perm (m.map (·.1)) → Srt l l.length → Ent e (SlO a l.length c 1 (ii l) :: Mp (intK .i64) vf r m :: rest) (K (.slice a l.length c))) :
    Ent e (Mp (intK .i64) vf r m :: pt bm [.map (some r)] :: rest) (slices_Sorted_int (.func (.func 66) #[] #[.pointer (some ⟨bm, 0, none⟩)]) K) := by
  (refine Ent.fn slices_Sorted_int_ok ?_; unfold slices_Sorted_int_sh)
  refine collect_spec hn (by omega) fun a c l hp => ?_
  have hlen := hp.length_eq
  refine sort_spec rfl (by simp at hlen; omega) fun l' hp' hs => ?_
  have := h a c l' (hp'.trans hp) (by rw [hp'.length_eq]; exact hs)
  rw [hp'.length_eq] at this
  exact this
end
end Go.Proofs.Ytgbihlbgkkpciaa.Co
