/- LruOnce: EACH MEMBER IS IN ONE SEGMENT, ONCE; KEPT ONES ARE AT MOST AS MANY AS MAY BE; MEMBERS ARE THOSE THAT WERE ADDED AND NOT REMOVED (any list, any calls, the first 300): the whole statement. -/
import Derived.Test.YtgbihlbgkkpciaaLx
import Derived.Test.YtgbihlbgkkpciaaRv
import Derived.Test.YtgbihlbgkkpciaaLift
set_option linter.unusedVariables false
set_option linter.unusedSimpArgs false
set_option maxRecDepth 100000
set_option maxHeartbeats 0
namespace Go.Proofs.Ytgbihlbgkkpciaa.lruOnce
open Go Sh Sl Lr
open Go.ChangeShapes Go.WideShapes Go.ChangeAt Go.RowKit
/-- for each number whether it is a member -/
def inC (S : List Int) : List Value := (List.range 64).map fun i : Nat => Value.bool (decide ((i : Int) ∈ S))
@[simp] theorem inC_len (S : List Int) : (inC S).length = 64 := by simp [inC]
theorem inC_at {S : List Int} {i : Int} (h0 : 0 ≤ i) (h1 : i < 64) : (inC S)[i.toNat]? = some (.bool (decide (i ∈ S))) := by
  have hl : i.toNat < 64 := by omega
  have he : ((i.toNat : Nat) : Int) = i := by omega
  simp [inC, hl, he]
theorem inC_get {S : List Int} {i : Int} (h0 : 0 ≤ i) (h1 : i < 64) : (inC S)[0 + i.toNat * 1]? = some (.bool (decide (i ∈ S))) := by
  rw [Nat.zero_add, Nat.mul_one]; exact inC_at h0 h1
theorem inC_set {S S' : List Int} {i : Int} {v : Bool} (h0 : 0 ≤ i) (h1 : i < 64) (h : ∀ y : Int, y ∈ S' ↔ if y = i then v = true else y ∈ S) : (inC S).set i.toNat (.bool v) = inC S' := by
  apply List.ext_getElem?
  intro j
  by_cases hj : j < 64
  · have e2 : (inC S')[j]? = some (.bool (decide ((j : Int) ∈ S'))) := by simp [inC, hj]
    have e3 : (inC S)[j]? = some (.bool (decide ((j : Int) ∈ S))) := by simp [inC, hj]
    rw [e2, List.getElem?_set]
    by_cases he : i.toNat = j
    · have hy : (j : Int) = i := by omega
      rw [if_pos he, if_pos (by rw [inC_len]; omega)]
      have := h (j : Int)
      rw [if_pos hy] at this
      cases v <;> simp_all
    · have hy : (j : Int) ≠ i := by omega
      rw [if_neg he, e3]
      have := h (j : Int)
      rw [if_neg hy] at this
      simp [this]
  · rw [List.getElem?_eq_none (by simp [inC_len]; omega), List.getElem?_eq_none (by simp [inC_len]; omega)]
theorem inC_nil : List.replicate 64 (Value.bool false) = inC [] := by rfl
section
attribute [local irreducible] condK ArK NilK OpK FnK StK joinK loopK DrawK andK PuK NxK EnK vS uS bS callS invokeS
variable {e : Env} {ctx rest : List HProp}
abbrev actC (x : Int × Int) : List Value := [.int .i64 x.1, .int .i64 x.2]
theorem lens {m : List (Int × Nat × Nat)} {tr kp : List Int} {t : Nat} (h : LOk m tr kp t) : tr.length ≤ 64 ∧ kp.length ≤ 64 := by
  obtain ⟨n1, n2, _⟩ := nodup_app.1 h.nd
  exact ⟨len_le 64 tr n1 fun y hy => h.ids y (List.mem_append_left _ hy), len_le 64 kp n2 fun y hy => h.ids y (List.mem_append_right _ hy)⟩
theorem inC_congr {S S' : List Int} (h : ∀ y : Int, y ∈ S ↔ y ∈ S') : inC S = inC S' := by
  unfold inC
  refine List.map_congr_left fun y _ => ?_
  rw [decide_eq_decide.2 (h (y : Int))]
theorem count {S : List Int} (hn : S.Nodup) (hi : ∀ x, x ∈ S → 0 ≤ x ∧ x < 64) : ((List.range 64).filter fun q : Nat => decide ((q : Int) ∈ S)).length = S.length := by
  have p : (((List.range 64).filter fun q : Nat => decide ((q : Int) ∈ S)).map fun q : Nat => (q : Int)).Perm S := by
    refine perm_of_mem ?_ hn fun x => ?_
    · refine List.Pairwise.map _ ?_ (List.nodup_range.filter _)
      intro a b hab
      exact fun h => hab (by omega)
    · simp only [List.mem_map, List.mem_filter, List.mem_range, decide_eq_true_eq]
      constructor
      · rintro ⟨q, ⟨_, h2⟩, rfl⟩; exact h2
      · intro hx
        have := hi x hx
        exact ⟨x.toNat, ⟨by omega, by rw [Int.toNat_of_nonneg this.1]; exact hx⟩, Int.toNat_of_nonneg this.1⟩
  have := p.length_eq
  simpa using this
theorem toT_mem {tr kp : List Int} {most : Nat} {i : Int} (hi : i ∈ tr ++ kp) (y : Int) : y ∈ tr ++ kp ↔ y ∈ (toT tr kp most i).1 ++ (toT tr kp most i).2 := by
  unfold toT
  split
  · have hm : (i :: out kp i).getLast (by simp) ∈ i :: out kp i := List.getLast_mem _
    generalize (i :: out kp i).getLast (by simp) = z at hm
    have hm2 := hm
    rw [List.mem_cons, mem_out] at hm2
    simp only [List.mem_append, List.mem_cons, mem_out] at *
    by_cases e1 : y = z <;> by_cases e2 : y = i <;> simp_all
  · simp only [List.mem_append, List.mem_cons, mem_out] at *
    by_cases e2 : y = i <;> simp_all
theorem toT_len {tr kp : List Int} {most : Nat} {i : Int} (hk : kp.length ≤ most) : (toT tr kp most i).2.length ≤ most := by
  have h1 : (out kp i).length ≤ kp.length := List.length_filter_le _ _
  unfold toT
  split
  · rename_i hl
    have hm : (i :: out kp i).getLast (by simp) ∈ i :: out kp i := List.getLast_mem _
    generalize (i :: out kp i).getLast (by simp) = z at hm
    have : (out (i :: out kp i) z).length < (i :: out kp i).length := by
      unfold out
      exact List.length_filter_lt_length_iff_exists.2 ⟨z, hm, by simp⟩
    simp only [List.length_cons] at this ⊢
    omega
  · rename_i hl; simp only; omega
theorem toT_head {tr kp : List Int} {most : Nat} {i : Int} (hm : 0 < most) : ∃ r, (toT tr kp most i).2 = i :: r := by
  unfold toT
  split
  · rename_i hl
    have hne : (out kp i) ≠ [] := by
      intro e; rw [e] at hl; simp at hl; omega
    have hz : (i :: out kp i).getLast (by simp) = (out kp i).getLast hne := List.getLast_cons hne
    have hmem : (out kp i).getLast hne ∈ out kp i := List.getLast_mem _
    have hzi : (out kp i).getLast hne ≠ i := (mem_out.1 hmem).2
    refine ⟨out (out kp i) ((out kp i).getLast hne), ?_⟩
    simp only [hz]
    unfold out
    rw [List.filter_cons_of_pos (by simpa using Ne.symm hzi)]
  · exact ⟨_, rfl⟩
theorem spec {K : Bool → WP} {kept : Int} {a : Option Addr} {c : Nat} {xs : List (Int × Int)} (k0 : 0 ≤ kept) (k1 : kept ≤ 255) (hx : Rd ctx a ((xs.map actC).flatten)) (h : Ent e ctx (K true)) :
    Ent e ctx (law20_LruOnce kept (.slice a xs.length c) K) := by
  (refine Ent.fn law20_LruOnce_ok ?_; unfold law20_LruOnce_sh)
  (refine Ent.go ?_)
  have e1 : kept.tmod 65 = kept % 65 := Int.tmod_eq_emod_of_nonneg k0
  rw [e1]
  have q0 : 0 ≤ kept % 65 := Int.emod_nonneg _ (by omega)
  have q1 : kept % 65 < 65 := Int.emod_lt_of_pos _ (by omega)
  obtain ⟨mi, hmi⟩ : ∃ mi, mi = kept % 65 := ⟨_, rfl⟩
  rw [← hmi] at q0 q1 ⊢
  obtain ⟨most, rfl⟩ := Int.eq_ofNat_of_zero_le q0
  refine new_spec (fun hb => absurd hb (by omega)) fun b _ _ => ?_
  rw [Int.toNat_natCast]
  refine Ent.join ?_
  refine awake_spec ?_
  (refine Ent.go ?_)
  refine Ent.alloc' fun inb => ?_
  rw [inC_nil]
  (refine Ent.go ?_)
  refine Ent.rngL0 xs.length (fun k => (exs fun (x : List Int × List Int) => sepL [pur (x.2.length ≤ most ∧ k ≤ 300), LRep b x.1 x.2 most (2 * k), pt inb (inC (x.1 ++ x.2))]) :: ctx) rfl ?_ ?_
  · refine Imp.exs ([], []) (Imp.g3 (Imp.pur ⟨by simp, by omega⟩ ?_))
    (focus ((repeat ((with_reducible apply Imp.pick); (repeat (first | exact Pick.hd | apply Pick.tl)))); (repeat (first | exact Imp.refl _ | exact Imp.nil _ | apply Imp.drop)); done))
  intro k hk K' hK
  refine Ent.exs fun ⟨tr, kp⟩ => Ent.g3 (Ent.pur fun ⟨hkm, hk3⟩ => ?_)
  dsimp only at hkm
  dsimp only
  by_cases hl : k < xs.length
  rotate_left
  · (refine Ent.go ?_)
    refine Ent.imp ?_ h
    (focus (repeat (first | exact Imp.refl _ | exact Imp.nil _ | apply Imp.drop)))
  obtain ⟨x, hxk⟩ : ∃ x, xs[(k : Int).toNat]? = some x := ⟨_, List.getElem?_eq_getElem hl⟩
  (refine Ent.go ?_)
  refine Ent.wiAh ?_
  refine Ent.alloc' fun ab => ?_
  (refine Ent.go ?_)
  by_cases hk4 : k = 300
  · (refine Ent.go ?_)
    refine Ent.imp ?_ h
    (focus (repeat (first | exact Imp.refl _ | exact Imp.nil _ | apply Imp.drop)))
  (refine Ent.go ?_)
  obtain ⟨w, i⟩ := x
  refine Ent.join1 (kd := .bool) (fun may => pur (may = decide (0 ≤ i ∧ i < 64)) :: LRep b tr kp most (2 * k) :: pt inb (inC (tr ++ kp)) :: pt ab (actC (w, i)) :: ctx) ?_ ?_
  rotate_left
  · intro k' hk'
    by_cases h0 : 0 ≤ i
    · (refine Ent.go ?_)
      refine Ent.imp (Imp.pur ?_ ?_) (hk' _)
      · by_cases h1 : i < 64 <;> simp [h0, h1]
      · (focus ((repeat ((with_reducible apply Imp.pick); (repeat (first | exact Pick.hd | apply Pick.tl)))); (repeat (first | exact Imp.refl _ | exact Imp.nil _ | apply Imp.drop)); done))
    · (refine Ent.go ?_)
      refine Ent.imp (Imp.pur ?_ ?_) (hk' _)
      · simp [h0]
      · (focus ((repeat ((with_reducible apply Imp.pick); (repeat (first | exact Pick.hd | apply Pick.tl)))); (repeat (first | exact Imp.refl _ | exact Imp.nil _ | apply Imp.drop)); done))
  intro may
  refine Ent.pur fun hmay => ?_
  subst hmay
  refine LRep.ok fun ⟨m, t, hok⟩ _ => ?_
  refine Ent.join1 (kd := .int .i64) (fun e1 => (exs fun (x : List Int × List Int) => sepL [pur (x.2.length ≤ most ∧ (¬ (0 ≤ i ∧ i < 64) → 0 ≤ w → w ≤ 2 → e1 = 1)), LRep b x.1 x.2 most (2 * k + 2), pt inb (inC (x.1 ++ x.2)), pt ab (actC (w, i))]) :: ctx) ?_ ?_
  rotate_left
  · intro k' hk'
    have fin : ∀ (tr kp : List Int) (n : Nat) (e1 : Int), n ≤ 2 * k + 2 → kp.length ≤ most → (¬ (0 ≤ i ∧ i < 64) → 0 ≤ w → w ≤ 2 → e1 = 1) → Ent e (LRep b tr kp most n :: pt inb (inC (tr ++ kp)) :: pt ab (actC (w, i)) :: ctx) (k' e1) := by
      intro tr kp n e1 h1 h2 h3
      refine LRep.more h1 ?_
      refine Ent.imp ?_ (hk' _)
      refine Imp.exs (tr, kp) (Imp.g4 (Imp.pur ⟨h2, h3⟩ ?_))
      (focus ((repeat ((with_reducible apply Imp.pick); (repeat (first | exact Pick.hd | apply Pick.tl)))); (repeat (first | exact Imp.refl _ | exact Imp.nil _ | apply Imp.drop)); done))
    have no : ∀ x : Int, x ≠ 0 → Ent e (LRep b tr kp most (2 * k) :: pt inb (inC (tr ++ kp)) :: pt ab (actC (w, i)) :: ctx) (k' x) → Ent e (LRep b tr kp most (2 * k) :: pt inb (inC (tr ++ kp)) :: pt ab (actC (w, i)) :: ctx) (k' x) := fun _ _ h => h
    have hin : 0 ≤ i → i < 64 → ∀ v, decide (i ∈ tr ++ kp) = v → (inC (tr ++ kp))[0 + i.toNat * 1]? = some (.bool v) := fun h0 h1 v hv => by rw [inC_get h0 h1, hv]
    (refine Ent.go ?_)
    refine Ent.condE (fun hw => ?_) fun hw => ?_
    · (refine Ent.go ?_)
      refine add_spec (by omega) (fun hn => ?_) fun q1 q2 q3 => ?_
      · refine Ent.join ?_
        unfold addC at hn ⊢
        by_cases hm : 0 ≤ i ∧ i < 64
        · rw [if_neg (by omega)] at hn ⊢
          by_cases hS : i ∈ tr ++ kp
          · rw [if_pos hS] at hn ⊢
            have hv := hin hm.1 hm.2 true (decide_eq_true hS)
            (refine Ent.go ?_)
            exact Ent.fin (fin tr kp (2 * k) 9 (by omega) hkm (fun h => absurd hm h))
          · rw [if_neg hS] at hn; exact absurd rfl hn
        · rw [if_pos (by omega)]
          (refine Ent.go ?_)
          exact Ent.fin (fin tr kp (2 * k) 1 (by omega) hkm (fun _ _ _ => rfl))
      · refine Ent.join ?_
        have hv := hin q1 q2 false (decide_eq_false q3)
        (refine Ent.go ?_)
        rw [inC_set (S' := (i :: tr) ++ kp) q1 q2 (fun y => by by_cases hy : y = i <;> simp [hy])]
        exact Ent.fin (fin (i :: tr) kp (2 * k + 1) 0 (by omega) hkm (fun h => absurd ⟨q1, q2⟩ h))
    refine Ent.condE (fun hw => ?_) fun hw => ?_
    · (refine Ent.go ?_)
      refine touch_spec (by omega) (fun hn => ?_) fun q1 q2 q3 => ?_
      · refine Ent.join ?_
        unfold toC at hn ⊢
        by_cases hm : 0 ≤ i ∧ i < 64
        · rw [if_neg (by omega)] at hn ⊢
          by_cases hS : i ∈ tr ++ kp
          · rw [if_pos hS] at hn; exact absurd rfl hn
          · rw [if_neg hS] at hn ⊢
            have hv := hin hm.1 hm.2 false (decide_eq_false hS)
            (refine Ent.go ?_)
            exact Ent.fin (fin tr kp (2 * k) 6 (by omega) hkm (fun h => absurd hm h))
        · rw [if_pos (by omega)]
          (refine Ent.go ?_)
          exact Ent.fin (fin tr kp (2 * k) 1 (by omega) hkm (fun _ _ _ => rfl))
      · refine Ent.join ?_
        have hv := hin q1 q2 true (decide_eq_true q3)
        (refine Ent.go ?_)
        have last : Ent e (LRep b (toT tr kp most i).1 (toT tr kp most i).2 most (2 * k + 2) :: pt inb (inC (tr ++ kp)) :: pt ab (actC (w, i)) :: ctx) (k' 0) := by
          rw [inC_congr (toT_mem (most := most) q3)]
          exact fin _ _ _ _ (by omega) (toT_len hkm) (fun h => absurd ⟨q1, q2⟩ h)
        by_cases hp : 0 < most
        · (refine Ent.go ?_)
          obtain ⟨r, hr⟩ := toT_head (tr := tr) (kp := kp) (i := i) hp
          refine kept_spec fun a5 c5 => ?_
          refine Ent.rdS fun r5 _ => ?_
          have r5' : Rd (SlO a5 (toT tr kp most i).2.length c5 1 (ic (toT tr kp most i).2) :: LRep b (toT tr kp most i).1 (toT tr kp most i).2 most (2 * k + 2) :: pt inb (inC (tr ++ kp)) :: pt ab (actC (w, i)) :: ctx) a5 (ic (toT tr kp most i).2) := r5 _ (by (repeat (first | exact Has.hd | apply Has.tl)))
          obtain ⟨b5, o5, rfl, q5⟩ := rd_some r5' (by rw [hr]; simp)
          have hln : 0 < (toT tr kp most i).2.length := by rw [hr]; simp
          (refine Ent.go ?_)
          refine Ent.puR (st_ix rfl rfl (by decide) (Int.natCast_pos.2 hln)) ?_
          refine Ent.rI (st_loadR (i := (0 : Int).toNat * 1) (v := .int .i64 i) q5 rfl (by rw [hr]; rfl)) ?_
          (refine Ent.go ?_)
          exact Ent.fin last
        · (refine Ent.go ?_)
          exact last
    refine Ent.condE (fun hw => ?_) fun hw => ?_
    · (refine Ent.go ?_)
      refine remove_spec (fun hn => ?_) fun q1 q2 q3 => ?_
      · refine Ent.join ?_
        unfold toC at hn ⊢
        by_cases hm : 0 ≤ i ∧ i < 64
        · rw [if_neg (by omega)] at hn ⊢
          by_cases hS : i ∈ tr ++ kp
          · rw [if_pos hS] at hn; exact absurd rfl hn
          · rw [if_neg hS] at hn ⊢
            have hv := hin hm.1 hm.2 false (decide_eq_false hS)
            (refine Ent.go ?_)
            exact Ent.fin (fin tr kp (2 * k) 6 (by omega) hkm (fun h => absurd hm h))
        · rw [if_pos (by omega)]
          (refine Ent.go ?_)
          exact Ent.fin (fin tr kp (2 * k) 1 (by omega) hkm (fun _ _ _ => rfl))
      · refine Ent.join ?_
        have hv := hin q1 q2 true (decide_eq_true q3)
        (refine Ent.go ?_)
        rw [inC_set (S' := out tr i ++ out kp i) q1 q2 (fun y => by
          simp only [List.mem_append, mem_out]
          by_cases hy : y = i <;> simp [hy])]
        have := List.length_filter_le (· ≠ i) kp
        exact Ent.fin (fin (out tr i) (out kp i) (2 * k) 0 (by omega) (Nat.le_trans this hkm) (fun h => absurd ⟨q1, q2⟩ h))
    · exact Ent.fin (fin tr kp (2 * k) 0 (by omega) hkm (fun _ h1 h2 => by omega))
  intro e1
  refine Ent.exs fun ⟨tr, kp⟩ => Ent.g4 (Ent.pur fun ⟨g1, g2⟩ => ?_)
  dsimp only at g1
  dsimp only
  refine LRep.ok fun ⟨m, t, hok⟩ _ => ?_
  obtain ⟨l1, l2⟩ := lens hok
  refine Ent.join1 (kd := .bool) (fun j => pur (j = false) :: LRep b tr kp most (2 * k + 2) :: pt inb (inC (tr ++ kp)) :: ctx) ?_ ?_
  rotate_left
  · intro k' hk'
    have fin : Ent e (LRep b tr kp most (2 * k + 2) :: pt inb (inC (tr ++ kp)) :: pt ab (actC (w, i)) :: ctx) (k' false) := by
      refine Ent.imp ?_ (hk' false)
      refine Imp.pur rfl ?_
      (focus ((repeat ((with_reducible apply Imp.pick); (repeat (first | exact Pick.hd | apply Pick.tl)))); (repeat (first | exact Imp.refl _ | exact Imp.nil _ | apply Imp.drop)); done))
    by_cases hm : 0 ≤ i ∧ i < 64
    · rw [decide_eq_true hm]
      (refine Ent.go ?_)
      exact fin
    · rw [decide_eq_false hm]
      (refine Ent.go ?_)
      by_cases h0 : 0 ≤ w
      · (refine Ent.go ?_)
        by_cases h1 : w ≤ 2
        · have he := g2 hm h0 h1
          subst he
          (refine Ent.go ?_)
          exact fin
        · (refine Ent.go ?_)
          exact fin
      · (refine Ent.go ?_)
        exact fin
  intro j
  refine Ent.pur fun hj => ?_
  subst hj
  (refine Ent.go ?_)
  refine Ent.alloc' fun sb => ?_
  rw [inC_nil]
  refine Ent.bring (A := LRep b tr kp most _) ?_
  refine tried_spec fun a3 c3 => ?_
  refine Ent.bring (A := LRep b tr kp most _) ?_
  refine kept_spec fun a4 c4 => ?_
  refine Ent.rdS fun r4 _ => ?_
  refine Ent.appN (r4 _ (by (repeat (first | exact Has.hd | apply Has.tl)))) fun a5 c5 => ?_
  obtain ⟨S, hS⟩ : ∃ S, S = tr ++ kp := ⟨_, rfl⟩
  have e5 : ic tr ++ ic kp = ic S := by rw [hS]; simp
  have e6 : tr.length + kp.length = S.length := by rw [hS]; simp
  have hSl : S.length ≤ 128 := by omega
  have hids := hok.ids
  have hnd := hok.nd
  rw [← hS] at hids hnd ⊢
  rw [e5, e6]
  (refine Ent.go ?_)
  refine Ent.rngL1 (k0 := .int .i64) S.length (fun j n => pur (n = (j : Int)) :: pt sb (inC (S.take j)) :: SlO a5 S.length c5 1 (ic S) :: LRep b tr kp most (2 * k + 2) :: pt inb (inC S) :: ctx) rfl ?_ ?_
  · refine Imp.pur rfl ?_
    rw [List.take_zero]
    (focus ((repeat ((with_reducible apply Imp.pick); (repeat (first | exact Pick.hd | apply Pick.tl)))); (repeat (first | exact Imp.refl _ | exact Imp.nil _ | apply Imp.drop)); done))
  intro j hj K2 hK2 n
  refine Ent.pur fun hn => ?_
  subst hn
  by_cases hjl : j < S.length
  · obtain ⟨x, hxj⟩ : ∃ x, S[(j : Int).toNat]? = some x := ⟨_, List.getElem?_eq_getElem hjl⟩
    have hxS : x ∈ S := List.mem_of_getElem? hxj
    have hxi := hids x hxS
    have e1 : S.take (j + 1) = S.take j ++ [x] := by
      rw [List.take_succ_eq_append_getElem hjl]
      have := List.getElem?_eq_getElem hjl
      rw [Int.toNat_natCast] at hxj
      rw [hxj] at this; rw [Option.some.inj this]
    have hnx : x ∉ S.take j := by
      have := hnd.sublist (List.take_sublist (j + 1) S)
      rw [e1] at this
      intro hx2
      exact (nodup_app.1 this).2.2 x hx2 (by simp)
    have v1 : (inC (S.take j))[0 + x.toNat * 1]? = some (.bool false) := by rw [inC_get hxi.1 hxi.2, decide_eq_false hnx]
    have v2 : (inC S)[0 + x.toNat * 1]? = some (.bool true) := by rw [inC_get hxi.1 hxi.2, decide_eq_true hxS]
    (refine Ent.go ?_)
    refine Ent.join ?_
    (refine Ent.go ?_)
    rw [inC_set (S' := S.take (j + 1)) hxi.1 hxi.2 (fun y => by rw [e1]; by_cases hy : y = x <;> simp [hy])]
    refine Ent.imp ?_ (hK2 hjl _)
    refine Imp.pur (by simp) ?_
    (focus ((repeat ((with_reducible apply Imp.pick); (repeat (first | exact Pick.hd | apply Pick.tl)))); (repeat (first | exact Imp.refl _ | exact Imp.nil _ | apply Imp.drop)); done))
  · (refine Ent.go ?_)
    have hjS : j = S.length := by omega
    subst hjS
    rw [List.take_of_length_le (by rw [inC_len]; omega : (inC S).length ≤ 64)]
    have hcnt := count hnd hids
    refine Ent.rngL1 (k0 := .int .i64) 64 (fun j n => pur (n = (S.length : Int) - (((List.range j).filter fun q : Nat => decide ((q : Int) ∈ S)).length : Int)) :: LRep b tr kp most (2 * k + 2) :: pt inb (inC S) :: ctx) rfl ?_ ?_
    · refine Imp.pur (by simp) ?_
      (focus ((repeat ((with_reducible apply Imp.pick); (repeat (first | exact Pick.hd | apply Pick.tl)))); (repeat (first | exact Imp.refl _ | exact Imp.nil _ | apply Imp.drop)); done))
    intro j hj K3 hK3 n
    refine Ent.pur fun hn => ?_
    subst hn
    have hle := List.length_filter_le (fun q : Nat => decide ((q : Int) ∈ S)) (List.range j)
    rw [List.length_range] at hle
    by_cases hj64 : j < 64
    · (refine Ent.go ?_)
      refine Ent.opB (st_ixAg rfl rfl rfl (by omega) (by omega) (inC_at (by omega) (by omega))).still ?_
      by_cases hjS : (j : Int) ∈ S
      · rw [decide_eq_true hjS]
        (refine Ent.go ?_)
        refine Ent.imp ?_ (hK3 hj64 _)
        refine Imp.pur ?_ (by (focus ((repeat ((with_reducible apply Imp.pick); (repeat (first | exact Pick.hd | apply Pick.tl)))); (repeat (first | exact Imp.refl _ | exact Imp.nil _ | apply Imp.drop)); done)))
        have e9 : ((List.range (j + 1)).filter fun q : Nat => decide ((q : Int) ∈ S)).length = ((List.range j).filter fun q : Nat => decide ((q : Int) ∈ S)).length + 1 := by
          rw [List.range_succ, List.filter_append]; simp [hjS]
        rw [e9]
        exact (by omega : (S.length : Int) - (((List.range j).filter fun q : Nat => decide ((q : Int) ∈ S)).length : Int) - 1 = (S.length : Int) - ((((List.range j).filter fun q : Nat => decide ((q : Int) ∈ S)).length + 1 : Nat) : Int))
      · rw [decide_eq_false hjS]
        (refine Ent.go ?_)
        refine Ent.imp ?_ (hK3 hj64 _)
        refine Imp.pur ?_ (by (focus ((repeat ((with_reducible apply Imp.pick); (repeat (first | exact Pick.hd | apply Pick.tl)))); (repeat (first | exact Imp.refl _ | exact Imp.nil _ | apply Imp.drop)); done)))
        rw [List.range_succ, List.filter_append]
        simp [hjS]
    · have : j = 64 := by omega
      subst this
      rw [hcnt]
      (refine Ent.go ?_)
      refine kept_spec fun a6 c6 => ?_
      (refine Ent.go ?_)
      refine Ent.imp ?_ (hK hl)
      refine Imp.trans ?_ (Imp.exs (tr, kp) (Imp.g3 (Imp.pur ⟨g1, by omega⟩ (Imp.refl _))))
      dsimp only
      rw [← hS]
      (focus ((repeat ((with_reducible apply Imp.pick); (repeat (first | exact Pick.hd | apply Pick.tl)))); (repeat (first | exact Imp.refl _ | exact Imp.nil _ | apply Imp.drop)); done))
end
theorem walk {H : Type} {enc : TypeId × Value → H} {W : World} (base : Nat) (args : Array Value) (ds : List (DataW H)) (hval : ∀ (j : Nat) t v, Try.f4.params[j]? = some t → args[j]? = some v → Value.okWide Try.prog W .any base t v)
    (hA : ∃ p, DataW.TrodAll enc P W 0 (fun _ => true) true Try.f4.params.toList args.toList ds p) :
    Calls P 4 args W fun e W' => e = .returned (.bool true) ∧ Below W.heap.size W W' := by
  obtain ⟨p, hA⟩ := hA
  have hp : Try.f4.params.toList = [5, 35] := rfl
  rw [hp] at hA
  obtain ⟨v0, vs0, d0, ds0, q0, hv0, rfl, t0, hA⟩ := Lift.tr_cons hA
  obtain ⟨v1, vs1, d1, ds1, q1, hv1, rfl, t1, hA⟩ := Lift.tr_cons hA
  obtain ⟨rfl, rfl⟩ := Lift.tr_nil hA
  obtain ⟨n, h0, r0, r1⟩ := Lift.tr_int (k := .u8) rfl t0
  obtain ⟨a, m, c, xs, h1, hn, hcc, hr, hN, hcb, hsum⟩ := Lift.tr_slice (X := Int × Int) actC (fun _ => True) (fun _ => 0) (x := 38) rfl rfl (fun cs d h => by
    obtain ⟨gs, hl, hc, hb, hf⟩ := Lift.tr_struct rfl rfl h
    obtain ⟨y0, i0, u0⟩ := hf 0 _ _ _ _ rfl rfl
    obtain ⟨y1, i1, u1⟩ := hf 1 _ _ _ _ rfl rfl
    match cs, hc with
    | [c0, c1], _ =>
      obtain ⟨n0, h0, _⟩ := Lift.tr_int (k := .i64) rfl u0
      obtain ⟨n1, h1, _⟩ := Lift.tr_int (k := .i64) rfl u1
      simp only [List.drop_zero, List.take_succ_cons, List.take_zero, List.drop_succ_cons, List.cons.injEq, and_true] at h0 h1
      subst h0 h1
      exact ⟨(n0, n1), rfl, trivial, Nat.zero_le _⟩) t1
  obtain ⟨l, rfl⟩ : ∃ l : List Value, args = l.toArray := ⟨args.toList, by simp⟩
  simp only [List.toList_toArray] at hv0
  subst hv0 hv1
  obtain rfl := Lift.val_int rfl (hval 0 _ _ rfl rfl) h0
  obtain rfl := Lift.val_slice rfl (hval 1 _ _ rfl rfl) h1
  subst hn
  have j0 : (0 : Int) ≤ n := r0
  have j1 : n ≤ 255 := r1
  exact Lift.calls_of fun K h => spec j0 j1 hr h
theorem own : ownKnob Try.prog.godebug = none := by kernel_rfl
theorem contract (H : Type) (enc : TypeId × Value → H) (W : World) (base : Nat) (args : Array Value) (ds gs : List (DataW H)) (before : List MemPlace) (hval : ∀ (j : Nat) t v, Try.f4.params[j]? = some t → args[j]? = some v → Value.okWide Try.prog W .any base t v)
    (hW : DataW.Whole enc Try.prog Try.f4.params.toList Rows.lruOnceSpec.vars false W args.toList ds gs before) :
    Calls Try.prog 4 args W fun e W' => ∃ v, e = .returned v ∧ Rows.lruOnceSpec.post enc Try.prog Try.f4 false true false false W args v W' := by
  have hA : ∃ p, DataW.TrodAll enc P W 0 (fun _ => true) true Try.f4.params.toList args.toList ds p := by
    obtain ⟨p, q, hA, _⟩ := hW
    exact ⟨p, hA⟩
  refine (walk base args ds hval hA).mono fun e W' ⟨he, hb⟩ => ?_
  exact ⟨_, he, Lift.law_post' (by kernel_rfl) rfl rfl rfl (fun ds h => by first | (rcases ds with _ | ⟨d1, _ | ⟨d2, _ | ⟨d3, _ | ⟨d4, ds⟩⟩⟩⟩ <;> first | rfl | (exfalso; simp [Try.f4] at h; done))) (by kernel_rfl) hW hb⟩
set_option maxRecDepth 100000 in
theorem lifted (os : Os) (started : os.Started) (H : Type) (enc : TypeId × Value → H) :
    ReturnsInHanded {} Try.checked os 4 .any (Rows.lruOnceSpec.pre6 enc Try.prog Try.f4 Rows.lruOnceRow.domain false) (Rows.lruOnceSpec.post enc Try.prog Try.f4 false true false false) := by
  refine returnsInHanded_of_change (C := Try.checked) own started (by kernel_rfl) Try.func4
    (ChangeSpec.witness6 (enc := enc) (C := Try.checked) false ⟨#[], #[.int .u8 0, .slice none 0 0], []⟩ 8 (by kernel_rfl) (by kernel_rfl) (by kernel_rfl) (by kernel_rfl)) ?_
  intro W base args ds gs before hval hW _ _
  exact contract H enc W base args ds gs before hval hW
theorem proved : Rows.LruOnceSaid :=
  OpenClaim.holds_of_wide 4 Try.f4 rfl rfl rfl rfl rfl rfl rfl ⟨rfl, rfl, rfl, rfl, rfl⟩ rfl rfl rfl rfl rfl (by kernel_rfl) Try.func4 (by kernel_rfl)
    (of_decide_eq_true (by kernel_rfl)) (by unfold Func.isWrapper; first | (rw [if_pos (by decide +kernel)]; kernel_rfl) | (rw [if_neg (by decide +kernel)]; exact ⟨rfl, rfl⟩))
    (fun os started H enc _ => lifted os started H enc)

end Go.Proofs.Ytgbihlbgkkpciaa.lruOnce
