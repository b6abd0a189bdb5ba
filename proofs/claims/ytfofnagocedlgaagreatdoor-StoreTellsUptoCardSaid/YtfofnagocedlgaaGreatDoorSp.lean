/-
  THE STORE (layer 21): Put.
-/
import Derived.Test.YtfofnagocedlgaaGreatDoorSi
set_option maxRecDepth 100000
set_option linter.unusedVariables false
set_option linter.unusedSectionVars false
set_option linter.unusedSimpArgs false
set_option maxHeartbeats 0
namespace Go.Proofs.YtfofnagocedlgaaGreatDoor.Tx
open Go Sh Sl
open Go.RowKit
attribute [local irreducible] condK ArK NilK OpK FnK StK joinK loopK DrawK andK PuK NxK EnK vS uS bS callS invokeS
/-- slots, tried, kept -/
structure St3 where
  X : List (Option Et)
  tr : List Int
  kp : List Int
def full (most bytes sz : Nat) (s : St3) : Bool := decide (most ≤ cnt s.X) || decide (bytes < used s.X + sz)
def ev1 (s : St3) : St3 := ⟨s.X.set (Lr.vic s.tr s.kp).1.toNat none, Lr.out s.tr (Lr.vic s.tr s.kp).1, Lr.out s.kp (Lr.vic s.tr s.kp).1⟩
def evS (most bytes sz : Nat) : Nat → St3 → St3
  | 0, s => s
  | f + 1, s => if full most bytes sz s then evS most bytes sz f (ev1 s) else s
def gone3 (pd : Et → Bool) (s : St3) : St3 := ⟨gX pd s.X 64, gL pd s.X 64 s.tr, gL pd s.X 64 s.kp⟩
abbrev pdP (x : Et) (z : Et) : Bool := decide (z.url = x.url) && decide (z.wl = x.wl)
/-- the first slot that is free -/
def free (X : List (Option Et)) : Nat := X.findIdx (fun o => !o.isSome)
theorem vic_mem {tr kp : List Int} (h : tr ++ kp ≠ []) : (Lr.vic tr kp).2 = true ∧ (Lr.vic tr kp).1 ∈ tr ++ kp := by
  unfold Lr.vic
  cases h1 : tr.getLast? with
  | some x => exact ⟨rfl, List.mem_append_left _ (List.mem_of_getLast? h1)⟩
  | none =>
    have ht : tr = [] := List.getLast?_eq_none_iff.1 h1
    subst ht
    cases h2 : kp.getLast? with
    | some x => exact ⟨rfl, List.mem_append_right _ (List.mem_of_getLast? h2)⟩
    | none =>
      have := List.getLast?_eq_none_iff.1 h2
      subst this
      exact absurd rfl h
theorem out_len (l : List Int) (x : Int) : (Lr.out l x).length ≤ l.length := List.length_filter_le _ _
theorem out_lt {l : List Int} {x : Int} (h : x ∈ l) : (Lr.out l x).length < l.length := by
  unfold Lr.out
  exact List.length_filter_lt_length_iff_exists.2 ⟨x, h, by simp⟩
theorem used_none {X : List (Option Et)} (h : ∀ (i : Nat) x, X[i]? ≠ some (some x)) : used X = 0 ∧ cnt X = 0 := by
  induction X with
  | nil => exact ⟨rfl, rfl⟩
  | cons o X ih =>
    have ih' := ih fun i x hx => h (i + 1) x (by simpa using hx)
    cases o with
    | some x => exact absurd rfl (h 0 x)
    | none =>
      refine ⟨?_, ?_⟩
      · have := ih'.1; simp [used] at this ⊢; exact this
      · have := ih'.2; simp [cnt] at this ⊢; exact this
theorem cnt_lt {X : List (Option Et)} {most : Nat} (h : cnt X < most) (hm : most ≤ X.length) (hl : ∀ i : Nat, most ≤ i → ∀ x, X[i]? ≠ some (some x)) : free X < most ∧ X[free X]? = some none ∧ ∀ j, j < free X → ∃ x, X[j]? = some (some x) := by
  have hlt : free X < most := by
    rcases Nat.lt_or_ge (free X) most with h1 | h1
    · exact h1
    · exfalso
      have hall : ∀ j, j < most → ∃ x, X[j]? = some (some x) := fun j hj => by
        have hjl : j < X.length := by omega
        have := List.not_of_lt_findIdx (p := fun o : Option Et => !o.isSome) (xs := X) (i := j) (by unfold free at h1; omega)
        cases ho : X[j] with
        | none => rw [ho] at this; simp at this
        | some x => exact ⟨x, by rw [List.getElem?_eq_getElem hjl, ho]⟩
      have h2 : (X.take most).filter (·.isSome) = X.take most := by
        refine List.filter_eq_self.2 fun o ho => ?_
        obtain ⟨j, hj, hjo⟩ := List.mem_iff_getElem.1 ho
        have hjm : j < most := by simp at hj; omega
        obtain ⟨x, hx⟩ := hall j hjm
        rw [List.getElem_take] at hjo
        rw [List.getElem?_eq_getElem (by omega)] at hx
        rw [← hjo, Option.some.inj hx]; rfl
      have h3 : most ≤ cnt X := by
        unfold cnt
        have h4 : ((X.take most).filter (·.isSome)).length ≤ (X.filter (·.isSome)).length := ((List.take_sublist most X).filter _).length_le
        rw [h2, List.length_take] at h4
        omega
      omega
  have hfl : free X < X.length := by omega
  refine ⟨hlt, ?_, fun j hj => ?_⟩
  · have := List.findIdx_getElem (p := fun o : Option Et => !o.isSome) (xs := X) (w := hfl)
    cases ho : X[free X]'hfl with
    | none => rw [List.getElem?_eq_getElem hfl, ho]
    | some x =>
      have h9 : (!(X[free X]'hfl).isSome) = true := this
      rw [ho] at h9; simp at h9
  · have hjl : j < X.length := by omega
    have := List.not_of_lt_findIdx (p := fun o : Option Et => !o.isSome) (xs := X) (i := j) hj
    cases ho : X[j] with
    | none => rw [ho] at this; simp at this
    | some x => exact ⟨x, by rw [List.getElem?_eq_getElem hjl, ho]⟩
theorem used_put {X : List (Option Et)} {i : Nat} {x : Et} (h : X[i]? = some none) : used (X.set i (some x)) = used X + size x := by
  induction X generalizing i with
  | nil => simp at h
  | cons o X ih =>
    cases i with
    | zero =>
      simp only [List.getElem?_cons_zero, Option.some.injEq] at h
      subst h
      simp [used]; omega
    | succ i =>
      simp only [List.getElem?_cons_succ] at h
      have := ih h
      simp [used] at this ⊢
      omega
theorem size_of {x y : Et} (h : dE y = dE x) : size y = size x := by
  obtain ⟨h1, _, _, h4, h5⟩ := dE_iff.1 h
  have h6 := (Prod.mk.inj h5).2
  have h7 := (Prod.mk.inj h6).1
  have h8 := (Prod.mk.inj (Prod.mk.inj (Prod.mk.inj h6).2).2)
  unfold size
  rw [h1, h4, h7, h8.1, h8.2]
theorem SOk.put {M : Hp} {X : List (Option Et)} {tr kp : List Int} {bytes most i : Nat} {y : Et} (hk : SOk M X tr kp bytes most) (hi : X[i]? = some none) (him : i < most) (hy : RdEM M y) (hb : EB y) (hs : used X + size y ≤ bytes) : SOk M (X.set i (some y)) ((i : Int) :: tr) kp bytes most := by
  have hil := (List.getElem?_eq_some_iff.1 hi).1
  refine ⟨by rw [List.length_set]; exact hk.len, fun z hz => ?_, fun j => ?_, ?_, hk.by_, hk.ms, fun j hj z hz => ?_⟩
  · rcases List.mem_or_eq_of_mem_set hz with h | h
    · exact hk.rd z h
    · cases h; exact ⟨hy, hb⟩
  · have := hk.mem j
    rw [List.getElem?_set]
    by_cases hij : i = j
    · subst hij
      simp [hil]
    · rw [if_neg hij, this]
      have : ¬ (j : Int) = (i : Int) := by omega
      simp [this]
  · rw [used_put hi]; exact hs
  · rw [List.getElem?_set] at hz
    split at hz
    · omega
    · exact hk.lt j hj z hz
section
variable {e : Env} {ctx ctx' rest R : List HProp} {M : Hp} {b : Nat} {X : List (Option Et)} {tr kp : List Int} {bytes most n : Nat}
theorem st_slP {b : Nat} {h : Nat} (hh : h ≤ 64) : Pu (vS (Instr.sliceAt 70 (.pointer (some ⟨b, 0 + 0, none⟩)) none (some (.int .i64 (h : Int))) none)) (.slice (some ⟨b, 0, none⟩) h 64) := Still.of_run fun w => by
  have ha : P.underlying 70 = some (.array (P.arrayLen 70) (P.elem 70)) := by kernel_rfl
  have hl : P.arrayLen 70 = 64 := by kernel_rfl
  have he : P.elem 70 = 69 := by kernel_rfl
  obtain ⟨i', h2, h3, _⟩ := szof_spec (t := 69) (n := 10) (b := (szof 69).get!.2) (by rfl)
  rw [run_sliceAt_array_h w _ _ ha .i64 h (by omega) (by rw [hl]; omega), he, run_sizeOf' h2, hl]
  simp only [Result.andThen_ok, slicedAt, Int.toNat_natCast, Nat.zero_add, Nat.sub_zero, Nat.zero_mul]
  have : (if (64 : Nat) = 0 then (⟨b, 0, none⟩ : Addr) else Addr.add ⟨b, 0, none⟩ 0) = ⟨b, 0, none⟩ := by rw [if_neg (by decide), Addr.add_lit]
  rw [this]
theorem ixf_spec {K : Int → WP} {lb : Nat} {by_ ms us : Int} (hX : X.length = 64) (hh : Has rest (pt b (SC X lb by_ ms us))) (hm : most ≤ 64) (hf : free X < most) (hn : X[free X]? = some none) (hs : ∀ j, j < free X → ∃ x, X[j]? = some (some x)) (h : Ent e rest (K (free X : Int))) :
    Ent e rest (slices_IndexFunc_slot (.slice (some ⟨b, 0, none⟩) most 64) (.func (.func 43) #[] #[]) K) := by
  (refine Ent.fn slices_IndexFunc_slot_ok ?_; unfold slices_IndexFunc_slot_sh)
  (refine Ent.go ?_)
  refine Ent.rngL0 (free X) (fun k => rest) rfl (Imp.refl _) ?_
  intro k hk K' hK
  obtain ⟨o, ho⟩ : ∃ o, X[k]? = some o := ⟨_, List.getElem?_eq_getElem (by omega)⟩
  refine Ent.wT ?_ (decide_eq_true (by omega))
  refine Ent.opR (st_ix (sz := 10) (by_ := (szof 69).get!.2) rfl (by rfl) (by omega) (by omega)).still ?_
  refine Ent.opR (v := .agg (slC o).toArray) (st_loadA (n := 10) hh rfl (by rw [Int.toNat_natCast, Nat.zero_add]; exact SC_slot ho) rfl) ?_
  refine Ent.callF (cap := #[]) (by rfl) ?_
  refine Ent.fn (sh := store_Store_Put_c2_sh (.agg (slC o).toArray) _) (fun w h => store_Store_Put_c2_ok w h) ?_
  refine Ent.box' fun xb => ?_
  (refine Ent.go ?_)
  by_cases hkn : k < free X
  · obtain ⟨x, hx⟩ := hs k hkn
    rw [ho] at hx
    cases hx
    refine Ent.wF ?_ rfl
    (refine Ent.go ?_)
    exact Ent.imp (by (focus ((repeat ((with_reducible apply Imp.pick); (repeat (first | exact Pick.hd | apply Pick.tl)))); (repeat (first | exact Imp.refl _ | exact Imp.nil _ | apply Imp.drop)); done))) (hK hkn)
  · have hkf : k = free X := by omega
    subst hkf
    rw [ho] at hn
    cases hn
    refine Ent.wT ?_ rfl
    exact Ent.imp (by (focus ((repeat ((with_reducible apply Imp.pick); (repeat (first | exact Pick.hd | apply Pick.tl)))); (repeat (first | exact Imp.refl _ | exact Imp.nil _ | apply Imp.drop)); done))) h
end
end Go.Proofs.YtfofnagocedlgaaGreatDoor.Tx
