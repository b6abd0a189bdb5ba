/-
  COLLAPSE (layer 24): a table of jobs.
-/
import Derived.Test.YtgbihlbgkkpciaaOm
import Derived.Test.YtgbihlbgkkpciaaCs
set_option maxRecDepth 100000
set_option linter.unusedVariables false
set_option linter.unusedSectionVars false
set_option linter.unusedSimpArgs false
set_option maxHeartbeats 0
namespace Go.Proofs.Ytgbihlbgkkpciaa.Co
open Go Sh Sl
attribute [local irreducible] condK ArK NilK OpK FnK StK joinK loopK DrawK andK PuK NxK EnK vS uS bS callS invokeS
structure Jb where
  url : ByteArray
  sh : Bool
  sp : Bool
  ld : Int
  ws : List Int
abbrev Ent1 := Int × Nat × Jb
def jc (j : Jb) (a : Option Addr) (c : Nat) : List Value := [.string j.url, .bool j.sh, .bool j.sp, .int .i64 j.ld, .slice a j.ws.length c]
def JR (x : Ent1) : HProp := exs fun (y : Option Addr × Nat) => sepL [pt x.2.1 (jc x.2.2 y.1 y.2), SlO y.1 x.2.2.ws.length y.2 1 (ii x.2.2.ws)]
abbrev jv (q : Nat × Jb) : Value := .pointer (some ⟨q.1, 0, none⟩)
def wsum (X : List Ent1) : Nat := (X.map fun x => x.2.2.ws.length).sum
structure TOk (X : List Ent1) (most : Nat) : Prop where
  nd : (X.map (·.1)).Nodup
  kb : ∀ x ∈ X.map (·.1), 0 ≤ x ∧ x < 8
  wt : wsum X ≤ most
  mx : most ≤ 16
def TR (b : Nat) (X : List Ent1) (most : Nat) : HProp := exs fun (r : Nat) => sepL [pur (TOk X most), pt b [.map (some r), .int .i64 most], Mp (intK .i64) jv r X, Own JR X]
abbrev tv (b : Nat) : Value := .pointer (some ⟨b, 0, none⟩)
theorem move5 (CB : List HProp) (A B C D : HProp) (R : List HProp) : Imp (D :: A :: B :: C :: (CB ++ R)) (CB ++ (A :: B :: C :: D :: R)) := Imp.perm (by
  have h1 : (D :: A :: B :: C :: (CB ++ R)).Perm (A :: B :: C :: D :: (CB ++ R)) := by
    refine (List.Perm.swap _ _ _).trans (.cons _ ?_)
    refine (List.Perm.swap _ _ _).trans (.cons _ ?_)
    exact (List.Perm.swap _ _ _)
  refine h1.trans ?_
  have h2 : (CB ++ ([A, B, C, D] ++ R)).Perm ([A, B, C, D] ++ CB ++ R) := by
    rw [← List.append_assoc]; exact (List.perm_append_comm).append_right R
  simpa using h2.symm)
theorem move5' (CB : List HProp) (A B C D : HProp) (R : List HProp) : Imp (CB ++ (A :: B :: C :: D :: R)) (D :: A :: B :: C :: (CB ++ R)) := Imp.perm (by
  have h1 : (D :: A :: B :: C :: (CB ++ R)).Perm (A :: B :: C :: D :: (CB ++ R)) := by
    refine (List.Perm.swap _ _ _).trans (.cons _ ?_)
    refine (List.Perm.swap _ _ _).trans (.cons _ ?_)
    exact (List.Perm.swap _ _ _)
  refine List.Perm.symm (h1.trans ?_)
  have h2 : (CB ++ ([A, B, C, D] ++ R)).Perm ([A, B, C, D] ++ CB ++ R) := by
    rw [← List.append_assoc]; exact (List.perm_append_comm).append_right R
  simpa using h2.symm)
theorem le_sum {l : List Nat} {x : Nat} (h : x ∈ l) : x ≤ l.sum := by
  induction l with
  | nil => cases h
  | cons y l ih =>
    rcases List.mem_cons.1 h with rfl | h
    · simp
    · have := ih h; simp; omega
theorem len_le : ∀ (N : Nat) (l : List Int), l.Nodup → (∀ x, x ∈ l → 0 ≤ x ∧ x < N) → l.length ≤ N
  | 0, [], _, _ => Nat.zero_le _
  | 0, x :: l, _, h => by have := h x List.mem_cons_self; omega
  | N + 1, l, hn, h => by
    have ih := len_le N (l.erase (N : Int)) (hn.erase _) fun x hx => by
      have h1 := hn.mem_erase_iff.1 hx
      have := h x h1.2
      have h3 := h1.1
      omega
    by_cases hm : (N : Int) ∈ l
    · rw [List.length_erase_of_mem hm] at ih; omega
    · rw [List.erase_of_not_mem hm] at ih; omega
theorem wsum_perm {X Y : List Ent1} (h : X.Perm Y) : wsum X = wsum Y := (h.map _).sum_nat
theorem TOk.len {X : List Ent1} {most : Nat} (h : TOk X most) : X.length ≤ 8 := by
  have h1 := h.nd
  have h2 := h.kb
  have := len_le 8 (X.map (·.1)) h1 h2
  simpa using this
section
variable {e : Env} {ctx rest : List HProp} {most b : Nat} {X : List Ent1}
theorem TR.open {p : WP} (h : ∀ r, TOk X most → Ent e (pt b [.map (some r), .int .i64 most] :: Mp (intK .i64) jv r X :: Own JR X :: rest) p) : Ent e (TR b X most :: rest) p :=
  Ent.exs fun r => Ent.g4 (Ent.pur fun hk => h r hk)
theorem TR.shut {r : Nat} (hk : TOk X most) : Imp (pt b [.map (some r), .int .i64 most] :: Mp (intK .i64) jv r X :: Own JR X :: rest) (TR b X most :: rest) :=
  Imp.exs r (Imp.g4 (Imp.pur hk (Imp.refl _)))
def hasB (j : Jb) (s : Int) : Bool := (decide (j.ld = s) && decide (0 ≤ s)) || decide (s ∈ j.ws)
theorem keys_spec {K : Value → WP} {r : Nat} (h : ∀ bm, Ent e (pt bm [.map (some r)] :: rest) (K (.func (.func 66) #[] #[.pointer (some ⟨bm, 0, none⟩)]))) :
    Ent e rest (maps_Keys_int_Job (.map (some r)) K) := by
  (refine Ent.fn maps_Keys_int_Job_ok ?_; unfold maps_Keys_int_Job_sh)
  refine Ent.box' fun bm => ?_
  (refine Ent.go ?_)
  exact h bm
theorem index_spec {K : Int → WP} {a : Option Addr} {n c : Nat} {l : List Int} {v : Int} (hn : l.length = n) (hb : n ≤ 65536) (hr : Rd rest a (ii l)) (h : ∀ t : Int, (t = -1 ∧ v ∉ l) ∨ (0 ≤ t ∧ t < n ∧ v ∈ l) → Ent e rest (K t)) :
    Ent e rest (slices_Index_int (.slice a n c) v K) := by
  (refine Ent.fn slices_Index_int_ok ?_; unfold slices_Index_int_sh)
  (refine Ent.go ?_)
  refine Ent.rngL0 n (fun k => pur (v ∉ l.take k) :: rest) rfl (Imp.pur (by simp) (Imp.refl _)) ?_
  intro k hk K' hK
  refine Ent.pur fun hv => ?_
  by_cases hkn : k < n
  · obtain ⟨x, hx⟩ : ∃ x, l[(k : Int).toNat]? = some x := ⟨_, List.getElem?_eq_getElem (by simpa [hn] using hkn)⟩
    have hx2 : (ii l)[(k : Int).toNat]? = some (.int .i64 x) := by simp only [ii, List.getElem?_map, hx]; rfl
    refine Ent.wT ?_ (by simpa using hkn)
    refine Ent.wiIr hr ?_ rfl rfl rfl (by omega) (by omega) hx2
    refine Ent.condE (fun he => ?_) fun he => ?_
    · subst he
      exact h _ (.inr ⟨by omega, by omega, List.mem_of_getElem? hx⟩)
    · (refine Ent.go ?_)
      refine Ent.imp (Imp.pur ?_ (Imp.refl _)) (hK hkn)
      rw [Int.toNat_natCast] at hx
      rw [List.take_add_one, hx]
      simp [hv, he]
  · have : k = n := by omega
    subst this
    refine Ent.wF ?_ (by simp)
    refine h _ (.inl ⟨rfl, ?_⟩)
    rw [List.take_of_length_le (by omega)] at hv
    exact hv
theorem contains_spec {K : Bool → WP} {a : Option Addr} {n c : Nat} {l : List Int} {v : Int} (hn : l.length = n) (hb : n ≤ 65536) (hr : Rd rest a (ii l)) (h : Ent e rest (K (decide (v ∈ l)))) :
    Ent e rest (slices_Contains_int (.slice a n c) v K) := by
  (refine Ent.fn slices_Contains_int_ok ?_; unfold slices_Contains_int_sh)
  refine index_spec hn hb hr fun t ht => ?_
  have : decide (t ≥ 0) = decide (v ∈ l) := by
    rcases ht with ⟨rfl, h2⟩ | ⟨h1, _, h2⟩
    · rw [decide_eq_false h2]; rfl
    · rw [decide_eq_true h2, decide_eq_true (by omega : t ≥ 0)]
  rw [this]; exact h
/-- the least connection whose job will do, by whatever function -/
theorem least_spec {K : Int → Bool → WP} {f : Nat} {cap : List Value} {CB : List HProp} (pd : Jb → Bool) (hf : memN cll f = true)
    (hw : ∀ (R : List HProp) (x : Ent1) (k : Bool → WP), x.2.2.ws.length ≤ 16 → Ent e (JR x :: (CB ++ R)) (k (pd x.2.2)) → Ent e (JR x :: (CB ++ R)) (FnK P (.one .bool) f (#[jv x.2] ++ cap.toArray) k))
    (h1 : ∀ c q, mfind c X = some q → pd q.2 = true → Ent e (TR b X most :: (CB ++ rest)) (K c true))
    (h0 : (∀ x ∈ X, pd x.2.2 = false) → Ent e (TR b X most :: (CB ++ rest)) (K (-1) false)) :
    Ent e (TR b X most :: (CB ++ rest)) (collapse_Table_least (tv b) (.func (.func f) #[] cap.toArray) K) := by
  (refine Ent.fn collapse_Table_least_ok ?_; unfold collapse_Table_least_sh)
  refine TR.open fun r hk => ?_
  have hlen := hk.len
  (refine Ent.go ?_)
  refine keys_spec fun bm => ?_
  refine Ent.imp ?_ (sorted_spec (vf := jv) (r := r) (bm := bm) (rest := pt b [.map (some r), .int .i64 most] :: Own JR X :: (CB ++ rest)) hk.nd (by omega) fun a c l hp _ => ?_)
  · (focus ((repeat ((with_reducible apply Imp.pick); (repeat (first | exact Pick.hd | apply Pick.tl)))); (repeat (first | exact Imp.refl _ | exact Imp.nil _ | apply Imp.drop)); done))
  have hll : l.length ≤ 8 := by have := hp.length_eq; simp at this; omega
  refine Ent.rdS fun hrd _ => ?_
  (refine Ent.go ?_)
  refine Ent.rngL0 l.length (fun k => pur (∀ x ∈ X, x.1 ∈ l.take k → pd x.2.2 = false) :: SlO a l.length c 1 (ii l) :: Mp (intK .i64) jv r X :: pt b [.map (some r), .int .i64 most] :: Own JR X :: (CB ++ rest)) rfl ?_ ?_
  · exact Imp.pur (by simp) (Imp.refl _)
  intro k hkl K' hK
  refine Ent.pur fun hall => ?_
  by_cases hkn : k < l.length
  · obtain ⟨x, hx⟩ : ∃ x, l[(k : Int).toNat]? = some x := ⟨_, List.getElem?_eq_getElem (by simpa using hkn)⟩
    have hx2 : (ii l)[(k : Int).toNat]? = some (.int .i64 x) := by simp only [ii, List.getElem?_map, hx]; rfl
    have hxm : x ∈ X.map (·.1) := hp.subset (List.mem_of_getElem? hx)
    obtain ⟨⟨x', q⟩, hq, rfl⟩ := List.mem_map.1 hxm
    have hfd := mfind_of_mem hk.nd hq
    refine Ent.wT ?_ (by simpa using hkn)
    refine Ent.wiIr (hrd _ (by (repeat (first | exact Has.hd | apply Has.tl)))) ?_ rfl rfl rfl (by omega) (by omega) hx2
    (refine Ent.go ?_)
    refine Ent.opR (st_mgetT (K := intK .i64) (vf := jv) (a := x') (b := q) (by (repeat (first | exact Has.hd | apply Has.tl))) rfl rfl hfd) ?_
    refine Ent.callF hf ?_
    refine Ent.bring (A := Own JR X) ?_
    refine Ent.imp (Own.take hfd) ?_
    have hws : q.2.ws.length ≤ 16 := by
      have h1 := hk.wt
      have h2 := hk.mx
      have h3 : q.2.ws.length ≤ wsum X := le_sum (List.mem_map.2 ⟨_, hq, rfl⟩)
      omega
    refine Ent.imp (ctx' := JR (x', q) :: (CB ++ (SlO a l.length c 1 (ii l) :: Mp (intK .i64) jv r X :: pt b [.map (some r), .int .i64 most] :: Own JR (mdel x' X) :: rest))) ?_ (hw _ (x', q) _ hws ?_)
    · exact Imp.cons (move5 _ _ _ _ _ _)
    have back : Imp (JR (x', q) :: (CB ++ (SlO a l.length c 1 (ii l) :: Mp (intK .i64) jv r X :: pt b [.map (some r), .int .i64 most] :: Own JR (mdel x' X) :: rest))) (SlO a l.length c 1 (ii l) :: Mp (intK .i64) jv r X :: pt b [.map (some r), .int .i64 most] :: Own JR X :: (CB ++ rest)) := by
      refine (Imp.cons (move5' _ _ _ _ _ _)).trans ?_
      refine Imp.trans (Own.uncons.trans (Own.perm (mdel_perm hfd).symm)) ?_
      (focus ((repeat ((with_reducible apply Imp.pick); (repeat (first | exact Pick.hd | apply Pick.tl)))); (repeat (first | exact Imp.refl _ | exact Imp.nil _ | apply Imp.drop)); done))
    refine Ent.imp back ?_
    cases hpd : pd q.2 with
    | true =>
      refine Ent.wT ?_
      refine Ent.imp ?_ (h1 x' q hfd hpd)
      refine Imp.trans (b := pt b [.map (some r), .int .i64 most] :: Mp (intK .i64) jv r X :: Own JR X :: (CB ++ rest)) (by (focus ((repeat ((with_reducible apply Imp.pick); (repeat (first | exact Pick.hd | apply Pick.tl)))); (repeat (first | exact Imp.refl _ | exact Imp.nil _ | apply Imp.drop)); done))) (TR.shut hk)
    | false =>
      refine Ent.wF ?_
      (refine Ent.go ?_)
      refine Ent.imp (Imp.pur ?_ (Imp.refl _)) (hK hkn)
      intro y hy hyl
      rw [Int.toNat_natCast] at hx
      rw [List.take_add_one, hx] at hyl
      rcases List.mem_append.1 hyl with h | h
      · exact hall y hy h
      · simp only [Option.toList_some, List.mem_singleton] at h
        obtain ⟨y1, y2⟩ := y
        dsimp only at h
        subst h
        have := mfind_of_mem hk.nd hy
        rw [hfd] at this
        cases this
        exact hpd
  · have : k = l.length := by omega
    subst this
    refine Ent.wF ?_ (by simp)
    rw [List.take_of_length_le (Nat.le_refl _)] at hall
    refine Ent.imp ?_ (h0 fun x hx => hall x hx (hp.symm.subset (List.mem_map.2 ⟨_, hx, rfl⟩)))
    refine Imp.trans (b := pt b [.map (some r), .int .i64 most] :: Mp (intK .i64) jv r X :: Own JR X :: (CB ++ rest)) (by (focus ((repeat ((with_reducible apply Imp.pick); (repeat (first | exact Pick.hd | apply Pick.tl)))); (repeat (first | exact Imp.refl _ | exact Imp.nil _ | apply Imp.drop)); done))) (TR.shut hk)
end
end Go.Proofs.Ytgbihlbgkkpciaa.Co
