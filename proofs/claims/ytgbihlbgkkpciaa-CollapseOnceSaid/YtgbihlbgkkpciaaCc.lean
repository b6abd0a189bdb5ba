/-
  COLLAPSE (layer 24): what the statement keeps beside the table.
-/
import Derived.Test.YtgbihlbgkkpciaaCm
set_option maxRecDepth 100000
set_option linter.unusedVariables false
set_option linter.unusedSectionVars false
set_option linter.unusedSimpArgs false
set_option maxHeartbeats 0
namespace Go.Proofs.Ytgbihlbgkkpciaa.Co
open Go Sh Sl
attribute [local irreducible] condK ArK NilK OpK FnK StK joinK loopK DrawK andK PuK NxK EnK vS uS bS callS invokeS
/-- who is of a job, in order -/
def al (j : Jb) : List Int := (if 0 ≤ j.ld then [j.ld] else []) ++ j.ws
abbrev JE := Int × Option Addr × Nat × List Int
abbrev jsv (q : Option Addr × Nat × List Int) : Value := .slice q.1 q.2.2.length q.2.1
def JO (x : JE) : HProp := SlO x.2.1 x.2.2.2.length x.2.2.1 1 (ii x.2.2.2)
def JC (J : List JE) : List (Int × List Int) := J.map fun x => (x.1, x.2.2.2)
def AC (X : List Ent1) : List (Int × List Int) := X.map fun x => (x.1, al x.2.2)
def UC (X : List Ent1) : List (Int × ByteArray) := X.map fun x => (x.1, x.2.2.url)
abbrev iv (n : Int) : Value := .int .i64 n
abbrev sv (u : ByteArray) : Value := .agg #[.string u]
structure LI (X : List Ent1) (J : List JE) (S : List (Int × Int)) (U : List (Int × ByteArray)) : Prop where
  kn : (X.map (·.1)).Nodup
  jc : (JC J).Perm (AC X)
  uc : U.Perm (UC X)
  sp : ∀ x ∈ X, mfind x.1 S = some (if x.2.2.sp then 1 else 0)
  nd : (X.flatMap fun x => al x.2.2).Nodup
  lw : ∀ x ∈ X, x.2.2.ws.length ≤ 16
theorem JC_keys (J : List JE) : (JC J).map (·.1) = J.map (·.1) := by unfold JC; rw [List.map_map]; rfl
theorem AC_keys (X : List Ent1) : (AC X).map (·.1) = X.map (·.1) := by unfold AC; rw [List.map_map]; rfl
theorem UC_keys (X : List Ent1) : (UC X).map (·.1) = X.map (·.1) := by unfold UC; rw [List.map_map]; rfl
theorem mfind_perm {α β : Type} [DecidableEq α] {m m' : List (α × β)} (h : m.Perm m') (hn : (m'.map (·.1)).Nodup) (a : α) : mfind a m = mfind a m' := by
  have hn' : (m.map (·.1)).Nodup := (h.map _).symm.nodup hn
  cases h1 : mfind a m' with
  | some b => exact mfind_of_mem hn' (h.symm.subset (mfind_mem h1))
  | none =>
    have := mfind_iff.1 h1
    exact mfind_iff.2 fun hx => this ((h.map _).subset hx)
theorem mfind_map {α β γ : Type} [DecidableEq α] (f : β → γ) (a : α) : ∀ m : List (α × β), mfind a (m.map fun x => (x.1, f x.2)) = (mfind a m).map f
  | [] => rfl
  | q :: m => by
    simp only [List.map_cons, mfind]
    by_cases h : q.1 = a
    · simp [h]
    · simp only [if_neg h]; exact mfind_map f a m
section
variable {X : List Ent1} {J : List JE} {S : List (Int × Int)} {U : List (Int × ByteArray)}
theorem LI.jn (h : LI X J S U) : (J.map (·.1)).Nodup := by rw [← JC_keys]; exact (h.jc.map _).symm.nodup (by rw [AC_keys]; exact h.kn)
theorem LI.un (h : LI X J S U) : (U.map (·.1)).Nodup := (h.uc.map _).symm.nodup (by rw [UC_keys]; exact h.kn)
theorem LI.j (h : LI X J S U) (c : Int) : (mfind c J).map (·.2.2) = (mfind c X).map fun q => al q.2 := by
  have h1 := mfind_perm h.jc (by rw [AC_keys]; exact h.kn) c
  unfold JC AC at h1
  rw [mfind_map (fun q : Option Addr × Nat × List Int => q.2.2), mfind_map (fun q : Nat × Jb => al q.2)] at h1
  exact h1
theorem LI.u (h : LI X J S U) (c : Int) : mfind c U = (mfind c X).map fun q => q.2.url := by
  have h1 := mfind_perm h.uc (by rw [UC_keys]; exact h.kn) c
  unfold UC at h1
  rw [mfind_map (fun q : Nat × Jb => q.2.url)] at h1
  exact h1
theorem LI.j1 (h : LI X J S U) {c : Int} {p : Nat} {j : Jb} (hf : mfind c X = some (p, j)) : ∃ a k, mfind c J = some (a, k, al j) := by
  have := h.j c
  rw [hf] at this
  cases hj : mfind c J with
  | none => rw [hj] at this; cases this
  | some q => obtain ⟨a, k, l⟩ := q; rw [hj] at this; cases this; exact ⟨a, k, rfl⟩
theorem LI.j0 (h : LI X J S U) {c : Int} (hf : mfind c X = none) : mfind c J = none := by
  have := h.j c
  rw [hf] at this
  cases hj : mfind c J with
  | none => rfl
  | some q => rw [hj] at this; cases this
theorem LI.u1 (h : LI X J S U) {c : Int} {p : Nat} {j : Jb} (hf : mfind c X = some (p, j)) : mfind c U = some j.url := by rw [h.u c, hf]; rfl
theorem LI.u0 (h : LI X J S U) {c : Int} (hf : mfind c X = none) : mfind c U = none := by rw [h.u c, hf]; rfl
theorem LI.s1 (h : LI X J S U) {c : Int} {p : Nat} {j : Jb} (hf : mfind c X = some (p, j)) : mfind c S = some (if j.sp then 1 else 0) := h.sp _ (mfind_mem hf)
theorem has_al (j : Jb) (s : Int) : hasB j s = decide (s ∈ al j) := by
  unfold hasB al
  by_cases h1 : j.ld = s
  · subst h1
    by_cases h2 : 0 ≤ j.ld <;> simp [h2]
  · by_cases h2 : 0 ≤ j.ld <;> simp [h1, h2, Ne.symm h1]
theorem LI.nil : LI [] [] [] [] := ⟨by simp, .refl _, .refl _, by simp, by simp, by simp⟩
theorem flat_perm {X Y : List Ent1} (h : X.Perm Y) : (X.flatMap fun x => al x.2.2).Perm (Y.flatMap fun x => al x.2.2) := h.flatMap_right _
theorem cons_cancel {β : Type} {c : Int} {l l' : β} {A B : List (Int × β)} (h : ((c, l) :: A).Perm ((c, l') :: B)) (hn : (((c, l') :: B).map (·.1)).Nodup) : l = l' ∧ A.Perm B := by
  have h1 := mfind_perm h hn c
  simp only [mfind, if_true, Option.some.injEq] at h1
  subst h1
  exact ⟨rfl, h.cons_inv⟩
theorem LI.begin (h : LI X J S U) {c : Int} {p : Nat} {url : ByteArray} {sh : Bool} {ld : Int} {a : Option Addr} {k : Nat} (hf : mfind c X = none) (h0 : 0 ≤ ld) (hno : ∀ x ∈ X, hasB x.2.2 ld = false) :
    LI (mset c (p, ⟨url, sh, false, ld, []⟩) X) (mset c (a, k, [ld]) J) (mset c 0 S) (mset c url U) := by
  have e1 := mset_perm (a := c) (b := ((p, ⟨url, sh, false, ld, []⟩) : Nat × Jb)) (m := X)
  have e2 := mset_perm (a := c) (b := ((a, k, [ld]) : Option Addr × Nat × List Int)) (m := J)
  have e3 := mset_perm (a := c) (b := url) (m := U)
  rw [mdel_none hf] at e1
  rw [mdel_none (h.j0 hf)] at e2
  rw [mdel_none (h.u0 hf)] at e3
  have eal : al ⟨url, sh, false, ld, []⟩ = [ld] := by simp [al, h0]
  refine ⟨mset_nodup h.kn, ?_, ?_, fun x hx => ?_, ?_, fun x hx => ?_⟩
  · refine (e2.map _).trans (List.Perm.trans ?_ (e1.map _).symm)
    simp only [List.map_cons, eal]
    exact h.jc.cons _
  · refine e3.trans (List.Perm.trans ?_ (e1.map _).symm)
    simp only [List.map_cons]
    exact h.uc.cons _
  · rcases List.mem_cons.1 (e1.subset hx) with rfl | hx
    · rw [mfind_set]; simp
    · have hne : x.1 ≠ c := fun e => mfind_iff.1 hf (List.mem_map.2 ⟨x, hx, e⟩)
      rw [mfind_set, if_neg hne]; exact h.sp x hx
  · refine (flat_perm e1).symm.nodup ?_
    simp only [List.flatMap_cons, eal, List.singleton_append, List.nodup_cons]
    refine ⟨fun hm => ?_, h.nd⟩
    obtain ⟨x, hx, hm⟩ := List.mem_flatMap.1 hm
    have := hno x hx
    rw [has_al, decide_eq_false_iff_not] at this
    exact this hm
  · rcases List.mem_cons.1 (e1.subset hx) with rfl | hx
    · simp
    · exact h.lw x hx
theorem LI.join (h : LI X J S U) {c : Int} {p : Nat} {j : Jb} {n : Int} {a a' : Option Addr} {k k' : Nat} (hf : mfind c X = some (p, j)) (hj : mfind c J = some (a', k', al j)) (hl : j.ws.length < 16) (hno : ∀ x ∈ X, hasB x.2.2 n = false) :
    LI (mset c (p, { j with ws := j.ws ++ [n] }) X) (mset c (a, k, al j ++ [n]) J) S U := by
  have e1 := mset_perm (a := c) (b := ((p, { j with ws := j.ws ++ [n] }) : Nat × Jb)) (m := X)
  have e2 := mset_perm (a := c) (b := ((a, k, al j ++ [n]) : Option Addr × Nat × List Int)) (m := J)
  have d1 := mdel_perm hf
  have d2 := mdel_perm hj
  have eal : al { j with ws := j.ws ++ [n] } = al j ++ [n] := by simp [al]
  have hk : ((AC ((c, p, j) :: mdel c X)).map (·.1)).Nodup := by rw [AC_keys]; exact (d1.map _).nodup h.kn
  have dj : (JC J).Perm ((c, al j) :: JC (mdel c J)) := d2.map _
  have dx : (AC X).Perm ((c, al j) :: AC (mdel c X)) := d1.map _
  have hc := cons_cancel (dj.symm.trans (h.jc.trans dx)) hk
  refine ⟨mset_nodup h.kn, ?_, ?_, fun x hx => ?_, ?_, fun x hx => ?_⟩
  · refine (e2.map _).trans (List.Perm.trans ?_ (e1.map _).symm)
    simp only [List.map_cons, eal]
    exact hc.2.cons _
  · refine h.uc.trans ((d1.map _).trans (List.Perm.trans ?_ (e1.map _).symm))
    exact .refl _
  · rcases List.mem_cons.1 (e1.subset hx) with rfl | hx
    · show mfind c S = some (if j.sp then 1 else 0)
      exact h.s1 hf
    · exact h.sp x (mdel_sub.subset hx)
  · refine (flat_perm e1).symm.nodup ?_
    have hnd := (flat_perm d1).nodup h.nd
    simp only [List.flatMap_cons, eal] at hnd ⊢
    have hp : (al j ++ [n] ++ (mdel c X).flatMap fun x => al x.2.2).Perm (n :: (al j ++ (mdel c X).flatMap fun x => al x.2.2)) := by
      rw [List.append_assoc]; exact List.perm_middle
    refine hp.symm.nodup (List.nodup_cons.2 ⟨fun hm => ?_, hnd⟩)
    have hm2 : n ∈ ((c, p, j) :: mdel c X).flatMap fun x => al x.2.2 := by simpa using hm
    obtain ⟨x, hx, hm⟩ := List.mem_flatMap.1 hm2
    have := hno x (d1.symm.subset hx)
    rw [has_al, decide_eq_false_iff_not] at this
    exact this hm
  · rcases List.mem_cons.1 (e1.subset hx) with rfl | hx
    · simp; omega
    · exact h.lw x (mdel_sub.subset hx)
theorem al_lv (j : Jb) (s : Int) : al (lv j s) = wo (al j) s := by
  unfold al lv wo
  by_cases h1 : j.ld = s
  · subst h1
    by_cases h2 : 0 ≤ j.ld <;> simp [h2]
  · by_cases h2 : 0 ≤ j.ld <;> simp [h1, h2]
theorem LI.leave (h : LI X J S U) {c : Int} {p : Nat} {j : Jb} {s : Int} {J' : List JE} (hf : mfind c X = some (p, j)) (hs : hasB j s = true) (hJ : (JC J').Perm ((JC J).map fun x => (x.1, wo x.2 s))) :
    LI (mset c (p, lv j s) X) J' S U := by
  have e1 := mset_perm (a := c) (b := ((p, lv j s) : Nat × Jb)) (m := X)
  have d1 := mdel_perm hf
  have hnd := (flat_perm d1).nodup h.nd
  simp only [List.flatMap_cons] at hnd
  rw [has_al, decide_eq_true_iff] at hs
  have hno : ∀ x ∈ mdel c X, s ∉ al x.2.2 := fun x hx hm => (List.nodup_append.1 hnd).2.2 s hs s (List.mem_flatMap.2 ⟨x, hx, hm⟩) rfl
  refine ⟨mset_nodup h.kn, ?_, ?_, fun x hx => ?_, ?_, fun x hx => ?_⟩
  · refine hJ.trans (((h.jc.trans (d1.map _)).map _).trans (List.Perm.trans ?_ (e1.map _).symm))
    simp only [List.map_cons, al_lv]
    refine List.Perm.cons _ ?_
    rw [List.map_map]
    refine List.Perm.of_eq (List.map_congr_left fun x hx => ?_)
    simp only [Function.comp, wo_none (hno x hx)]
  · refine h.uc.trans ((d1.map _).trans (List.Perm.trans ?_ (e1.map _).symm))
    exact .refl _
  · rcases List.mem_cons.1 (e1.subset hx) with rfl | hx
    · show mfind c S = some (if j.sp then 1 else 0)
      exact h.s1 hf
    · exact h.sp x (mdel_sub.subset hx)
  · refine (flat_perm e1).symm.nodup ?_
    simp only [List.flatMap_cons, al_lv]
    exact hnd.sublist (List.filter_sublist.append_right _)
  · rcases List.mem_cons.1 (e1.subset hx) with rfl | hx
    · exact Nat.le_trans (wo_len _ _) (h.lw _ (mfind_mem hf))
    · exact h.lw x (mdel_sub.subset hx)
theorem LI.spoil (h : LI X J S U) {url : ByteArray} {S' : List (Int × Int)} (hS : ∀ c, (c, url) ∈ U → mfind c S' = some 1) (hS0 : ∀ c, (c, url) ∉ U → mfind c S' = mfind c S) : LI (X.map (spo url)) J S' U := by
  have e1 : ∀ x : Ent1, al (spo url x).2.2 = al x.2.2 := fun x => by unfold spo; split <;> rfl
  have e2 : ∀ x : Ent1, (spo url x).2.2.url = x.2.2.url := fun x => by unfold spo; split <;> rfl
  refine ⟨by rw [spo_keys]; exact h.kn, ?_, ?_, fun x hx => ?_, ?_, fun x hx => ?_⟩
  · have : AC (X.map (spo url)) = AC X := by
      unfold AC; rw [List.map_map]; exact List.map_congr_left fun x _ => by simp only [Function.comp, e1, spo_1]
    rw [this]; exact h.jc
  · have : UC (X.map (spo url)) = UC X := by
      unfold UC; rw [List.map_map]; exact List.map_congr_left fun x _ => by simp only [Function.comp, e2, spo_1]
    rw [this]; exact h.uc
  · obtain ⟨y, hy, rfl⟩ := List.mem_map.1 hx
    rw [spo_1]
    have hu : (y.1, url) ∈ U ↔ y.2.2.url = url := by
      constructor
      · intro hm
        have h1 := mfind_of_mem h.un hm
        rw [h.u1 (p := y.2.1) (j := y.2.2) (mfind_of_mem h.kn hy)] at h1
        exact Option.some.inj h1
      · intro he
        have : (y.1, y.2.2.url) ∈ UC X := List.mem_map.2 ⟨y, hy, rfl⟩
        rw [he] at this
        exact h.uc.symm.subset this
    by_cases he : y.2.2.url = url
    · rw [hS _ (hu.2 he)]; unfold spo; rw [if_pos he]; rfl
    · rw [hS0 _ (fun hm => he (hu.1 hm))]; unfold spo; rw [if_neg he]; exact h.sp y hy
  · rw [List.flatMap_map]
    simp only [e1]
    exact h.nd
  · obtain ⟨y, hy, rfl⟩ := List.mem_map.1 hx
    rw [spo_w]; exact h.lw y hy
theorem LI.fin (h : LI X J S U) {c : Int} {p : Nat} {j : Jb} {a : Option Addr} {k : Nat} (hf : mfind c X = some (p, j)) (hj : mfind c J = some (a, k, al j)) : LI (mdel c X) (mdel c J) S (mdel c U) := by
  have d1 := mdel_perm hf
  have d2 := mdel_perm hj
  have d3 := mdel_perm (h.u1 hf)
  have hk : ((AC ((c, p, j) :: mdel c X)).map (·.1)).Nodup := by rw [AC_keys]; exact (d1.map _).nodup h.kn
  have dj : (JC J).Perm ((c, al j) :: JC (mdel c J)) := d2.map _
  have dx : (AC X).Perm ((c, al j) :: AC (mdel c X)) := d1.map _
  have hc := cons_cancel (dj.symm.trans (h.jc.trans dx)) hk
  have hk2 : ((UC ((c, p, j) :: mdel c X)).map (·.1)).Nodup := by rw [UC_keys]; exact (d1.map _).nodup h.kn
  have du : (UC X).Perm ((c, j.url) :: UC (mdel c X)) := d1.map _
  have hc2 := cons_cancel (d3.symm.trans (h.uc.trans du)) hk2
  refine ⟨mdel_nodup h.kn, hc.2, hc2.2, fun x hx => h.sp x (mdel_sub.subset hx), ?_, fun x hx => h.lw x (mdel_sub.subset hx)⟩
  have hnd := (flat_perm d1).nodup h.nd
  simp only [List.flatMap_cons] at hnd
  exact (List.nodup_append.1 hnd).2.1
theorem LI.len (h : LI X J S U) {x : JE} (hx : x ∈ J) : x.2.2.2.length ≤ 17 := by
  have : (x.1, x.2.2.2) ∈ AC X := h.jc.subset (List.mem_map.2 ⟨x, hx, rfl⟩)
  obtain ⟨y, hy, he⟩ := List.mem_map.1 this
  have e1 : al y.2.2 = x.2.2.2 := (Prod.mk.inj he).2
  rw [← e1]
  have := h.lw y hy
  unfold al
  split <;> simp <;> omega
theorem LI.slots (h : LI X J S U) : (J.flatMap fun x => x.2.2.2).Nodup := by
  have h1 : (J.flatMap fun x => x.2.2.2) = (JC J).flatMap (·.2) := by unfold JC; rw [List.flatMap_map]
  have h2 : (X.flatMap fun x => al x.2.2) = (AC X).flatMap (·.2) := by unfold AC; rw [List.flatMap_map]
  rw [h1]
  refine (h.jc.flatMap_right _).symm.nodup ?_
  rw [← h2]; exact h.nd
end
theorem mset_mid {α β : Type} [DecidableEq α] {a : α} {q b : β} {l1 l2 m : List (α × β)} (hp : (l1 ++ [(a, q)] ++ l2).Perm m) (hn : (m.map (·.1)).Nodup) : (l1 ++ [(a, b)] ++ l2).Perm (mset a b m) := by
  have hm : (a, q) ∈ m := hp.subset (by simp)
  have h1 := mdel_perm (mfind_of_mem hn hm)
  have h2 : ∀ x : α × β, (l1 ++ [x] ++ l2).Perm (x :: (l1 ++ l2)) := fun x => by simp [List.perm_middle]
  have h3 := ((h2 (a, q)).symm.trans (hp.trans h1)).cons_inv
  exact (h2 (a, b)).trans ((h3.cons _).trans mset_perm.symm)
section
variable {e : Env} {ctx rest : List HProp} {J : List JE}
theorem out_spec {K : Value → WP} {jb rj : Nat} {slot : Int} (hn : (J.map (·.1)).Nodup) (hl : ∀ x ∈ J, x.2.2.2.length ≤ 17)
    (h : ∀ J', (JC J').Perm ((JC J).map fun x => (x.1, wo x.2 slot)) → Ent e (pt jb [.map (some rj)] :: Mp (intK .i64) jsv rj J' :: Own JO J' :: rest) (K (.tuple #[]))) :
    Ent e (pt jb [.map (some rj)] :: Mp (intK .i64) jsv rj J :: Own JO J :: rest) (law24_CollapseOnce_c1 slot (tv jb) K) := by
  (refine Ent.fn law24_CollapseOnce_c1_ok ?_; unfold law24_CollapseOnce_c1_sh)
  (refine Ent.go ?_)
  refine Ent.mrange (K := intK .i64) (vf := jsv) (by (repeat (first | exact Pick.hd | apply Pick.tl))) rfl fun i => ?_
  refine Ent.loop0 (fun N => exs (fun (y : List JE × List JE × List JE × List JE) => sepL [pur ((y.1 ++ y.2.1).Perm J ∧ JC y.2.2.1 = (JC y.1).map (fun x => (x.1, wo x.2 slot)) ∧ N = y.2.1.length ∧ (y.2.2.1 ++ y.2.1).Perm y.2.2.2 ∧ (y.2.2.2.map (·.1)).Nodup), MpI (intK .i64) jsv rj i y.2.2.2 (y.2.2.1.map (·.1)), Own JO y.2.2.1, Own JO y.2.1]) :: pt jb [.map (some rj)] :: rest) J.length ?_ ?_
  · refine Imp.exs ([], J, [], J) (Imp.g4 (Imp.pur ⟨.refl _, rfl, rfl, .refl _, hn⟩ ?_))
    refine Imp.trans (b := MpI (intK .i64) jsv rj i J [] :: Own JO J :: pt jb [.map (some rj)] :: rest) (by (focus ((repeat ((with_reducible apply Imp.pick); (repeat (first | exact Pick.hd | apply Pick.tl)))); (repeat (first | exact Imp.refl _ | exact Imp.nil _ | apply Imp.drop)); done))) ?_
    exact Imp.cons (Own.nil (Imp.refl _))
  intro N K' hK
  refine Ent.exs fun ⟨dn0, rm, dn, Jc⟩ => Ent.g4 (Ent.pur fun ⟨f1, f2, f3, f4, f5⟩ => ?_)
  dsimp only at f1 f2 f3 f4 f5
  dsimp only
  subst f3
  refine Ent.mnextP (by (repeat (first | exact Pick.hd | apply Pick.tl))) f4 f5 (fun hrm => ?_) (fun a q rm' hp hm f6 => ?_)
  · subst hrm
    rw [List.append_nil] at f1 f4
    refine Ent.imp ?_ (h Jc ?_)
    · refine MpI.imp.trans ?_
      refine Imp.trans (b := Own JO dn :: pt jb [.map (some rj)] :: Mp (intK .i64) jsv rj Jc :: rest) (by (focus ((repeat ((with_reducible apply Imp.pick); (repeat (first | exact Pick.hd | apply Pick.tl)))); (repeat (first | exact Imp.refl _ | exact Imp.nil _ | apply Imp.drop)); done))) ?_
      refine (Own.perm f4).trans ?_
      (focus ((repeat ((with_reducible apply Imp.pick); (repeat (first | exact Pick.hd | apply Pick.tl)))); (repeat (first | exact Imp.refl _ | exact Imp.nil _ | apply Imp.drop)); done))
    · refine (f4.symm.map _).trans ?_
      show (JC dn).Perm _
      rw [f2]
      exact (f1.map _).map _
  · obtain ⟨a0, k0, l⟩ := q
    refine Ent.mentry (K := intK .i64) (k1 := .int .i64) (k2 := .raw) (x := a) (y := jsv (a0, k0, l)) (by (repeat (first | exact Has.hd | apply Has.tl))) hm rfl rfl ?_
    refine Ent.bring (A := Own JO rm) ?_
    refine Ent.imp ((Own.perm hp).trans Own.cons) ?_
    have hjm : (a, a0, k0, l) ∈ J := f1.subset (List.mem_append_right _ (hp.symm.subset List.mem_cons_self))
    have hll : l.length ≤ 17 := hl _ hjm
    show Ent e (SlO a0 l.length k0 1 (ii l) :: Own JO rm' :: MpI (intK .i64) jsv rj i Jc (dn.map (·.1) ++ [a]) :: Own JO dn :: pt jb [.map (some rj)] :: rest) _
    refine Ent.rdS fun hrd _ => ?_
    (refine Ent.go ?_)
    refine Ent.rngL1 (k0 := .raw) l.length (fun k v => exs (fun (y : Option Addr × Nat) => sepL [pur (v = .slice y.1 (wo (l.take k) slot).length y.2), SlO y.1 (wo (l.take k) slot).length y.2 1 (ii (wo (l.take k) slot))]) :: SlO a0 l.length k0 1 (ii l) :: Own JO rm' :: MpI (intK .i64) jsv rj i Jc (dn.map (·.1) ++ [a]) :: Own JO dn :: pt jb [.map (some rj)] :: rest) rfl ?_ ?_
    · refine Imp.exs (none, 0) (Imp.g2 (Imp.pur rfl ?_))
      exact Imp.slN (Imp.refl _)
    intro k hk K2 hK2 v
    refine Ent.exs fun ⟨a2, c2⟩ => Ent.g2 (Ent.pur fun hv => ?_)
    dsimp only at hv
    dsimp only
    subst hv
    by_cases hkn : k < l.length
    · obtain ⟨x, hx⟩ : ∃ x, l[(k : Int).toNat]? = some x := ⟨_, List.getElem?_eq_getElem (by simpa using hkn)⟩
      have hx2 : (ii l)[(k : Int).toNat]? = some (.int .i64 x) := by simp only [ii, List.getElem?_map, hx]; rfl
      rw [Int.toNat_natCast] at hx
      have hw := wo_take (v := slot) hx
      refine Ent.wT ?_ (by simpa using hkn)
      refine Ent.wiIr (n := l.length) (hrd _ (by (repeat (first | exact Has.hd | apply Has.tl)))) ?_ rfl rfl rfl (by omega) (by omega) hx2
      have hw17 : (wo (l.take k) slot).length ≤ 17 := by
        have h1 := wo_len (l.take k) slot
        rw [List.length_take] at h1
        omega
      refine Ent.condN (fun hne => ?_) fun he => ?_
      · rw [if_neg hne] at hw
        refine Ent.app1 (fun a3 c3 => ?_)
        (refine Ent.go ?_)
        refine Ent.imp ?_ (hK2 hkn _)
        refine Imp.exs (a3, c3) (Imp.g2 (Imp.pur ?_ ?_))
        · rw [hw]; simp
        · rw [hw]
          have e9 : ii (wo (l.take k) slot ++ [x]) = ii (wo (l.take k) slot) ++ [.int .i64 x] := by simp [ii]
          rw [e9, List.length_append]
          exact Imp.refl _
      · rw [if_pos he] at hw
        (refine Ent.go ?_)
        refine Ent.imp ?_ (hK2 hkn _)
        refine Imp.exs (a2, c2) (Imp.g2 (Imp.pur ?_ ?_))
        · rw [hw]
        · rw [hw]; exact Imp.refl _
    · have hkl : k = l.length := by omega
      subst hkl
      rw [List.take_of_length_le (Nat.le_refl _)]
      (refine Ent.go ?_)
      refine Ent.msetI (K := intK .i64) (vf := jsv) (a := a) (b := (a2, c2, wo l slot)) (by (repeat (first | exact Upd.hd | apply Upd.tl))) (mfind_of_mem f5 hm) rfl rfl ?_
      have hrl : rm'.length < rm.length := by have := hp.length_eq; simp at this; omega
      refine Ent.imp ?_ (hK rm'.length hrl)
      refine Imp.exs (dn0 ++ [(a, a0, k0, l)], rm', dn ++ [(a, a2, c2, wo l slot)], mset a (a2, c2, wo l slot) Jc) (Imp.g4 (Imp.pur ⟨?_, ?_, rfl, ?_, mset_nodup f5⟩ ?_))
      · refine List.Perm.trans ?_ f1
        rw [List.append_assoc]
        exact hp.symm.append_left dn0
      · unfold JC at f2 ⊢
        simp only [List.map_append, f2, List.map_cons, List.map_nil]
      · exact mset_mid f6 f5
      · rw [dn_snoc]
        refine Imp.trans (b := JO (a, a2, c2, wo l slot) :: Own JO dn :: MpI (intK .i64) jsv rj i (mset a (a2, c2, wo l slot) Jc) (dn.map (·.1) ++ [a]) :: Own JO rm' :: pt jb [.map (some rj)] :: rest) ?_ ?_
        · unfold JO
          (focus ((repeat ((with_reducible apply Imp.pick); (repeat (first | exact Pick.hd | apply Pick.tl)))); (repeat (first | exact Imp.refl _ | exact Imp.nil _ | apply Imp.drop)); done))
        · refine (Own.uncons.trans (Own.perm (List.perm_append_comm (l₁ := [(a, a2, c2, wo l slot)]) (l₂ := dn)))).trans ?_
          (focus ((repeat ((with_reducible apply Imp.pick); (repeat (first | exact Pick.hd | apply Pick.tl)))); (repeat (first | exact Imp.refl _ | exact Imp.nil _ | apply Imp.drop)); done))
end
end Go.Proofs.Ytgbihlbgkkpciaa.Co
