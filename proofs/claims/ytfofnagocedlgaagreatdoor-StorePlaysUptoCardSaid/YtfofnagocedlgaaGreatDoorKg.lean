/- The texts Vn Ve Vf FS Se, laid together. -/
import Derived.Test.YtfofnagocedlgaaGreatDoorKc
import Derived.Test.YtfofnagocedlgaaGreatDoorKf
section
/-
  FIELDS (layer 16): Names.
-/
set_option maxRecDepth 100000
set_option linter.unusedVariables false
set_option linter.unusedSectionVars false
set_option linter.unusedSimpArgs false
set_option maxHeartbeats 0
namespace Go.Proofs.YtfofnagocedlgaaGreatDoor.Tx
open Go Sh Sl
attribute [local irreducible] condK ArK NilK OpK FnK StK joinK loopK DrawK andK PuK NxK EnK vS uS bS callS invokeS
def nmS (acc : List Bs) (x : Bs) : List Bs := if lower x = [42] ∨ lower x ∈ acc then acc else acc ++ [lower x]
def nm (xs : List Bs) : List Bs := xs.foldl nmS []
def star (xs : List Bs) : Bool := decide ([42] ∈ xs.map lower)
theorem star_snoc (xs : List Bs) (x : Bs) : star (xs ++ [x]) = (decide (lower x = [42]) || star xs) := by
  unfold star
  rw [Bool.eq_iff_iff]
  simp only [decide_eq_true_eq, Bool.or_eq_true, List.map_append, List.map_cons, List.map_nil, List.mem_append, List.mem_singleton]
  constructor
  · rintro (h | h)
    · exact .inr h
    · exact .inl h.symm
  · rintro (h | h)
    · exact .inr h.symm
    · exact .inl h
theorem nm_snoc (xs : List Bs) (x : Bs) : nm (xs ++ [x]) = nmS (nm xs) x := by simp [nm]
theorem nmS_mem {acc : List Bs} {x n : Bs} : n ∈ nmS acc x ↔ n ∈ acc ∨ (n = lower x ∧ n ≠ [42]) := by
  unfold nmS
  by_cases h1 : lower x = [42]
  · rw [if_pos (.inl h1)]
    constructor
    · exact .inl
    · rintro (h | ⟨h, h2⟩)
      · exact h
      · exact absurd (h.trans h1) h2
  · by_cases h2 : lower x ∈ acc
    · rw [if_pos (.inr h2)]
      constructor
      · exact .inl
      · rintro (h | ⟨h, _⟩)
        · exact h
        · rw [h]; exact h2
    · rw [if_neg (by simp [h1, h2])]
      simp only [List.mem_append, List.mem_singleton]
      constructor
      · rintro (h | h)
        · exact .inl h
        · exact .inr ⟨h, h ▸ h1⟩
      · rintro (h | ⟨h, _⟩)
        · exact .inl h
        · exact .inr h
theorem nm_mem {n : Bs} (xs : List Bs) : n ∈ nm xs ↔ n ∈ xs.map lower ∧ n ≠ [42] := by
  have : ∀ (xs acc : List Bs), n ∈ xs.foldl nmS acc ↔ n ∈ acc ∨ (n ∈ xs.map lower ∧ n ≠ [42]) := by
    intro xs
    induction xs with
    | nil => intro acc; simp
    | cons x xs ih =>
      intro acc
      rw [List.foldl_cons, ih, nmS_mem]
      simp only [List.map_cons, List.mem_cons]
      constructor
      · rintro ((h | ⟨h, h2⟩) | ⟨h, h2⟩)
        · exact .inl h
        · exact .inr ⟨.inl h, h2⟩
        · exact .inr ⟨.inr h, h2⟩
      · rintro (h | ⟨h | h, h2⟩)
        · exact .inl (.inl h)
        · exact .inl (.inr ⟨h, h2⟩)
        · exact .inr ⟨h, h2⟩
  have := this xs []
  simpa [nm] using this
theorem nm_len (xs : List Bs) : (nm xs).length ≤ xs.length := by
  have : ∀ (xs acc : List Bs), (xs.foldl nmS acc).length ≤ acc.length + xs.length := by
    intro xs
    induction xs with
    | nil => intro acc; simp
    | cons x xs ih =>
      intro acc
      rw [List.foldl_cons]
      have h1 := ih (nmS acc x)
      have h2 : (nmS acc x).length ≤ acc.length + 1 := by unfold nmS; split <;> simp
      simp only [List.length_cons]; omega
  have := this xs []
  simpa [nm] using this
theorem nm_size (xs : List Bs) : ∀ n ∈ nm xs, n.length ≤ tot xs := by
  intro n hn
  obtain ⟨h, _⟩ := (nm_mem xs).1 hn
  obtain ⟨x, hx, rfl⟩ := List.mem_map.1 h
  rw [lower_len]; exact mem_tot hx
section
variable {e : Env} {ctx ctx' rest R : List HProp}
abbrev iV (n : Int) : Value := .int .i64 n
theorem ba_inj {a b : Bs} : (ba a = ba b) ↔ a = b := by simp [ba]
theorem names_spec {K : Value → Bool → WP} {a : Option Addr} {c : Nat} {l : List Fd} (hr : Rd rest a (fc l)) (hl : fsz l ≤ 1099511627776)
    (h : ∀ a c, Ent e (SlO a (nm (elems l [118, 97, 114, 121])).length c 1 (ss (nm (elems l [118, 97, 114, 121]))) :: rest) (K (.slice a (nm (elems l [118, 97, 114, 121])).length c) (star (elems l [118, 97, 114, 121])))) : Ent e rest (vary_Names (.slice a l.length c) K) := by
  (refine Ent.fn vary_Names_ok ?_; unfold vary_Names_sh)
  refine Ent.mmake strK iV fun rm => ?_
  refine elements_spec (n := [118, 97, 114, 121]) hr.tl hl (by decide) fun a1 c1 => ?_
  have hel := elems_tot l [118, 97, 114, 121]
  obtain ⟨g, hg⟩ : ∃ g, g = elems l [118, 97, 114, 121] := ⟨_, rfl⟩
  rw [← hg] at h hel ⊢
  refine Ent.rdS fun hrd _ => ?_
  (refine Ent.go ?_)
  refine Ent.rngL1 (k0 := .raw) g.length (fun k v => exs (fun (y : Option Addr × Nat × List (Bs × Int)) => sepL [pur (v = .slice y.1 (nm (g.take k)).length y.2.1 ∧ (∀ n, mfind n y.2.2 = if n ∈ (g.take k).map lower then some 1 else none)), SlO y.1 (nm (g.take k)).length y.2.1 1 (ss (nm (g.take k))), Mp strK iV rm y.2.2]) :: SlO a1 g.length c1 1 (ss g) :: rest) rfl ?_ ?_
  · refine Imp.exs (none, 0, []) (Imp.g3 (Imp.pur ⟨by simp [nm], fun n => by simp [mfind]⟩ ?_))
    refine Imp.trans ?_ (Imp.slN (sz := 1) (Imp.refl _))
    (focus ((repeat ((with_reducible apply Imp.pick); (repeat (first | exact Pick.hd | apply Pick.tl)))); (repeat (first | exact Imp.refl _ | exact Imp.nil _ | apply Imp.drop)); done))
  intro k hk K' hK v
  refine Ent.exs fun ⟨a2, c2, M⟩ => Ent.g3 (Ent.pur fun ⟨hv, hM⟩ => ?_)
  dsimp only at hv hM
  dsimp only
  subst hv
  by_cases hkn : k < g.length
  · obtain ⟨x, hx⟩ : ∃ x, g[k]? = some x := ⟨_, List.getElem?_eq_getElem hkn⟩
    have hxt := mem_tot (List.mem_of_getElem? hx)
    have hv2 : (ss g)[(k : Int).toNat]? = some (.string (ba x)) := by rw [Int.toNat_natCast]; simp [ss, hx]
    have hs := nm_snoc (g.take k) x
    rw [← take_snoc hx] at hs
    have hnl := nm_len (g.take k)
    have htl : (g.take k).length ≤ g.length := by simp; omega
    have hseen : ∀ n, n ∈ (g.take (k + 1)).map lower ↔ n = lower x ∨ n ∈ (g.take k).map lower := fun n => by
      rw [take_snoc hx]; simp [or_comm]
    refine Ent.wT ?_ (by simpa using hkn)
    refine Ent.wiSr (hrd _ (by (repeat (first | exact Has.hd | apply Has.tl)))) ?_ rfl rfl rfl (by omega) (by omega) hv2
    refine lower_spec (by omega) ?_
    have hnew : ∀ n, mfind n (mset (lower x) 1 M) = if n ∈ (g.take (k + 1)).map lower then some 1 else none := fun n => by
      rw [mfind_set, hM n]
      by_cases h1 : n = lower x
      · rw [if_pos h1, if_pos ((hseen n).2 (.inl h1))]
      · rw [if_neg h1]
        by_cases h2 : n ∈ (g.take k).map lower
        · rw [if_pos h2, if_pos ((hseen n).2 (.inr h2))]
        · rw [if_neg h2, if_neg (fun h3 => (hseen n).1 h3 |>.elim h1 h2)]
    refine Ent.join1 (kd := .bool) (fun b => pur (b = decide (lower x ∉ (g.take k).map lower ∧ lower x ≠ [42])) :: SlO a2 (nm (g.take k)).length c2 1 (ss (nm (g.take k))) :: Mp strK iV rm M :: SlO a1 g.length c1 1 (ss g) :: rest) ?_ ?_
    rotate_left
    · intro k' hk'
      by_cases h1 : lower x ∈ (g.take k).map lower
      · have := hM (lower x)
        rw [if_pos h1] at this
        refine Ent.opI (st_mgetT (K := strK) (vf := iV) (a := lower x) (b := 1) (by (repeat (first | exact Has.hd | apply Has.tl))) rfl rfl this) ?_
        refine Ent.wF ?_
        refine Ent.imp (Imp.pur ?_ (Imp.refl _)) (hk' _)
        rw [decide_eq_false (fun hh => hh.1 h1)]
      · have := hM (lower x)
        rw [if_neg h1] at this
        refine Ent.opI (st_mgetF (K := strK) (vf := iV) (a := lower x) (z := .int .i64 0) (by (repeat (first | exact Has.hd | apply Has.tl))) rfl rfl this (by kernel_rfl)) ?_
        refine Ent.wT ?_
        (refine Ent.go ?_)
        refine Ent.imp (Imp.pur ?_ (Imp.refl _)) (hk' _)
        by_cases h2 : lower x = [42]
        · rw [decide_eq_true (show ba (lower x) = ⟨#[42]⟩ by rw [h2]), decide_eq_false (fun hh => hh.2 h2)]; rfl
        · rw [decide_eq_false (fun hh => h2 (ba_inj (b := [42]).1 hh)), decide_eq_true ⟨h1, h2⟩]; rfl
    intro b
    refine Ent.pur fun hb => ?_
    subst hb
    by_cases hc : lower x ∉ (g.take k).map lower ∧ lower x ≠ [42]
    · have e1 : nmS (nm (g.take k)) x = nm (g.take k) ++ [lower x] := by
        unfold nmS
        rw [if_neg]
        rintro (h1 | h1)
        · exact hc.2 h1
        · exact hc.1 ((nm_mem _).1 h1).1
      rw [e1] at hs
      refine Ent.wT ?_ (decide_eq_true hc)
      refine Ent.app1 (fun a3 c3 => ?_)
      refine Ent.mset (K := strK) (vf := iV) (a := lower x) (b := 1) (by (repeat (first | exact Upd.hd | apply Upd.tl))) rfl rfl ?_
      (refine Ent.go ?_)
      refine Ent.imp ?_ (hK hkn _)
      refine Imp.exs (a3, c3, mset (lower x) 1 M) (Imp.g3 (Imp.pur ⟨?_, hnew⟩ ?_))
      · rw [hs]; simp
      · rw [hs, ss_app, List.length_append]
        (focus ((repeat ((with_reducible apply Imp.pick); (repeat (first | exact Pick.hd | apply Pick.tl)))); (repeat (first | exact Imp.refl _ | exact Imp.nil _ | apply Imp.drop)); done))
    · have e1 : nmS (nm (g.take k)) x = nm (g.take k) := by
        unfold nmS
        rw [if_pos]
        by_cases h2 : lower x = [42]
        · exact .inl h2
        · refine .inr ((nm_mem _).2 ⟨?_, h2⟩)
          by_cases h3 : lower x ∈ (g.take k).map lower
          · exact h3
          · exact absurd ⟨h3, h2⟩ hc
      rw [e1] at hs
      refine Ent.wF ?_ (decide_eq_false hc)
      refine Ent.mset (K := strK) (vf := iV) (a := lower x) (b := 1) (by (repeat (first | exact Upd.hd | apply Upd.tl))) rfl rfl ?_
      (refine Ent.go ?_)
      refine Ent.imp ?_ (hK hkn _)
      refine Imp.exs (a2, c2, mset (lower x) 1 M) (Imp.g3 (Imp.pur ⟨?_, hnew⟩ ?_))
      · rw [hs]
      · rw [hs]
        (focus ((repeat ((with_reducible apply Imp.pick); (repeat (first | exact Pick.hd | apply Pick.tl)))); (repeat (first | exact Imp.refl _ | exact Imp.nil _ | apply Imp.drop)); done))
  · have hkl : k = g.length := by omega
    subst hkl
    refine Ent.wF ?_ (by simp)
    rw [List.take_of_length_le (Nat.le_refl _)] at hM ⊢
    refine Ent.draw _ (Imp.refl _) ?_
    have fin := h a2 c2
    unfold star at fin
    by_cases h1 : [42] ∈ g.map lower
    · have := hM [42]
      rw [if_pos h1] at this
      rw [decide_eq_true h1] at fin
      refine Ent.stI (st_mgetT (K := strK) (vf := iV) (a := [42]) (b := 1) (by (repeat (first | exact Has.hd | apply Has.tl))) rfl rfl this) ?_
      exact Ent.imp (by (focus ((repeat ((with_reducible apply Imp.pick); (repeat (first | exact Pick.hd | apply Pick.tl)))); (repeat (first | exact Imp.refl _ | exact Imp.nil _ | apply Imp.drop)); done))) fin
    · have := hM [42]
      rw [if_neg h1] at this
      rw [decide_eq_false h1] at fin
      refine Ent.stI (st_mgetF (K := strK) (vf := iV) (a := [42]) (z := .int .i64 0) (by (repeat (first | exact Has.hd | apply Has.tl))) rfl rfl this (by kernel_rfl)) ?_
      exact Ent.imp (by (focus ((repeat ((with_reducible apply Imp.pick); (repeat (first | exact Pick.hd | apply Pick.tl)))); (repeat (first | exact Imp.refl _ | exact Imp.nil _ | apply Imp.drop)); done))) fin
theorem ref_names_spec {K : Value → Bool → WP} {a : Option Addr} {c : Nat} {l : List Fd} (hr : Rd rest a (fc l)) (hl : fsz l ≤ 1099511627776)
    (h : ∀ a c, Ent e (SlO a (nm (elems l [118, 97, 114, 121])).length c 1 (ss (nm (elems l [118, 97, 114, 121]))) :: rest) (K (.slice a (nm (elems l [118, 97, 114, 121])).length c) (star (elems l [118, 97, 114, 121])))) : Ent e rest (ref16_Names (.slice a l.length c) K) := by
  (refine Ent.fn ref16_Names_ok ?_; unfold ref16_Names_sh)
  refine ref_elements_spec (n := [118, 97, 114, 121]) hr hl (by decide) fun a1 c1 => ?_
  have hel := elems_tot l [118, 97, 114, 121]
  obtain ⟨g, hg⟩ : ∃ g, g = elems l [118, 97, 114, 121] := ⟨_, rfl⟩
  rw [← hg] at h hel ⊢
  refine Ent.rdS fun hrd _ => ?_
  refine Ent.rngL2 (k0 := .raw) (k1 := .bool) g.length (fun k v b => exs (fun (y : Option Addr × Nat) => sepL [pur (v = .slice y.1 (nm (g.take k)).length y.2 ∧ b = star (g.take k)), SlO y.1 (nm (g.take k)).length y.2 1 (ss (nm (g.take k)))]) :: SlO a1 g.length c1 1 (ss g) :: rest) rfl ?_ ?_
  · refine Imp.exs (none, 0) (Imp.g2 (Imp.pur ⟨by simp [nm], by simp [star]⟩ ?_))
    exact Imp.slN (Imp.refl _)
  intro k hk K' hK v b
  refine Ent.exs fun ⟨a2, c2⟩ => Ent.g2 (Ent.pur fun ⟨hv, hb⟩ => ?_)
  dsimp only at hv hb
  dsimp only
  subst hv hb
  (refine Ent.go ?_)
  by_cases hkn : k < g.length
  · obtain ⟨x, hx⟩ : ∃ x, g[k]? = some x := ⟨_, List.getElem?_eq_getElem hkn⟩
    have hxt := mem_tot (List.mem_of_getElem? hx)
    have hv2 : (ss g)[(k : Int).toNat]? = some (.string (ba x)) := by rw [Int.toNat_natCast]; simp [ss, hx]
    have hs := nm_snoc (g.take k) x
    rw [← take_snoc hx] at hs
    have hnl := nm_len (g.take k)
    have htl : (g.take k).length ≤ g.length := by simp; omega
    have hst : star (g.take (k + 1)) = (decide (lower x = [42]) || star (g.take k)) := by
      rw [take_snoc hx, star_snoc]
    refine Ent.wT ?_ (by simpa using hkn)
    refine Ent.wiSr (hrd _ (by (repeat (first | exact Has.hd | apply Has.tl)))) ?_ rfl rfl rfl (by omega) (by omega) hv2
    refine ref_lower_spec (by omega) ?_
    (refine Ent.go ?_)
    by_cases h42 : lower x = [42]
    · refine Ent.wT ?_ (decide_eq_true (by rw [h42]))
      (refine Ent.go ?_)
      have e1 : nmS (nm (g.take k)) x = nm (g.take k) := by unfold nmS; rw [if_pos (.inl h42)]
      rw [e1] at hs
      rw [decide_eq_true h42] at hst
      refine Ent.imp ?_ (hK hkn _ _)
      refine Imp.exs (a2, c2) (Imp.g2 (Imp.pur ⟨?_, ?_⟩ ?_))
      · rw [hs]
      · rw [hst]; rfl
      · rw [hs]
        (focus ((repeat ((with_reducible apply Imp.pick); (repeat (first | exact Pick.hd | apply Pick.tl)))); (repeat (first | exact Imp.refl _ | exact Imp.nil _ | apply Imp.drop)); done))
    · rw [decide_eq_false h42, Bool.false_or] at hst
      refine Ent.wF ?_ (decide_eq_false (fun hh => h42 (ba_inj (b := [42]).1 hh)))
      obtain ⟨ns, hns⟩ : ∃ ns, ns = nm (g.take k) := ⟨_, rfl⟩
      rw [← hns] at hs hnl ⊢
      refine Ent.rdS fun hrn _ => ?_
      refine Ent.rngL1 (k0 := .bool) ns.length (fun j b => pur (b = decide (lower x ∈ ns.take j)) :: SlO a2 ns.length c2 1 (ss ns) :: SlO a1 g.length c1 1 (ss g) :: rest) rfl ?_ ?_
      · exact Imp.pur (by simp) (Imp.refl _)
      intro j hj K2 hK2 b
      refine Ent.pur fun hb => ?_
      subst hb
      (refine Ent.go ?_)
      by_cases hjn : j < ns.length
      · obtain ⟨y, hy⟩ : ∃ y, ns[j]? = some y := ⟨_, List.getElem?_eq_getElem hjn⟩
        have hy2 : (ss ns)[(j : Int).toNat]? = some (.string (ba y)) := by rw [Int.toNat_natCast]; simp [ss, hy]
        have hmem : (lower x ∈ ns.take (j + 1)) ↔ lower x ∈ ns.take j ∨ lower x = y := by rw [take_snoc hy]; simp
        refine Ent.wT ?_ (by simpa using hjn)
        by_cases h3 : lower x ∈ ns.take j
        · refine Ent.wT ?_ (decide_eq_true h3)
          (refine Ent.go ?_)
          refine Ent.imp (Imp.pur ?_ (Imp.refl _)) (hK2 hjn _)
          rw [decide_eq_true (hmem.2 (.inl h3))]
        · refine Ent.wF ?_ (decide_eq_false h3)
          refine Ent.wiSr (hrn _ (by (repeat (first | exact Has.hd | apply Has.tl)))) ?_ rfl rfl rfl (by omega) (by omega) hy2
          (refine Ent.go ?_)
          refine Ent.imp (Imp.pur ?_ (Imp.refl _)) (hK2 hjn _)
          by_cases h4 : lower x = y
          · rw [decide_eq_true (hmem.2 (.inr h4)), decide_eq_true (by rw [h4])]
          · rw [decide_eq_false (fun hh => (hmem.1 hh).elim h3 h4), decide_eq_false (fun hh => h4 (ba_inj.1 hh).symm)]
      · have hjl : j = ns.length := by omega
        subst hjl
        refine Ent.wF ?_ (by simp)
        rw [List.take_of_length_le (Nat.le_refl _)]
        by_cases h3 : lower x ∈ ns
        · have e1 : nmS ns x = ns := by unfold nmS; rw [if_pos (.inr h3)]
          rw [e1] at hs
          refine Ent.wF ?_ (by rw [decide_eq_true h3]; rfl)
          (refine Ent.go ?_)
          refine Ent.imp ?_ (hK hkn _ _)
          refine Imp.exs (a2, c2) (Imp.g2 (Imp.pur ⟨?_, hst.symm⟩ ?_))
          · rw [hs]
          · rw [hs]
            (focus ((repeat ((with_reducible apply Imp.pick); (repeat (first | exact Pick.hd | apply Pick.tl)))); (repeat (first | exact Imp.refl _ | exact Imp.nil _ | apply Imp.drop)); done))
        · have e1 : nmS ns x = ns ++ [lower x] := by unfold nmS; rw [if_neg (by simp [h42, h3])]
          rw [e1] at hs
          refine Ent.wT ?_ (by rw [decide_eq_false h3]; rfl)
          refine Ent.app1 (fun a3 c3 => ?_)
          (refine Ent.go ?_)
          refine Ent.imp ?_ (hK hkn _ _)
          refine Imp.exs (a3, c3) (Imp.g2 (Imp.pur ⟨?_, hst.symm⟩ ?_))
          · rw [hs]; simp
          · rw [hs, ss_app, List.length_append]
            (focus ((repeat ((with_reducible apply Imp.pick); (repeat (first | exact Pick.hd | apply Pick.tl)))); (repeat (first | exact Imp.refl _ | exact Imp.nil _ | apply Imp.drop)); done))
  · have hkl : k = g.length := by omega
    subst hkl
    refine Ent.wF ?_ (by simp)
    rw [List.take_of_length_le (Nat.le_refl _)]
    exact Ent.imp (by (focus ((repeat ((with_reducible apply Imp.pick); (repeat (first | exact Pick.hd | apply Pick.tl)))); (repeat (first | exact Imp.refl _ | exact Imp.nil _ | apply Imp.drop)); done))) (h a2 c2)
end
end Go.Proofs.YtfofnagocedlgaaGreatDoor.Tx
end
section
/-
  FIELDS (layer 16): Select.
-/
set_option maxRecDepth 100000
set_option linter.unusedVariables false
set_option linter.unusedSectionVars false
set_option linter.unusedSimpArgs false
set_option maxHeartbeats 0
namespace Go.Proofs.YtfofnagocedlgaaGreatDoor.Tx
open Go Sh Sl
open Go.RowKit
attribute [local irreducible] condK ArK NilK OpK FnK StK joinK loopK DrawK andK PuK NxK EnK vS uS bS callS invokeS
def joinC (g : List Bs) : Bs := Lib.join g [44, 32]
def selO (l : List Fd) (n : Bs) : List Fd := if get l n = [] then [] else [(n, joinC (get l n))]
def sel (ns : List Bs) (l : List Fd) : List Fd := ns.flatMap (selO l)
theorem join_snoc (g : List Bs) (v : Bs) : joinC (g ++ [v]) = if g = [] then v else joinC g ++ [44, 32] ++ v := by
  unfold joinC
  cases g with
  | nil => simp [Lib.join_one]
  | cons x r =>
    rw [List.cons_append, Lib.join_cons, Lib.join_cons]
    simp [Lib.joinTail]
theorem join_len (g : List Bs) : (joinC g).length ≤ tot g + 2 * g.length := by
  unfold joinC
  cases g with
  | nil => simp [Lib.join_nil]
  | cons x r =>
    rw [Lib.join_cons]
    have : ∀ r : List Bs, (Lib.joinTail [44, 32] r).length ≤ tot r + 2 * r.length := by
      intro r
      induction r with
      | nil => simp [Lib.joinTail, tot]
      | cons y r ih => simp [Lib.joinTail, tot] at ih ⊢; omega
    have := this r
    simp [tot] at this ⊢
    omega
theorem joinf_len (l : List Fd) (n : Bs) : (joinC (get l n)).length ≤ fsz l := by
  have h1 := join_len (get l n)
  have h2 := get_tot l n
  omega
theorem selO_len (l : List Fd) (n : Bs) : (selO l n).length ≤ 1 := by unfold selO; split <;> simp
theorem sel_len (ns : List Bs) (l : List Fd) : (sel ns l).length ≤ ns.length := by
  induction ns with
  | nil => simp [sel]
  | cons n ns ih =>
    have := selO_len l n
    simp only [sel, List.flatMap_cons, List.length_append, List.length_cons] at ih ⊢
    omega
section
variable {e : Env} {ctx ctx' rest R : List HProp}
theorem join_spec {K : ByteArray → WP} {a : Option Addr} {c : Nat} {g : List Bs} (hr : Rd rest a (ss g)) (hc : g.length ≤ c) (h0 : 0 < g.length) (hg : tot g + 2 * g.length ≤ 1099511627776) (h : Ent e rest (K (ba (joinC g)))) :
    Ent e rest (strings_Join (.slice a g.length c) (⟨#[44, 32]⟩ : ByteArray) K) := by
  obtain ⟨bk, o, rfl, hrd⟩ := rd_some hr (by simpa using h0)
  have hjl := join_len g
  refine Ent.libS (s := ba (joinC g)) (fun w hw => ?_) h
  obtain ⟨T, fr, cs, k1, k2⟩ := hrd _ hw.heap
  have hb : w.heap[bk]? = some (.cells cs T fr) := k1
  have hlt : bk < w.heap.size := (Array.getElem?_eq_some_iff.1 hb).1
  have e1 : (g.map ba).map (·.data.toList) = g := by simp [ba, Function.comp_def]
  have := Tryz.strings_Join bk o c (g.map ba) ⟨#[44, 32]⟩ w (fun j x hx => by
    have : (ss g)[j]? = some (.string x) := by
      simp only [List.getElem?_map, Option.map_eq_some_iff] at hx
      obtain ⟨y, hy, rfl⟩ := hx
      simp [ss, hy]
    simp [World.cell?, hb, k2 _ _ this]) hlt (by simp; omega) (by simpa using hc) (by rw [e1]; show (joinC g).length ≤ _; omega)
  rw [e1, List.length_map] at this
  exact this
theorem select_spec {K : Value → WP} {a a' : Option Addr} {c c' : Nat} {ns : List Bs} {l : List Fd} (hr : Rd rest a (ss ns)) (hr' : Rd rest a' (fc l)) (hl : fsz l ≤ 549755813888) (hn : ns.length ≤ 1099511627776) (hnl : ∀ n ∈ ns, n.length ≤ 1099511627776)
    (h : ∀ a c, Ent e (SlO a (sel ns l).length c 2 (fc (sel ns l)) :: rest) (K (.slice a (sel ns l).length c))) :
    Ent e rest (vary_Select (.slice a ns.length c) (.slice a' l.length c') K) := by
  (refine Ent.fn vary_Select_ok ?_; unfold vary_Select_sh)
  refine Ent.box' fun bl => ?_
  refine Ent.alloc' fun bo => ?_
  (refine Ent.go ?_)
  refine Ent.rngL0 ns.length (fun k => exs (fun (y : Option Addr × Nat) => sepL [pt bo [.slice y.1 (sel (ns.take k) l).length y.2], SlO y.1 (sel (ns.take k) l).length y.2 2 (fc (sel (ns.take k) l))]) :: pt bl [.slice a' l.length c'] :: rest) rfl ?_ ?_
  · refine Imp.exs (none, 0) (Imp.g2 ?_)
    refine Imp.trans ?_ (Imp.perm (.swap _ _ _))
    exact Imp.slN (Imp.refl _)
  intro k hk K' hK
  refine Ent.exs fun ⟨a2, c2⟩ => Ent.g2 ?_
  dsimp only
  by_cases hkn : k < ns.length
  · obtain ⟨n, hx⟩ : ∃ n, ns[k]? = some n := ⟨_, List.getElem?_eq_getElem hkn⟩
    have hv2 : (ss ns)[(k : Int).toNat]? = some (.string (ba n)) := by rw [Int.toNat_natCast]; simp [ss, hx]
    have hs : sel (ns.take (k + 1)) l = sel (ns.take k) l ++ selO l n := by rw [take_snoc hx]; simp [sel]
    have hsl := sel_len (ns.take k) l
    have htl : (ns.take k).length ≤ ns.length := by simp; omega
    have hnn := hnl n (List.mem_of_getElem? hx)
    refine Ent.wT ?_ (by simpa using hkn)
    refine Ent.wiSr (hr.tl.tl.tl) ?_ rfl rfl rfl (by omega) (by omega) hv2
    refine Ent.callF (by rfl) ?_
    refine Ent.fn (sh := vary_Select_c1_sh (ba n) (.pointer (some ⟨bl, 0, none⟩)) (.pointer (some ⟨bo, 0, none⟩)) _) (fun w h => vary_Select_c1_ok w h) ?_
    (refine Ent.go ?_)
    refine get_spec (hr'.tl.tl.tl) (by omega) hnn fun a3 c3 => ?_
    have hgt := get_tot l n
    refine Ent.rdS fun hr3 hc3 => ?_
    refine Ent.wlen ?_
    by_cases hg : get l n = []
    · have e1 : selO l n = [] := by unfold selO; rw [if_pos hg]
      rw [e1, List.append_nil] at hs
      refine Ent.wF ?_ (by rw [hg]; rfl)
      (refine Ent.go ?_)
      refine Ent.imp ?_ (hK hkn)
      refine Imp.exs (a2, c2) (Imp.g2 ?_)
      dsimp only
      rw [hs]
      (focus ((repeat ((with_reducible apply Imp.pick); (repeat (first | exact Pick.hd | apply Pick.tl)))); (repeat (first | exact Imp.refl _ | exact Imp.nil _ | apply Imp.drop)); done))
    · have e1 : selO l n = [(n, joinC (get l n))] := by unfold selO; rw [if_neg hg]
      rw [e1] at hs
      have hgl : 0 < (get l n).length := List.length_pos_iff.2 hg
      refine Ent.wT ?_ (decide_eq_true (by omega))
      refine Ent.draw [pt bo [.slice a2 (sel (ns.take k) l).length c2], SlO a3 (get l n).length c3 1 (ss (get l n))] (by (focus ((repeat ((with_reducible apply Imp.pick); (repeat (first | exact Pick.hd | apply Pick.tl)))); (repeat (first | exact Imp.refl _ | exact Imp.nil _ | apply Imp.drop)); done))) ?_
      (refine Ent.go ?_)
      refine join_spec (hr3 _ (by (repeat (first | exact Has.hd | apply Has.tl)))) hc3 hgl (by omega) ?_
      (refine Ent.go ?_)
      refine Ent.app1a (sz := 2) (cs := fdC (n, joinC (get l n))) (hv := rfl) (by (focus ((repeat ((with_reducible apply Imp.pick); (repeat (first | exact Pick.hd | apply Pick.tl)))); (repeat (first | exact Imp.refl _ | exact Imp.nil _ | apply Imp.drop)); done))) (fun a4 c4 => ?_)
      (refine Ent.go ?_)
      refine Ent.imp ?_ (hK hkn)
      refine Imp.exs (a4, c4) (Imp.g2 ?_)
      dsimp only
      rw [hs, fc_app, List.length_append]
      show Imp _ (pt bo [.slice a4 ((sel (ns.take k) l).length + 1) c4] :: SlO a4 ((sel (ns.take k) l).length + 1) c4 2 (fc (sel (ns.take k) l) ++ fdC (n, joinC (get l n))) :: _)
      (focus ((repeat ((with_reducible apply Imp.pick); (repeat (first | exact Pick.hd | apply Pick.tl)))); (repeat (first | exact Imp.refl _ | exact Imp.nil _ | apply Imp.drop)); done))
  · have hkl : k = ns.length := by omega
    subst hkl
    refine Ent.wF ?_ (by simp)
    rw [List.take_of_length_le (Nat.le_refl _)]
    (refine Ent.go ?_)
    exact Ent.imp (by (focus ((repeat ((with_reducible apply Imp.pick); (repeat (first | exact Pick.hd | apply Pick.tl)))); (repeat (first | exact Imp.refl _ | exact Imp.nil _ | apply Imp.drop)); done))) (h a2 c2)
end
end Go.Proofs.YtfofnagocedlgaaGreatDoor.Tx
end
section
/-
  FIELDS (layer 16): the document's Select.
-/
set_option maxRecDepth 100000
set_option linter.unusedVariables false
set_option linter.unusedSectionVars false
set_option linter.unusedSimpArgs false
set_option maxHeartbeats 0
namespace Go.Proofs.YtfofnagocedlgaaGreatDoor.Tx
open Go Sh Sl
open Go.RowKit
attribute [local irreducible] condK ArK NilK OpK FnK StK joinK loopK DrawK andK PuK NxK EnK vS uS bS callS invokeS
theorem ba_app (a b : Bs) : ba a ++ ba b = ba (a ++ b) := by
  apply ByteArray.ext
  simp [ByteArray.data_append]
section
variable {e : Env} {ctx ctx' rest R : List HProp}
theorem addB {t : Nat} {X Y : Operand} {a b : Bs} {K : ByteArray → WP} (hl : a.length + b.length ≤ 9223372036854775807) (h : Ent e ctx (K (ba (a ++ b)))) : Ent e ctx (oS (bS .add t X Y (.string (ba a)) (.string (ba b))) K) := by
  refine Ent.opS (st_addS (by simp [ba, ByteArray.size]; omega)).still ?_
  rw [ba_app]; exact h
theorem ref_select_spec {K : Value → WP} {a a' : Option Addr} {c c' : Nat} {ns : List Bs} {l : List Fd} (hr : Rd rest a (ss ns)) (hr' : Rd rest a' (fc l)) (hl : fsz l ≤ 549755813888) (hn : ns.length ≤ 1099511627776) (hnl : ∀ n ∈ ns, n.length ≤ 1099511627776)
    (h : ∀ a c, Ent e (SlO a (sel ns l).length c 2 (fc (sel ns l)) :: rest) (K (.slice a (sel ns l).length c))) :
    Ent e rest (ref16_Select (.slice a ns.length c) (.slice a' l.length c') K) := by
  (refine Ent.fn ref16_Select_ok ?_; unfold ref16_Select_sh)
  refine Ent.rngL1 (k0 := .raw) ns.length (fun k v => exs (fun (y : Option Addr × Nat) => sepL [pur (v = .slice y.1 (sel (ns.take k) l).length y.2), SlO y.1 (sel (ns.take k) l).length y.2 2 (fc (sel (ns.take k) l))]) :: rest) rfl ?_ ?_
  · refine Imp.exs (none, 0) (Imp.g2 (Imp.pur (by simp [sel]) ?_))
    exact Imp.slN (Imp.refl _)
  intro k hk K' hK v
  refine Ent.exs fun ⟨a2, c2⟩ => Ent.g2 (Ent.pur fun hv => ?_)
  dsimp only at hv
  dsimp only
  subst hv
  (refine Ent.go ?_)
  by_cases hkn : k < ns.length
  · obtain ⟨n, hx⟩ : ∃ n, ns[k]? = some n := ⟨_, List.getElem?_eq_getElem hkn⟩
    have hv2 : (ss ns)[(k : Int).toNat]? = some (.string (ba n)) := by rw [Int.toNat_natCast]; simp [ss, hx]
    have hs : sel (ns.take (k + 1)) l = sel (ns.take k) l ++ selO l n := by rw [take_snoc hx]; simp [sel]
    have hsl := sel_len (ns.take k) l
    have htl : (ns.take k).length ≤ ns.length := by simp; omega
    have hnn := hnl n (List.mem_of_getElem? hx)
    have hll := fsz_len l
    refine Ent.wT ?_ (by simpa using hkn)
    refine Ent.rngL2 (k0 := .str) (k1 := .int .i64) l.length (fun j s m => pur (s = ba (joinC (get (l.take j) n)) ∧ m = ((get (l.take j) n).length : Int)) :: SlO a2 (sel (ns.take k) l).length c2 2 (fc (sel (ns.take k) l)) :: rest) rfl ?_ ?_
    · exact Imp.pur ⟨by simp [get, joinC, Lib.join_nil], by simp [get]⟩ (Imp.refl _)
    intro j hj K2 hK2 s m
    refine Ent.pur fun ⟨h1, h2⟩ => ?_
    subst h1 h2
    have hjl := joinf_len (l.take j) n
    have hgl := get_tot (l.take j) n
    have htf : fsz (l.take j) ≤ fsz l := by
      have h9 := fsz_app (l.take j) (l.drop j)
      rw [List.take_append_drop] at h9
      omega
    (refine Ent.go ?_)
    by_cases hjn : j < l.length
    · obtain ⟨f, hf⟩ : ∃ f, l[j]? = some f := ⟨_, List.getElem?_eq_getElem hjn⟩
      have hfm := fsz_mem (List.mem_of_getElem? hf)
      have hg := get_snoc (l.take j) f n
      rw [← take_snoc hf] at hg
      refine Ent.wT ?_ (by simpa using hjn)
      refine Ent.draw _ (Imp.refl _) ?_
      refine fdAtQ hr'.tl hf hjn (.inl ⟨rfl, rfl⟩) ?_
      refine Ent.wjSr hr.tl ?_ rfl rfl rfl (by omega) (by omega) hv2
      refine ref_same_spec (by omega) hnn ?_
      by_cases he : lower f.1 = lower n
      · rw [if_pos he] at hg
        refine Ent.wF ?_ (by rw [decide_eq_true he]; rfl)
        have hjs := join_snoc (get (l.take j) n) f.2
        rw [← hg] at hjs
        refine Ent.join ?_
        have fin : ∀ pre : Bs, pre ++ f.2 = joinC (get (l.take (j + 1)) n) → pre.length ≤ fsz l + 2 → Ent e (SlO a2 (sel (ns.take k) l).length c2 2 (fc (sel (ns.take k) l)) :: rest)
            (oR (vS (Instr.indexAt 23 (.slice a' l.length c') (.int .i64 (j : Int)))) fun t40 => fS 55 t40 1 9 fun t42 =>
             oS (bS .add 9 (.tmp 37) (.tmp 42) (.string (ba pre)) (.string t42)) fun t43 =>
             ArK .i64 (((get (l.take j) n).length : Int) + 1) fun t45 =>
             ArK .i64 ((j : Int) + 1) fun t21_1 =>
             K2 t43 t45 t21_1) := by
          intro pre hpre hpl
          refine fdAt hr'.tl hf hjn (.inr ⟨rfl, rfl⟩) ?_
          refine addB (by omega) ?_
          rw [hpre]
          (refine Ent.go ?_)
          refine Ent.imp (Imp.pur ⟨rfl, ?_⟩ (Imp.refl _)) (hK2 hjn _ _)
          rw [hg]; simp
        by_cases h0 : get (l.take j) n = []
        · rw [if_pos h0] at hjs
          refine Ent.wF ?_ (by rw [h0]; rfl)
          refine fin _ ?_ (by omega)
          rw [hjs, h0]; simp [joinC, Lib.join_nil]
        · rw [if_neg h0] at hjs
          have hp : 0 < (get (l.take j) n).length := List.length_pos_iff.2 h0
          refine Ent.wT ?_ (decide_eq_true (by omega))
          refine addB (b := [44, 32]) (by simp; omega) ?_
          refine fin _ hjs.symm (by simp; omega)
      · rw [if_neg he] at hg
        refine Ent.wT ?_ (by rw [decide_eq_false he]; rfl)
        (refine Ent.go ?_)
        refine Ent.imp (Imp.pur ⟨?_, ?_⟩ (Imp.refl _)) (hK2 hjn _ _)
        · rw [hg]
        · rw [hg]
    · have hjl : j = l.length := by omega
      subst hjl
      refine Ent.wF ?_ (by simp)
      rw [List.take_of_length_le (Nat.le_refl _)]
      by_cases h0 : get l n = []
      · have e1 : selO l n = [] := by unfold selO; rw [if_pos h0]
        rw [e1, List.append_nil] at hs
        refine Ent.wF ?_ (by rw [h0]; rfl)
        (refine Ent.go ?_)
        refine Ent.imp ?_ (hK hkn _)
        refine Imp.exs (a2, c2) (Imp.g2 (Imp.pur ?_ ?_))
        · rw [hs]
        · rw [hs]
          (focus ((repeat ((with_reducible apply Imp.pick); (repeat (first | exact Pick.hd | apply Pick.tl)))); (repeat (first | exact Imp.refl _ | exact Imp.nil _ | apply Imp.drop)); done))
      · have e1 : selO l n = [(n, joinC (get l n))] := by unfold selO; rw [if_neg h0]
        rw [e1] at hs
        have hp : 0 < (get l n).length := List.length_pos_iff.2 h0
        refine Ent.wT ?_ (decide_eq_true (by omega))
        refine Ent.wiSr hr.tl ?_ rfl rfl rfl (by omega) (by omega) hv2
        (refine Ent.go ?_)
        refine Ent.app1 (sz := 2) (cs := fdC (n, joinC (get l n))) (hv := rfl) (fun a4 c4 => ?_)
        (refine Ent.go ?_)
        refine Ent.imp ?_ (hK hkn _)
        refine Imp.exs (a4, c4) (Imp.g2 (Imp.pur ?_ ?_))
        · rw [hs]; simp
        · rw [hs, fc_app, List.length_append]
          show Imp _ (SlO a4 ((sel (ns.take k) l).length + 1) c4 2 (fc (sel (ns.take k) l) ++ fdC (n, joinC (get l n))) :: _)
          (focus ((repeat ((with_reducible apply Imp.pick); (repeat (first | exact Pick.hd | apply Pick.tl)))); (repeat (first | exact Imp.refl _ | exact Imp.nil _ | apply Imp.drop)); done))
  · have hkl : k = ns.length := by omega
    subst hkl
    refine Ent.wF ?_ (by simp)
    rw [List.take_of_length_le (Nat.le_refl _)]
    exact h a2 c2
end
end Go.Proofs.YtfofnagocedlgaaGreatDoor.Tx
end
section
/-
  FUNCTIONS AS PLAIN TERMS, printed by shx.py.
-/
set_option linter.unusedVariables false
set_option maxRecDepth 100000
namespace Go.Proofs.YtfofnagocedlgaaGreatDoor
open Go Sh
/- tollhouse/tollhouselaw21.awake -/
def law21_awake_sh (K : Bool → WP) : WP :=
 store_New 1000 2 fun t10 t10_1 =>
 joinK [(26, .bool)] (fun (j1 : Bool → WP) =>
 condK (t10_1 != 0)
 (j1 true)
 (law21_E (⟨#[97]⟩ : ByteArray) 35 fun t17 =>
 store_Store_Put t10 t17 fun t18 =>
 condK (t18 != 0)
 (j1 true)
 (law21_E (⟨#[98]⟩ : ByteArray) 35 fun t23 =>
 store_Store_Put t10 t23 fun t24 =>
 j1 (t24 != 0))))
 fun t26 =>
 condK t26
 (K false)
 (store_Store_Get t10 (⟨#[97]⟩ : ByteArray) (.slice none 0 0) fun t29 t29_1 =>
 oR (vS (Instr.alloc 28 true (.tuple #[]))) fun x =>
 sto 28 x t29 <|
 joinK [(50, .bool)] (fun (j2 : Bool → WP) =>
 DrawK fun S =>
 condK (!t29_1)
 (j2 true)
 (sR S (vS (Instr.loadAt 28 x)) fun t35 =>
 law21_E (⟨#[97]⟩ : ByteArray) 35 fun t36 =>
 andK S <|
 ref21_Same t35 t36 fun t37 =>
 condK (!t37)
 (j2 true)
 (store_Store_Used t10 fun t42 =>
 andK S <|
 condK (t42 != 200)
 (j2 true)
 (law21_E (⟨#[99]⟩ : ByteArray) 35 fun t47 =>
 andK S <|
 store_Store_Put t10 t47 fun t48 =>
 andK S <|
 j2 (t48 != 0)))))
 fun t50 =>
 condK t50
 (K false)
 (store_Store_Look t10 (⟨#[97]⟩ : ByteArray) (.slice none 0 0) fun t53 t53_1 =>
 oR (vS (Instr.alloc 28 true (.tuple #[]))) fun t5_ =>
 sto 28 t5_ t53 <|
 store_Store_Look t10 (⟨#[98]⟩ : ByteArray) (.slice none 0 0) fun t58 t58_1 =>
 oR (vS (Instr.alloc 28 true (.tuple #[]))) fun t7_ =>
 sto 28 t7_ t58 <|
 condK t53_1
 (condK (!t58_1)
 (store_Store_Entries t10 fun t68 =>
 len 38 3 t68 fun t69 =>
 K (t69 == 2))
 (K false))
 (K false)))
theorem law21_awake_ok {K : Bool → WP} (w : World) (h : law21_awake_sh K w) : law21_awake K w :=
  fn_ok cx_ok (hi := (.n .l (.n .l (.n (.n (.j [(26, .bool)] .l) .l) (.n .l (.n (.n (.j [(50, .bool)] (.o (odR 0 19))) .l) .l)))))) (fn := Tryz.f8) Tryz.func8 (by kernel_rfl) h

/- tollhouse/tollhouselaw21.E -/
def law21_E_sh (url : ByteArray) (body : Int) (K : Value → WP) : WP :=
 oR (vS (Instr.alloc 28 true (.tuple #[]))) fun t4 =>
 oR (vS (Instr.makeSlice 24 (.int .i64 body) (.int .i64 body))) fun t7 =>
 oR (vS (Instr.build 26 #[(0, (.int .i64 200)), (2, (.int .i64 1)), (4, t7)])) fun t8 =>
 oR (vS (Instr.build 28 #[(0, (.string url)), (4, t8)])) fun t9 =>
 sto 28 t4 t9 <|
 rR (vS (do loadVar 28 (← asAddr t4))) fun u_1 =>
 K u_1
theorem law21_E_ok {url : ByteArray} {body : Int} {K : Value → WP} (w : World) (h : law21_E_sh url body K w) : law21_E url body K w :=
  fn_ok cx_ok (hi := .l) (fn := Tryz.f29) Tryz.func29 (by kernel_rfl) h

/- tollhouse/tollhouselaw21.same -/
def law21_same_sh (s : Value) (r : Value) (K : Bool → WP) : WP :=
 store_Store_Entries s fun t8 =>
 joinK [(23, .bool)] (fun (j1 : Bool → WP) =>
 len 38 3 t8 fun t10 =>
 nR 91 r 0 89 fun t14 =>
 len 89 3 t14 fun t15 =>
 condK (t10 != t15)
 (j1 true)
 (store_Store_Used s fun t19 =>
 ref21_Store_Used r fun t21 =>
 j1 (t19 != t21)))
 fun t23 =>
 condK t23
 (K false)
 (len 38 3 t8 fun t25 =>
 loopK [(26, (.int .i64))] (fun (j2 : Int → WP) => j2 0) (fun (j3 : Int → WP) (t26 : Int) =>
 condK (decide (t26 < t25))
 (DrawK fun S =>
 jR S 38 t8 .i64 t26 28 fun t32 =>
 hR S 91 r 0 89 fun t36 =>
 qR (vS (Instr.indexAt 89 t36 (.int .i64 t26))) fun t38 =>
 gR S 94 t38 1 28 fun t40 =>
 ref21_Same t32 t40 fun t41 =>
 andK S <|
 condK (!t41)
 (K false)
 (ArK .i64 (t26 + 1) fun t43 =>
 j3 t43))
 (K true)))
theorem law21_same_ok {s : Value} {r : Value} {K : Bool → WP} (w : World) (h : law21_same_sh s r K w) : law21_same s r K w :=
  fn_ok cx_ok (hi := (.n .l (.n .l (.n (.n (.j [(23, .bool)] .l) .l) (.n (.n .l (.n (.p [(26, (.int .i64))] (.n .l (.n .l (.n (.n (.n .l (.n (.o (odR 0 14)) .l)) .l) .l)))) .l)) .l))))) (fn := Tryz.f30) Tryz.func30 (by kernel_rfl) h

/- tollhouse/store.Size -/
def store_Size_sh (e : Value) (K : Int → WP) : WP :=
 oR (vS (Instr.box 28 e)) fun e_1 =>
 fS 28 e_1 0 9 fun t9 =>
 len 9 3 (.string t9) fun t10 =>
 ArK .i64 (64 + t10) fun t11 =>
 oR (vS (Instr.fieldAt 28 e_1 4)) fun t12 =>
 fS 26 t12 1 9 fun t14 =>
 len 9 3 (.string t14) fun t15 =>
 ArK .i64 (t11 + t15) fun t16 =>
 oR (vS (Instr.fieldAt 28 e_1 4)) fun t17 =>
 fR 26 t17 4 24 fun t19 =>
 len 24 3 t19 fun t20 =>
 ArK .i64 (t16 + t20) fun t21 =>
 fR 28 e_1 3 23 fun t23 =>
 oR (vS (Instr.fieldAt 28 e_1 4)) fun t24 =>
 fR 26 t24 3 23 fun t26 =>
 oR (vS (Instr.buildSlice 60 2 #[(0, t23), (1, t26)])) fun t27 =>
 len 60 3 t27 fun t28 =>
 loopK [(3, (.int .i64)), (29, (.int .i64))] (fun (j1 : Int → Int → WP) => j1 t21 0) (fun (j2 : Int → Int → WP) (n : Int) (t29 : Int) =>
 condK (decide (t29 < t28))
 (iR 60 t27 .i64 t29 23 fun t32 =>
 len 23 3 t32 fun t34 =>
 loopK [(3, (.int .i64)), (35, (.int .i64))] (fun (j3 : Int → Int → WP) => j3 n 0) (fun (j4 : Int → Int → WP) (n_1 : Int) (t35 : Int) =>
 condK (decide (t35 < t34))
 (iR 23 t32 .i64 t35 55 fun t38 =>
 oR (vS (Instr.alloc 55 true (.tuple #[]))) fun f =>
 sto 55 f t38 <|
 fS 55 f 0 9 fun t41 =>
 len 9 3 (.string t41) fun t42 =>
 fS 55 f 1 9 fun t44 =>
 len 9 3 (.string t44) fun t45 =>
 ArK .i64 (t42 + t45) fun t46 =>
 ArK .i64 (n_1 + t46) fun t47 =>
 ArK .i64 (t35 + 1) fun t48 =>
 j4 t47 t48)
 (ArK .i64 (t29 + 1) fun t49 =>
 j2 n_1 t49)))
 (K n))
theorem store_Size_ok {e : Value} {K : Int → WP} (w : World) (h : store_Size_sh e K w) : store_Size e K w :=
  fn_ok cx_ok (hi := (.n .l (.n .l (.n (.n .l (.n (.p [(3, (.int .i64)), (29, (.int .i64))] (.n .l (.n .l (.n (.n (.n .l (.n .l (.n (.p [(3, (.int .i64)), (35, (.int .i64))] .l) .l))) .l) .l)))) .l)) .l)))) (fn := Tryz.f9) Tryz.func9 (by kernel_rfl) h

/- tollhouse/tollhouseref21.Size -/
def ref21_Size_sh (e : Value) (K : Int → WP) : WP :=
 oR (vS (Instr.box 28 e)) fun e_1 =>
 fS 28 e_1 0 9 fun t7 =>
 len 9 3 (.string t7) fun t8 =>
 ArK .i64 (64 + t8) fun t9 =>
 oR (vS (Instr.fieldAt 28 e_1 4)) fun t10 =>
 fS 26 t10 1 9 fun t12 =>
 len 9 3 (.string t12) fun t13 =>
 ArK .i64 (t9 + t13) fun t14 =>
 oR (vS (Instr.fieldAt 28 e_1 4)) fun t15 =>
 fR 26 t15 4 24 fun t17 =>
 len 24 3 t17 fun t18 =>
 ArK .i64 (t14 + t18) fun t19 =>
 loopK [(3, (.int .i64)), (4, (.int .i64))] (fun (j1 : Int → Int → WP) => j1 t19 0) (fun (j2 : Int → Int → WP) (n : Int) (i : Int) =>
 fR 28 e_1 3 23 fun t22 =>
 len 23 3 t22 fun t23 =>
 condK (decide (i < t23))
 (DrawK fun S =>
 gR S 28 e_1 3 23 fun t29 =>
 qR (vS (Instr.indexAt 23 t29 (.int .i64 i))) fun t31 =>
 gS S 55 t31 0 9 fun t33 =>
 sI S .i64 (vS (Builtin.len_ #[9] 3 #[(.string t33)])) fun t34 =>
 gR S 28 e_1 3 23 fun t36 =>
 qR (vS (Instr.indexAt 23 t36 (.int .i64 i))) fun t38 =>
 gS S 55 t38 1 9 fun t40 =>
 sI S .i64 (vS (Builtin.len_ #[9] 3 #[(.string t40)])) fun t41 =>
 ArK .i64 (t34 + t41) fun t42 =>
 ArK .i64 (n + t42) fun t43 =>
 ArK .i64 (i + 1) fun t26 =>
 j2 t43 t26)
 (loopK [(3, (.int .i64)), (5, (.int .i64))] (fun (j3 : Int → Int → WP) => j3 n 0) (fun (j4 : Int → Int → WP) (n_1 : Int) (i_1 : Int) =>
 oR (vS (Instr.fieldAt 28 e_1 4)) fun t45 =>
 fR 26 t45 3 23 fun t47 =>
 len 23 3 t47 fun t48 =>
 condK (decide (i_1 < t48))
 (DrawK fun S =>
 qR (vS (Instr.fieldAt 28 e_1 4)) fun t53 =>
 gR S 26 t53 3 23 fun t55 =>
 qR (vS (Instr.indexAt 23 t55 (.int .i64 i_1))) fun t57 =>
 gS S 55 t57 0 9 fun t59 =>
 sI S .i64 (vS (Builtin.len_ #[9] 3 #[(.string t59)])) fun t60 =>
 qR (vS (Instr.fieldAt 28 e_1 4)) fun t61 =>
 gR S 26 t61 3 23 fun t63 =>
 qR (vS (Instr.indexAt 23 t63 (.int .i64 i_1))) fun t65 =>
 gS S 55 t65 1 9 fun t67 =>
 sI S .i64 (vS (Builtin.len_ #[9] 3 #[(.string t67)])) fun t68 =>
 ArK .i64 (t60 + t68) fun t69 =>
 ArK .i64 (n_1 + t69) fun t70 =>
 ArK .i64 (i_1 + 1) fun t51 =>
 j4 t70 t51)
 (K n_1))))
theorem ref21_Size_ok {e : Value} {K : Int → WP} (w : World) (h : ref21_Size_sh e K w) : ref21_Size e K w :=
  fn_ok cx_ok (hi := (.n .l (.n .l (.n (.n .l (.n (.p [(3, (.int .i64)), (4, (.int .i64))] (.n .l (.n (.n (.o (odR 0 18)) .l) .l))) .l)) (.n (.n .l (.n (.p [(3, (.int .i64)), (5, (.int .i64))] (.n .l (.n (.n (.o (odR 0 20)) .l) .l))) .l)) .l))))) (fn := Tryz.f10) Tryz.func10 (by kernel_rfl) h

/- tollhouse/store.For -/
def store_For_sh (e : Value) (l : Value) (K : Bool → WP) : WP :=
 oR (vS (Instr.box 28 e)) fun e_1 =>
 oR (vS (Instr.fieldAt 28 e_1 4)) fun t8 =>
 fR 26 t8 3 23 fun t10 =>
 vary_Names t10 fun t11 t11_1 =>
 DrawK fun S =>
 condK (!t11_1)
 (gR S 28 e_1 3 23 fun t21 =>
 vary_Select t11 l fun t19 =>
 andK S <|
 vary_Same t19 t21 fun t22 =>
 K t22)
 (K false)
theorem store_For_ok {e : Value} {l : Value} {K : Bool → WP} (w : World) (h : store_For_sh e l K w) : store_For e l K w :=
  fn_ok cx_ok (hi := (.n .l (.n .l (.n (.o (odL [0, 1, 2, 3, 4, 6, 7, 5, 8, 9, 10])) .l)))) (fn := Tryz.f11) Tryz.func11 (by kernel_rfl) h

/- tollhouse/tollhouseref21.For -/
def ref21_For_sh (e : Value) (l : Value) (K : Bool → WP) : WP :=
 oR (vS (Instr.box 28 e)) fun e_1 =>
 oR (vS (Instr.fieldAt 28 e_1 4)) fun t8 =>
 fR 26 t8 3 23 fun t10 =>
 ref16_Names t10 fun t11 t11_1 =>
 condK t11_1
 (K false)
 (DrawK fun S =>
 gR S 28 e_1 3 23 fun t19 =>
 ref16_Select t11 l fun t17 =>
 andK S <|
 ref16_Same t17 t19 fun t20 =>
 K t20)
theorem ref21_For_ok {e : Value} {l : Value} {K : Bool → WP} (w : World) (h : ref21_For_sh e l K w) : ref21_For e l K w :=
  fn_ok cx_ok (hi := (.n .l (.n .l (.n .l (.n (.o (odL [0, 1, 3, 4, 2, 5, 6])) .l))))) (fn := Tryz.f12) Tryz.func12 (by kernel_rfl) h

/- tollhouse/store.New -/
def store_New_sh (bytes : Int) (entries : Int) (K : Value → Int → WP) : WP :=
 joinK [(21, .bool)] (fun (j1 : Bool → WP) =>
 condK (decide (bytes < 0))
 (j1 true)
 (condK (decide (bytes > 262144))
 (j1 true)
 (condK (decide (entries < 0))
 (j1 true)
 (j1 (decide (entries > 64))))))
 fun t21 =>
 condK t21
 (K (.pointer none) 1)
 (ArK .i64 (entries * 2) fun t24 =>
 oI .i64 (bS .quo 3 (.tmp 24) (.const (.int .i64 3)) (.int .i64 t24) (.int .i64 3)) fun t25 =>
 lru_New t25 fun t26 t26_1 =>
 condK (t26_1 != 0)
 (K (.pointer none) t26_1)
 (oR (vS (Instr.build 72 #[(1, t26), (2, (.int .i64 bytes)), (3, (.int .i64 entries))])) fun t35 =>
 oR (vS (Instr.box 72 t35)) fun t36 =>
 K t36 0))
theorem store_New_ok {bytes : Int} {entries : Int} {K : Value → Int → WP} (w : World) (h : store_New_sh bytes entries K w) : store_New bytes entries K w :=
  fn_ok cx_ok (hi := (.n .l (.n (.n (.j [(21, .bool)] .l) .l) .l))) (fn := Tryz.f13) Tryz.func13 (by kernel_rfl) h

/- (*tollhouse/store.Store).Put -/
def store_Store_Put_sh (s : Value) (e : Value) (K : Int → WP) : WP :=
 oR (vS (Instr.box 28 e)) fun e_1 =>
 joinK [(17, .bool)] (fun (j1 : Bool → WP) =>
 oB (bS .eql 34 (.tmp 9) (.const (.pointer none)) s (.pointer none)) fun t10 =>
 condK t10
 (j1 true)
 (nR 72 s 1 65 fun t15 =>
 oB (bS .eql 65 (.tmp 15) (.const (.pointer none)) t15 (.pointer none)) fun t16 =>
 j1 t16))
 fun t17 =>
 condK t17
 (K 2)
 (store_Store_gone s (.func (.func 38) #[] #[e_1]) fun _ =>
 lR 28 e_1 fun t21 =>
 store_Size t21 fun t22 =>
 joinK [(35, .bool)] (fun (j2 : Bool → WP) =>
 nI 72 s 2 3 .i64 fun t27 =>
 condK (decide (t22 > t27))
 (j2 true)
 (nI 72 s 3 3 .i64 fun t33 =>
 j2 (t33 == 0)))
 fun t35 =>
 condK t35
 (K 7)
 (loopK [] (fun (j3 : WP) => j3) (fun (j4 : WP) =>
 joinK [(55, .bool)] (fun (j5 : Bool → WP) =>
 DrawK fun S =>
 hI S 72 s 3 3 .i64 fun t41 =>
 store_Store_count s fun t37 =>
 andK S <|
 condK (decide (t37 ≥ t41))
 (j5 true)
 (hI S 72 s 2 3 .i64 fun t48 =>
 hI S 72 s 4 3 .i64 fun t52 =>
 ArK .i64 (t48 - t52) fun t53 =>
 j5 (decide (t22 > t53))))
 fun t55 =>
 condK t55
 (nR 72 s 1 65 fun t60 =>
 lru_List_Victim t60 fun t61 t61_1 =>
 condK (!t61_1)
 (K 7)
 (store_Store_out s t61 fun _ =>
 j4))
 (DrawK fun S =>
 NilK s <|
 qR (vS (Instr.fieldAt 72 s 0)) fun t71 =>
 hI S 72 s 3 3 .i64 fun t75 =>
 qR (vS (Instr.sliceAt 70 t71 none (some (.int .i64 t75)) none)) fun t76 =>
 slices_IndexFunc_slot t76 (.func (.func 43) #[] #[]) fun t77 =>
 andK S <|
 DrawK fun S =>
 sR S (vS (Instr.loadAt 28 e_1)) fun t80 =>
 NilK s <|
 qR (vS (Instr.fieldAt 72 s 0)) fun t84 =>
 store_copied t80 fun t81 =>
 qR (vS (Instr.build 69 #[(0, t81), (1, (.bool true))])) fun t82 =>
 qR (vS (Instr.indexAt 70 t84 (.int .i64 t77))) fun t85 =>
 sto 69 t85 t82 <|
 nI 72 s 4 3 .i64 fun t89 =>
 ArK .i64 (t89 + t22) fun t91 =>
 nW 72 s 4 3 (.int .i64 t91) <|
 nR 72 s 1 65 fun t97 =>
 lru_List_Add t97 t77 fun t99 =>
 K t99))))
theorem store_Store_Put_ok {s : Value} {e : Value} {K : Int → WP} (w : World) (h : store_Store_Put_sh s e K w) : store_Store_Put s e K w :=
  fn_ok cx_ok (hi := (.n .l (.n (.n (.j [(17, .bool)] .l) .l) (.n .l (.n .l (.n (.n (.j [(35, .bool)] .l) .l) (.n (.n (.p [] (.n (.n (.j [(55, .bool)] (.o (odL [0, 2, 3, 4, 5, 1, 6, 7, 8, 9, 10, 11, 12, 13, 14, 15, 16, 17, 18, 19]))) .l) .l)) .l) (.n (.o (odR 0 10)) (.n (.o (odL [0, 1, 2, 5, 6, 3, 4, 7, 8])) .l))))))))) (fn := Tryz.f15) Tryz.func15 (by kernel_rfl) h

/- (*tollhouse/store.Store).Look -/
def store_Store_Look_sh (s : Value) (url : ByteArray) (l : Value) (K : Value → Bool → WP) : WP :=
 oR (vS (Instr.alloc 28 true (.tuple #[]))) fun t6 =>
 store_Store_find s url l fun t14 t14_1 =>
 condK (!t14_1)
 (oR (vS (Instr.build 28 #[])) fun t19 =>
 sto 28 t6 t19 <|
 rR (vS (do loadVar 28 (← asAddr t6))) fun u_1 =>
 K u_1 false)
 (NilK s <|
 oR (vS (Instr.fieldAt 72 s 0)) fun t23 =>
 oR (vS (Instr.indexAt 70 t23 (.int .i64 t14))) fun t24 =>
 fR 69 t24 0 28 fun t26 =>
 store_copied t26 fun t27 =>
 sto 28 t6 t27 <|
 rR (vS (do loadVar 28 (← asAddr t6))) fun u_3 =>
 K u_3 true)
theorem store_Store_Look_ok {s : Value} {url : ByteArray} {l : Value} {K : Value → Bool → WP} (w : World) (h : store_Store_Look_sh s url l K w) : store_Store_Look s url l K w :=
  fn_ok cx_ok (hi := .l) (fn := Tryz.f16) Tryz.func16 (by kernel_rfl) h

/- (*tollhouse/store.Store).Get -/
def store_Store_Get_sh (s : Value) (url : ByteArray) (l : Value) (K : Value → Bool → WP) : WP :=
 oR (vS (Instr.alloc 28 true (.tuple #[]))) fun t6 =>
 store_Store_find s url l fun t14 t14_1 =>
 condK (!t14_1)
 (oR (vS (Instr.build 28 #[])) fun t19 =>
 sto 28 t6 t19 <|
 rR (vS (do loadVar 28 (← asAddr t6))) fun u_1 =>
 K u_1 false)
 (nR 72 s 1 65 fun t23 =>
 lru_List_Touch t23 t14 fun _ =>
 NilK s <|
 oR (vS (Instr.fieldAt 72 s 0)) fun t29 =>
 oR (vS (Instr.indexAt 70 t29 (.int .i64 t14))) fun t30 =>
 fR 69 t30 0 28 fun t32 =>
 store_copied t32 fun t33 =>
 sto 28 t6 t33 <|
 rR (vS (do loadVar 28 (← asAddr t6))) fun u_3 =>
 K u_3 true)
theorem store_Store_Get_ok {s : Value} {url : ByteArray} {l : Value} {K : Value → Bool → WP} (w : World) (h : store_Store_Get_sh s url l K w) : store_Store_Get s url l K w :=
  fn_ok cx_ok (hi := .l) (fn := Tryz.f17) Tryz.func17 (by kernel_rfl) h

/- tollhouse/tollhouseref21.Same -/
def ref21_Same_sh (a : Value) (b : Value) (K : Bool → WP) : WP :=
 oR (vS (Instr.box 28 a)) fun a_1 =>
 oR (vS (Instr.box 28 b)) fun b_1 =>
 fS 28 a_1 0 9 fun t6 =>
 fS 28 b_1 0 9 fun t8 =>
 oB (bS .eql 9 (.tmp 6) (.tmp 8) (.string t6) (.string t8)) fun t9 =>
 condK t9
 (fI 28 a_1 1 22 .u64 fun t12 =>
 fI 28 b_1 1 22 .u64 fun t14 =>
 condK (t12 == t14)
 (fI 28 a_1 2 22 .u64 fun t19 =>
 fI 28 b_1 2 22 .u64 fun t21 =>
 condK (t19 == t21)
 (fR 28 a_1 3 23 fun t26 =>
 fR 28 b_1 3 23 fun t28 =>
 ref09_SameFields t26 t28 fun t29 =>
 condK t29
 (fR 28 a_1 4 26 fun t33 =>
 fR 28 b_1 4 26 fun t35 =>
 ref09_SameResponse t33 t35 fun t36 =>
 K t36)
 (K false))
 (K false))
 (K false))
 (K false)
theorem ref21_Same_ok {a : Value} {b : Value} {K : Bool → WP} (w : World) (h : ref21_Same_sh a b K w) : ref21_Same a b K w :=
  fn_ok cx_ok (hi := .l) (fn := Tryz.f18) Tryz.func18 (by kernel_rfl) h

/- (*tollhouse/store.Store).Drop -/
def store_Store_Drop_sh (s : Value) (url : ByteArray) (K : Int → WP) : WP :=
 oR (vS (Instr.box 9 (.string url))) fun url_1 =>
 store_Store_gone s (.func (.func 50) #[] #[url_1]) fun t7 =>
 K t7
theorem store_Store_Drop_ok {s : Value} {url : ByteArray} {K : Int → WP} (w : World) (h : store_Store_Drop_sh s url K w) : store_Store_Drop s url K w :=
  fn_ok cx_ok (hi := .l) (fn := Tryz.f19) Tryz.func19 (by kernel_rfl) h

/- (*tollhouse/store.Store).Entries -/
def store_Store_Entries_sh (s : Value) (K : Value → WP) : WP :=
 oR (vS (Instr.alloc 38 true (.tuple #[]))) fun l =>
 store_Store_all s fun t7 =>
 RfK P t7 [.raw, .raw] (fun (l1 : Nat) (_ : Value) (t9 : Value) (d1 : Dn) =>
 oR (vS (Instr.alloc 28 true (.tuple #[]))) fun e =>
 sto 28 e t9 <|
 BgK P l1 <|
 DrawK fun S =>
 sR S (vS (Instr.loadAt 38 l)) fun t10 =>
 sR S (vS (Instr.loadAt 28 e)) fun t11 =>
 store_copied t11 fun t12 =>
 andK S <|
 oR (vS (Instr.buildSlice 38 1 #[(0, t12)])) fun t13 =>
 andK S <|
 app 38 38 38 t10 t13 fun t14 =>
 andK S <|
 sto 38 l t14 <|
 d1 none) fun (r1 : Nat) => JmK
 (lR 38 l fun t15 =>
 TkK P r1 <|
 K t15)
 (fun _ => False)
 []
theorem store_Store_Entries_ok {s : Value} {K : Value → WP} (w : World) (h : store_Store_Entries_sh s K w) : store_Store_Entries s K w :=
  fn_ok cx_ok (hi := (.n .l (.n .l (.n (.n .l (.n (.f [.raw, .raw] false [] .l (.n (.o (odR 0 6)) .l)) .l)) .l)))) (fn := Tryz.f20) Tryz.func20 (by kernel_rfl) h

/- (*tollhouse/store.Store).Used -/
def store_Store_Used_sh (s : Value) (K : Int → WP) : WP :=
 oB (bS .eql 34 (.tmp 3) (.const (.pointer none)) s (.pointer none)) fun t4 =>
 condK t4
 (K 0)
 (nI 72 s 4 3 .i64 fun t8 =>
 K t8)
theorem store_Store_Used_ok {s : Value} {K : Int → WP} (w : World) (h : store_Store_Used_sh s K w) : store_Store_Used s K w :=
  fn_ok cx_ok (hi := .l) (fn := Tryz.f21) Tryz.func21 (by kernel_rfl) h

/- (*tollhouse/store.Store).gone -/
def store_Store_gone_sh (s : Value) (is_ : Value) (K : Int → WP) : WP :=
 oR (vS (Instr.box 34 s)) fun s_1 =>
 oR (vS (Instr.box 74 is_)) fun is__1 =>
 oR (vS (Instr.alloc 3 true (.tuple #[]))) fun n =>
 sto 3 n (.int .i64 0) <|
 lR 34 s_1 fun t8 =>
 store_Store_all t8 fun t9 =>
 RfK P t9 [(.int .i64), .raw] (fun (l1 : Nat) (t10 : Int) (t11 : Value) (d1 : Dn) =>
 oR (vS (Instr.alloc 28 true (.tuple #[]))) fun e =>
 sto 28 e t11 <|
 BgK P l1 <|
 lR 74 is__1 fun t12 =>
 lR 28 e fun t13 =>
 oB (callS t12 #[t13]) fun t14 =>
 condK t14
 (lR 34 s_1 fun t15 =>
 store_Store_out t15 t10 fun _ =>
 lI 3 .i64 n fun t18 =>
 ArK .i64 (t18 + 1) fun t19 =>
 sto 3 n (.int .i64 t19) <|
 d1 none)
 (d1 none)) fun (r1 : Nat) => JmK
 (lI 3 .i64 n fun t20 =>
 TkK P r1 <|
 K t20)
 (fun _ => False)
 []
theorem store_Store_gone_ok {s : Value} {is_ : Value} {K : Int → WP} (w : World) (h : store_Store_gone_sh s is_ K w) : store_Store_gone s is_ K w :=
  fn_ok cx_ok (hi := (.n .l (.n .l (.n (.n .l (.n (.f [(.int .i64), .raw] false [] .l .l) .l)) .l)))) (fn := Tryz.f37) Tryz.func37 (by kernel_rfl) h

/- (*tollhouse/store.Store).Put$1 -/
def store_Store_Put_c1_sh (x : Value) (t1 : Value) (K : Bool → WP) : WP :=
 oR (vS (Instr.box 28 x)) fun x_1 =>
 fS 28 x_1 0 9 fun t5 =>
 fS 28 t1 0 9 fun t7 =>
 oB (bS .eql 9 (.tmp 5) (.tmp 7) (.string t5) (.string t7)) fun t8 =>
 condK t8
 (fR 28 x_1 3 23 fun t11 =>
 fR 28 t1 3 23 fun t13 =>
 vary_Same t11 t13 fun t14 =>
 K t14)
 (K false)
theorem store_Store_Put_c1_ok {x : Value} {t1 : Value} {K : Bool → WP} (w : World) (h : store_Store_Put_c1_sh x t1 K w) : store_Store_Put_c1 x t1 K w :=
  fn_ok cx_ok (hi := .l) (fn := Tryz.f38) Tryz.func38 (by kernel_rfl) h

/- (*tollhouse/store.Store).count -/
def store_Store_count_sh (s : Value) (K : Int → WP) : WP :=
 oR (vS (Instr.alloc 3 true (.tuple #[]))) fun n =>
 sto 3 n (.int .i64 0) <|
 store_Store_all s fun t5 =>
 RfK P t5 [.raw, .raw] (fun (l1 : Nat) (_ : Value) (_ : Value) (d1 : Dn) =>
 BgK P l1 <|
 lI 3 .i64 n fun t8 =>
 ArK .i64 (t8 + 1) fun t9 =>
 sto 3 n (.int .i64 t9) <|
 d1 none) fun (r1 : Nat) => JmK
 (lI 3 .i64 n fun t10 =>
 TkK P r1 <|
 K t10)
 (fun _ => False)
 []
theorem store_Store_count_ok {s : Value} {K : Int → WP} (w : World) (h : store_Store_count_sh s K w) : store_Store_count s K w :=
  fn_ok cx_ok (hi := (.n .l (.n .l (.n (.n .l (.n (.f [.raw, .raw] false [] .l .l) .l)) .l)))) (fn := Tryz.f39) Tryz.func39 (by kernel_rfl) h

/- (*tollhouse/store.Store).out -/
def store_Store_out_sh (s : Value) (i : Int) (K : Value → WP) : WP :=
 DrawK fun S =>
 hI S 72 s 4 3 .i64 fun t7 =>
 NilK s <|
 qR (vS (Instr.fieldAt 72 s 0)) fun t11 =>
 qR (vS (Instr.indexAt 70 t11 (.int .i64 i))) fun t12 =>
 gR S 69 t12 0 28 fun t14 =>
 store_Size t14 fun t15 =>
 andK S <|
 ArK .i64 (t7 - t15) fun t16 =>
 NilK s <|
 qR (vS (Instr.fieldAt 72 s 4)) fun t18 =>
 sto 3 t18 (.int .i64 t16) <|
 oR (vS (Instr.build 69 #[])) fun t21 =>
 NilK s <|
 oR (vS (Instr.fieldAt 72 s 0)) fun t23 =>
 iW 70 t23 .i64 i 69 t21 <|
 nR 72 s 1 65 fun t28 =>
 lru_List_Remove t28 i fun _ =>
 K (.tuple #[])
theorem store_Store_out_ok {s : Value} {i : Int} {K : Value → WP} (w : World) (h : store_Store_out_sh s i K w) : store_Store_out s i K w :=
  fn_ok cx_ok (hi := (.n (.o (odR 0 16)) .l)) (fn := Tryz.f41) Tryz.func41 (by kernel_rfl) h

/- slices.IndexFunc[[]tollhouse/store.slot,tollhouse/store.slot] -/
def slices_IndexFunc_slot_sh (s : Value) (f : Value) (K : Int → WP) : WP :=
 len 79 3 s fun t7 =>
 loopK [(8, (.int .i64))] (fun (j1 : Int → WP) => j1 0) (fun (j2 : Int → WP) (t8 : Int) =>
 condK (decide (t8 < t7))
 (iR 79 s .i64 t8 69 fun t15 =>
 oB (callS f #[t15]) fun t16 =>
 condK t16
 (K t8)
 (ArK .i64 (t8 + 1) fun t18 =>
 j2 t18))
 (K (-1)))
theorem slices_IndexFunc_slot_ok {s : Value} {f : Value} {K : Int → WP} (w : World) (h : slices_IndexFunc_slot_sh s f K w) : slices_IndexFunc_slot s f K w :=
  fn_ok cx_ok (hi := (.n .l (.n (.n .l (.n (.p [(8, (.int .i64))] .l) .l)) .l))) (fn := Tryz.f42) Tryz.func42 (by kernel_rfl) h

/- (*tollhouse/store.Store).Put$2 -/
def store_Store_Put_c2_sh (x : Value) (K : Bool → WP) : WP :=
 oR (vS (Instr.box 69 x)) fun x_1 =>
 fB 69 x_1 1 4 fun t4 =>
 K (!t4)
theorem store_Store_Put_c2_ok {x : Value} {K : Bool → WP} (w : World) (h : store_Store_Put_c2_sh x K w) : store_Store_Put_c2 x K w :=
  fn_ok cx_ok (hi := .l) (fn := Tryz.f43) Tryz.func43 (by kernel_rfl) h

/- tollhouse/store.copied -/
def store_copied_sh (e : Value) (K : Value → WP) : WP :=
 oR (vS (Instr.box 28 e)) fun e_1 =>
 oR (vS (Instr.alloc 28 true (.tuple #[]))) fun t2 =>
 fR 28 e_1 3 23 fun t4 =>
 slices_Clone_Field t4 fun t5 =>
 fW 28 e_1 3 23 t5 <|
 oR (vS (Instr.fieldAt 28 e_1 4)) fun t7 =>
 fR 26 t7 3 23 fun t9 =>
 slices_Clone_Field t9 fun t10 =>
 oR (vS (Instr.fieldAt 28 e_1 4)) fun t11 =>
 fW 26 t11 3 23 t10 <|
 oR (vS (Instr.fieldAt 28 e_1 4)) fun t13 =>
 fR 26 t13 4 24 fun t15 =>
 bytes_Clone t15 fun t16 =>
 oR (vS (Instr.fieldAt 28 e_1 4)) fun t17 =>
 fW 26 t17 4 24 t16 <|
 lR 28 e_1 fun t19 =>
 sto 28 t2 t19 <|
 rR (vS (do loadVar 28 (← asAddr t2))) fun u_4 =>
 K u_4
theorem store_copied_ok {e : Value} {K : Value → WP} (w : World) (h : store_copied_sh e K w) : store_copied e K w :=
  fn_ok cx_ok (hi := .l) (fn := Tryz.f44) Tryz.func44 (by kernel_rfl) h

/- (*tollhouse/store.Store).find -/
def store_Store_find_sh (s : Value) (url : ByteArray) (l : Value) (K : Int → Bool → WP) : WP :=
 oR (vS (Instr.box 34 s)) fun s_1 =>
 oR (vS (Instr.box 9 (.string url))) fun url_1 =>
 oR (vS (Instr.box 23 l)) fun l_1 =>
 oR (vS (Instr.alloc 3 true (.tuple #[]))) fun best =>
 oR (vS (Instr.alloc 4 true (.tuple #[]))) fun is_ =>
 sto 3 best (.int .i64 0) <|
 sto 4 is_ (.bool false) <|
 lR 34 s_1 fun t12 =>
 store_Store_all t12 fun t13 =>
 RfK P t13 [(.int .i64), .raw] (fun (l1 : Nat) (t14 : Int) (t15 : Value) (d1 : Dn) =>
 oR (vS (Instr.alloc 28 true (.tuple #[]))) fun e =>
 sto 28 e t15 <|
 BgK P l1 <|
 joinK [(41, .bool)] (fun (j2 : Bool → WP) =>
 DrawK fun S =>
 gS S 28 e 0 9 fun t17 =>
 sS S (vS (Instr.loadAt 9 url_1)) fun t18 =>
 qB (bS .eql 9 (.tmp 17) (.tmp 18) (.string t17) (.string t18)) fun t19 =>
 condK t19
 (sR S (vS (Instr.loadAt 28 e)) fun t21 =>
 sR S (vS (Instr.loadAt 23 l_1)) fun t22 =>
 store_For t21 t22 fun t23 =>
 andK S <|
 condK t23
 (sB S (vS (Instr.loadAt 4 is_)) fun t26 =>
 condK (!t26)
 (j2 true)
 (gI S 28 e 2 22 .u64 fun t30 =>
 sR S (vS (Instr.loadAt 34 s_1)) fun t31 =>
 sI S .i64 (vS (Instr.loadAt 3 best)) fun t32 =>
 NilK t31 <|
 qR (vS (Instr.fieldAt 72 t31 0)) fun t34 =>
 qR (vS (Instr.indexAt 70 t34 (.int .i64 t32))) fun t35 =>
 qR (vS (Instr.fieldAt 69 t35 0)) fun t36 =>
 gI S 28 t36 2 22 .u64 fun t38 =>
 j2 (decide (t30 ≥ t38))))
 (j2 false))
 (j2 false))
 fun t41 =>
 condK t41
 (sto 3 best (.int .i64 t14) <|
 sto 4 is_ (.bool true) <|
 d1 none)
 (d1 none)) fun (r1 : Nat) => JmK
 (DrawK fun S =>
 sI S .i64 (vS (Instr.loadAt 3 best)) fun t43 =>
 sB S (vS (Instr.loadAt 4 is_)) fun t44 =>
 TkK P r1 <|
 K t43 t44)
 (fun _ => False)
 []
theorem store_Store_find_ok {s : Value} {url : ByteArray} {l : Value} {K : Int → Bool → WP} (w : World) (h : store_Store_find_sh s url l K w) : store_Store_find s url l K w :=
  fn_ok cx_ok (hi := (.n .l (.n .l (.n (.n .l (.n (.f [(.int .i64), .raw] false [] .l (.n (.n (.j [(41, .bool)] (.o (odR 0 26))) .l) .l)) .l)) (.n (.o (odR 0 4)) .l))))) (fn := Tryz.f46) Tryz.func46 (by kernel_rfl) h

/- (*tollhouse/store.Store).Drop$1 -/
def store_Store_Drop_c1_sh (e : Value) (t1 : Value) (K : Bool → WP) : WP :=
 oR (vS (Instr.box 28 e)) fun e_1 =>
 fS 28 e_1 0 9 fun t5 =>
 lS 9 t1 fun t6 =>
 oB (bS .eql 9 (.tmp 5) (.tmp 6) (.string t5) (.string t6)) fun t7 =>
 K t7
theorem store_Store_Drop_c1_ok {e : Value} {t1 : Value} {K : Bool → WP} (w : World) (h : store_Store_Drop_c1_sh e t1 K w) : store_Store_Drop_c1 e t1 K w :=
  fn_ok cx_ok (hi := .l) (fn := Tryz.f50) Tryz.func50 (by kernel_rfl) h

/- (*tollhouse/store.Store).all -/
def store_Store_all_sh (s : Value) (K : Value → WP) : WP :=
 oR (vS (Instr.box 34 s)) fun s_1 =>
 K (.func (.func 77) #[] #[s_1])
theorem store_Store_all_ok {s : Value} {K : Value → WP} (w : World) (h : store_Store_all_sh s K w) : store_Store_all s K w :=
  fn_ok cx_ok (hi := .l) (fn := Tryz.f51) Tryz.func51 (by kernel_rfl) h

/- (*tollhouse/store.Store).all$1 -/
def store_Store_all_c1_sh (yield : Value) (t1 : Value) (K : Value → WP) : WP :=
 lR 34 t1 fun t5 =>
 oB (bS .eql 34 (.tmp 5) (.const (.pointer none)) t5 (.pointer none)) fun t6 =>
 condK t6
 (K (.tuple #[]))
 (lR 34 t1 fun t7 =>
 nR 72 t7 0 70 fun t10 =>
 loopK [(11, (.int .i64))] (fun (j1 : Int → WP) => j1 0) (fun (j2 : Int → WP) (t11 : Int) =>
 condK (decide (t11 < 64))
 (oR (vS (Instr.index 70 t10 (.int .i64 t11))) fun t14 =>
 oR (vS (Instr.alloc 69 true (.tuple #[]))) fun x =>
 sto 69 x t14 <|
 fB 69 x 1 4 fun t16 =>
 condK t16
 (fR 69 x 0 28 fun t21 =>
 oB (callS yield #[(.int .i64 t11), t21]) fun t22 =>
 condK (!t22)
 (K (.tuple #[]))
 (ArK .i64 (t11 + 1) fun t25 =>
 j2 t25))
 (ArK .i64 (t11 + 1) fun t25_1 =>
 j2 t25_1))
 (K (.tuple #[]))))
theorem store_Store_all_c1_ok {yield : Value} {t1 : Value} {K : Value → WP} (w : World) (h : store_Store_all_c1_sh yield t1 K w) : store_Store_all_c1 yield t1 K w :=
  fn_ok cx_ok (hi := (.n .l (.n .l (.n (.p [(11, (.int .i64))] .l) .l)))) (fn := Tryz.f77) Tryz.func77 (by kernel_rfl) h

/- (*tollhouse/store.Store).Copy -/
def store_Store_Copy_sh (s : Value) (K : Value → WP) : WP :=
 oB (bS .eql 34 (.tmp 4) (.const (.pointer none)) s (.pointer none)) fun t5 =>
 condK t5
 (K (.pointer none))
 (NilK s <|
 lR 72 s fun t8 =>
 oR (vS (Instr.alloc 72 true (.tuple #[]))) fun x =>
 sto 72 x t8 <|
 nR 72 s 1 65 fun t12 =>
 lru_List_Copy t12 fun t13 =>
 fW 72 x 1 65 t13 <|
 K x)
theorem store_Store_Copy_ok {s : Value} {K : Value → WP} (w : World) (h : store_Store_Copy_sh s K w) : store_Store_Copy s K w :=
  fn_ok cx_ok (hi := .l) (fn := Tryz.f28) Tryz.func28 (by kernel_rfl) h

/- tollhouse/tollhouseref21.New -/
def ref21_New_sh (bytes : Int) (entries : Int) (K : Value → Int → WP) : WP :=
 joinK [(21, .bool)] (fun (j1 : Bool → WP) =>
 condK (decide (bytes < 0))
 (j1 true)
 (condK (decide (bytes > 262144))
 (j1 true)
 (condK (decide (entries < 0))
 (j1 true)
 (j1 (decide (entries > 64))))))
 fun t21 =>
 condK t21
 (K (.pointer none) 1)
 (ArK .i64 (2 * entries) fun t24 =>
 oI .i64 (bS .quo 3 (.tmp 24) (.const (.int .i64 3)) (.int .i64 t24) (.int .i64 3)) fun t25 =>
 ref20_New t25 fun t26 _ =>
 oR (vS (Instr.build 91 #[(1, t26), (2, (.int .i64 bytes)), (3, (.int .i64 entries))])) fun t32 =>
 oR (vS (Instr.box 91 t32)) fun t33 =>
 K t33 0)
theorem ref21_New_ok {bytes : Int} {entries : Int} {K : Value → Int → WP} (w : World) (h : ref21_New_sh bytes entries K w) : ref21_New bytes entries K w :=
  fn_ok cx_ok (hi := (.n .l (.n (.n (.j [(21, .bool)] .l) .l) .l))) (fn := Tryz.f22) Tryz.func22 (by kernel_rfl) h

/- tollhouse/tollhouseref21.Own -/
def ref21_Own_sh (e : Value) (K : Value → WP) : WP :=
 oR (vS (Instr.box 28 e)) fun e_1 =>
 oR (vS (Instr.alloc 28 true (.tuple #[]))) fun t2 =>
 fR 28 e_1 3 23 fun t7 =>
 oR (vS (Builtin.append_ #[23, 23] 23 #[(.slice none 0 0), t7])) fun t8 =>
 fW 28 e_1 3 23 t8 <|
 oR (vS (Instr.fieldAt 28 e_1 4)) fun t11 =>
 fR 26 t11 3 23 fun t13 =>
 oR (vS (Builtin.append_ #[23, 23] 23 #[(.slice none 0 0), t13])) fun t14 =>
 oR (vS (Instr.fieldAt 28 e_1 4)) fun t15 =>
 fW 26 t15 3 23 t14 <|
 oR (vS (Instr.fieldAt 28 e_1 4)) fun t17 =>
 fR 26 t17 4 24 fun t19 =>
 ref09_Own t19 fun t20 =>
 oR (vS (Instr.fieldAt 28 e_1 4)) fun t21 =>
 fW 26 t21 4 24 t20 <|
 lR 28 e_1 fun t23 =>
 sto 28 t2 t23 <|
 rR (vS (do loadVar 28 (← asAddr t2))) fun u_4 =>
 K u_4
theorem ref21_Own_ok {e : Value} {K : Value → WP} (w : World) (h : ref21_Own_sh e K w) : ref21_Own e K w :=
  fn_ok cx_ok (hi := .l) (fn := Tryz.f23) Tryz.func23 (by kernel_rfl) h

/- (*tollhouse/tollhouseref21.Store).Put -/
def ref21_Store_Put_sh (s : Value) (e : Value) (K : Int → WP) : WP :=
 oR (vS (Instr.box 28 e)) fun e_1 =>
 nR 91 s 0 89 fun t14 =>
 loopK [(6, (.int .i64))] (fun (j1 : Int → WP) => j1 0) (fun (j2 : Int → WP) (i : Int) =>
 len 89 3 t14 fun t17 =>
 condK (decide (i < t17))
 (joinK [(40, .bool)] (fun (j3 : Bool → WP) =>
 DrawK fun S =>
 qR (vS (Instr.indexAt 89 t14 (.int .i64 i))) fun t23 =>
 qR (vS (Instr.fieldAt 94 t23 1)) fun t24 =>
 gS S 28 t24 0 9 fun t26 =>
 gS S 28 e_1 0 9 fun t28 =>
 qB (bS .eql 9 (.tmp 26) (.tmp 28) (.string t26) (.string t28)) fun t29 =>
 condK t29
 (qR (vS (Instr.indexAt 89 t14 (.int .i64 i))) fun t33 =>
 qR (vS (Instr.fieldAt 94 t33 1)) fun t34 =>
 gR S 28 t34 3 23 fun t36 =>
 gR S 28 e_1 3 23 fun t38 =>
 ref16_Same t36 t38 fun t39 =>
 andK S <|
 j3 t39)
 (j3 false))
 fun t40 =>
 condK t40
 (oR (vS (Instr.indexAt 89 t14 (.int .i64 i))) fun t44 =>
 fI 94 t44 0 3 .i64 fun t46 =>
 ref21_Store_out s t46 fun _ =>
 ArK .i64 (i + 1) fun t20 =>
 j2 t20)
 (ArK .i64 (i + 1) fun t20_1 =>
 j2 t20_1))
 (joinK [(61, .bool)] (fun (j4 : Bool → WP) =>
 DrawK fun S =>
 sR S (vS (Instr.loadAt 28 e_1)) fun t48 =>
 hI S 91 s 2 3 .i64 fun t53 =>
 ref21_Size t48 fun t49 =>
 andK S <|
 condK (decide (t49 > t53))
 (j4 true)
 (hI S 91 s 3 3 .i64 fun t59 =>
 j4 (t59 == 0)))
 fun t61 =>
 condK t61
 (K 7)
 (loopK [] (fun (j5 : WP) => j5) (fun (j6 : WP) =>
 joinK [(83, .bool)] (fun (j7 : Bool → WP) =>
 DrawK fun S =>
 hR S 91 s 0 89 fun t65 =>
 sI S .i64 (vS (Builtin.len_ #[89] 3 #[t65])) fun t66 =>
 hI S 91 s 3 3 .i64 fun t70 =>
 condK (decide (t66 ≥ t70))
 (j7 true)
 (sR S (vS (Instr.loadAt 28 e_1)) fun t75 =>
 hI S 91 s 2 3 .i64 fun t81 =>
 ref21_Store_Used s fun t74 =>
 andK S <|
 ref21_Size t75 fun t76 =>
 andK S <|
 ArK .i64 (t74 + t76) fun t77 =>
 j7 (decide (t77 > t81))))
 fun t83 =>
 condK t83
 (nR 91 s 1 86 fun t88 =>
 ref20_List_Victim t88 fun t89 _ =>
 ref21_Store_out s t89 fun _ =>
 j6)
 (loopK [(10, (.int .i64))] (fun (j8 : Int → WP) => j8 0) (fun (j9 : Int → WP) (n : Int) =>
 nR 91 s 0 89 fun t99 =>
 len 89 3 t99 fun t100 =>
 condK (decide (n < t100))
 (nR 91 s 0 89 fun t106 =>
 oR (vS (Instr.indexAt 89 t106 (.int .i64 n))) fun t108 =>
 fI 94 t108 0 3 .i64 fun t110 =>
 condK (t110 == n)
 (ArK .i64 (n + 1) fun t115 =>
 j9 t115)
 (nR 91 s 0 89 fun t120 =>
 oR (vS (Instr.sliceAt 89 t120 none (some (.int .i64 n)) none)) fun t122 =>
 oR (vS (Builtin.append_ #[89, 89] 89 #[(.slice none 0 0), t122])) fun t123 =>
 lR 28 e_1 fun t126 =>
 ref21_Own t126 fun t127 =>
 oR (vS (Instr.build 94 #[(0, (.int .i64 n)), (1, t127)])) fun t128 =>
 oR (vS (Instr.buildSlice 89 1 #[(0, t128)])) fun t129 =>
 app 89 89 89 t123 t129 fun t130 =>
 nR 91 s 0 89 fun t136 =>
 oR (vS (Instr.sliceAt 89 t136 (some (.int .i64 n)) none none)) fun t138 =>
 app 89 89 89 t130 t138 fun t139 =>
 nW 91 s 0 89 t139 <|
 nR 91 s 1 86 fun t145 =>
 ref20_List_Add t145 n fun _ =>
 K 0))
 (nR 91 s 0 89 fun t120_1 =>
 oR (vS (Instr.sliceAt 89 t120_1 none (some (.int .i64 n)) none)) fun t122_1 =>
 oR (vS (Builtin.append_ #[89, 89] 89 #[(.slice none 0 0), t122_1])) fun t123_1 =>
 lR 28 e_1 fun t126_1 =>
 ref21_Own t126_1 fun t127_1 =>
 oR (vS (Instr.build 94 #[(0, (.int .i64 n)), (1, t127_1)])) fun t128_1 =>
 oR (vS (Instr.buildSlice 89 1 #[(0, t128_1)])) fun t129_1 =>
 app 89 89 89 t123_1 t129_1 fun t130_1 =>
 nR 91 s 0 89 fun t136_1 =>
 oR (vS (Instr.sliceAt 89 t136_1 (some (.int .i64 n)) none none)) fun t138_1 =>
 app 89 89 89 t130_1 t138_1 fun t139_1 =>
 nW 91 s 0 89 t139_1 <|
 nR 91 s 1 86 fun t145_1 =>
 ref20_List_Add t145_1 n fun _ =>
 K 0)))))))
theorem ref21_Store_Put_ok {s : Value} {e : Value} {K : Int → WP} (w : World) (h : ref21_Store_Put_sh s e K w) : ref21_Store_Put s e K w :=
  fn_ok cx_ok (hi := (.n .l (.n .l (.n (.n .l (.n (.p [(6, (.int .i64))] (.n .l (.n (.n (.n (.j [(40, .bool)] (.o (odR 0 20))) .l) .l) .l))) .l)) (.n (.n (.j [(61, .bool)] (.o (odL [0, 2, 3, 4, 5, 1, 6, 7, 8, 9, 10, 11, 12, 13]))) .l) (.n (.n (.p [] (.n (.n (.j [(83, .bool)] (.o (odL [0, 1, 2, 3, 4, 5, 6, 7, 8, 9, 10, 11, 13, 16, 17, 18, 19, 12, 14, 15, 20, 21]))) .l) .l)) .l) (.n .l (.n .l (.n (.n (.p [(10, (.int .i64))] .l) .l) .l))))))))) (fn := Tryz.f24) Tryz.func24 (by kernel_rfl) h

/- (*tollhouse/tollhouseref21.Store).Get -/
def ref21_Store_Get_sh (s : Value) (url : ByteArray) (l : Value) (K : Value → Bool → WP) : WP :=
 oR (vS (Instr.alloc 28 true (.tuple #[]))) fun t6 =>
 ref21_Store_find s url l fun t12 =>
 condK (decide (t12 < 0))
 (oR (vS (Instr.build 28 #[])) fun t15 =>
 sto 28 t6 t15 <|
 rR (vS (do loadVar 28 (← asAddr t6))) fun u_1 =>
 K u_1 false)
 (DrawK fun S =>
 hR S 91 s 1 86 fun t19 =>
 hR S 91 s 0 89 fun t23 =>
 qR (vS (Instr.indexAt 89 t23 (.int .i64 t12))) fun t25 =>
 gI S 94 t25 0 3 .i64 fun t27 =>
 ref20_List_Touch t19 t27 fun _ =>
 andK S <|
 nR 91 s 0 89 fun t32 =>
 oR (vS (Instr.indexAt 89 t32 (.int .i64 t12))) fun t34 =>
 fR 94 t34 1 28 fun t36 =>
 ref21_Own t36 fun t37 =>
 sto 28 t6 t37 <|
 rR (vS (do loadVar 28 (← asAddr t6))) fun u_3 =>
 K u_3 true)
theorem ref21_Store_Get_ok {s : Value} {url : ByteArray} {l : Value} {K : Value → Bool → WP} (w : World) (h : ref21_Store_Get_sh s url l K w) : ref21_Store_Get s url l K w :=
  fn_ok cx_ok (hi := (.n .l (.n .l (.n .l (.n (.o (odR 0 13)) .l))))) (fn := Tryz.f25) Tryz.func25 (by kernel_rfl) h

/- (*tollhouse/tollhouseref21.Store).Look -/
def ref21_Store_Look_sh (s : Value) (url : ByteArray) (l : Value) (K : Value → Bool → WP) : WP :=
 oR (vS (Instr.alloc 28 true (.tuple #[]))) fun t6 =>
 ref21_Store_find s url l fun t12 =>
 condK (decide (t12 < 0))
 (oR (vS (Instr.build 28 #[])) fun t15 =>
 sto 28 t6 t15 <|
 rR (vS (do loadVar 28 (← asAddr t6))) fun u_1 =>
 K u_1 false)
 (nR 91 s 0 89 fun t19 =>
 oR (vS (Instr.indexAt 89 t19 (.int .i64 t12))) fun t21 =>
 fR 94 t21 1 28 fun t23 =>
 ref21_Own t23 fun t24 =>
 sto 28 t6 t24 <|
 rR (vS (do loadVar 28 (← asAddr t6))) fun u_3 =>
 K u_3 true)
theorem ref21_Store_Look_ok {s : Value} {url : ByteArray} {l : Value} {K : Value → Bool → WP} (w : World) (h : ref21_Store_Look_sh s url l K w) : ref21_Store_Look s url l K w :=
  fn_ok cx_ok (hi := .l) (fn := Tryz.f26) Tryz.func26 (by kernel_rfl) h

/- (*tollhouse/tollhouseref21.Store).Drop -/
def ref21_Store_Drop_sh (s : Value) (url : ByteArray) (K : Int → WP) : WP :=
 nR 91 s 0 89 fun t11 =>
 loopK [(5, (.int .i64)), (7, (.int .i64))] (fun (j1 : Int → Int → WP) => j1 0 0) (fun (j2 : Int → Int → WP) (n : Int) (i : Int) =>
 len 89 3 t11 fun t14 =>
 condK (decide (i < t14))
 (oR (vS (Instr.indexAt 89 t11 (.int .i64 i))) fun t20 =>
 oR (vS (Instr.fieldAt 94 t20 1)) fun t21 =>
 fS 28 t21 0 9 fun t23 =>
 oB (bS .eql 9 (.tmp 23) (.tmp 24) (.string t23) (.string url)) fun t25 =>
 condK t25
 (oR (vS (Instr.indexAt 89 t11 (.int .i64 i))) fun t29 =>
 fI 94 t29 0 3 .i64 fun t31 =>
 ref21_Store_out s t31 fun _ =>
 ArK .i64 (n + 1) fun t34 =>
 ArK .i64 (i + 1) fun t17 =>
 j2 t34 t17)
 (ArK .i64 (i + 1) fun t17_1 =>
 j2 n t17_1))
 (K n))
theorem ref21_Store_Drop_ok {s : Value} {url : ByteArray} {K : Int → WP} (w : World) (h : ref21_Store_Drop_sh s url K w) : ref21_Store_Drop s url K w :=
  fn_ok cx_ok (hi := (.n .l (.n .l (.n .l (.n (.n .l (.n (.p [(5, (.int .i64)), (7, (.int .i64))] .l) .l)) .l))))) (fn := Tryz.f27) Tryz.func27 (by kernel_rfl) h

/- (*tollhouse/tollhouseref21.Store).out -/
def ref21_Store_out_sh (s : Value) (n : Int) (K : Value → WP) : WP :=
 loopK [(4, .raw), (5, (.int .i64))] (fun (j1 : Value → Int → WP) => j1 (.slice none 0 0) 0) (fun (j2 : Value → Int → WP) (l : Value) (i : Int) =>
 nR 91 s 0 89 fun t10 =>
 len 89 3 t10 fun t11 =>
 condK (decide (i < t11))
 (nR 91 s 0 89 fun t18 =>
 oR (vS (Instr.indexAt 89 t18 (.int .i64 i))) fun t20 =>
 fI 94 t20 0 3 .i64 fun t22 =>
 condK (t22 != n)
 (nR 91 s 0 89 fun t29 =>
 iR 89 t29 .i64 i 94 fun t32 =>
 oR (vS (Instr.buildSlice 89 1 #[(0, t32)])) fun t33 =>
 app 89 89 89 l t33 fun t34 =>
 ArK .i64 (i + 1) fun t14 =>
 j2 t34 t14)
 (ArK .i64 (i + 1) fun t14_1 =>
 j2 l t14_1))
 (nW 91 s 0 89 l <|
 nR 91 s 1 86 fun t42 =>
 ref20_List_Remove t42 n fun _ =>
 K (.tuple #[])))
theorem ref21_Store_out_ok {s : Value} {n : Int} {K : Value → WP} (w : World) (h : ref21_Store_out_sh s n K w) : ref21_Store_out s n K w :=
  fn_ok cx_ok (hi := (.n .l (.n (.n .l (.n (.p [(4, .raw), (5, (.int .i64))] .l) .l)) .l))) (fn := Tryz.f54) Tryz.func54 (by kernel_rfl) h

/- (*tollhouse/tollhouseref21.Store).Used -/
def ref21_Store_Used_sh (s : Value) (K : Int → WP) : WP :=
 loopK [(3, (.int .i64)), (4, (.int .i64))] (fun (j1 : Int → Int → WP) => j1 0 0) (fun (j2 : Int → Int → WP) (n : Int) (i : Int) =>
 nR 91 s 0 89 fun t9 =>
 len 89 3 t9 fun t10 =>
 condK (decide (i < t10))
 (nR 91 s 0 89 fun t18 =>
 oR (vS (Instr.indexAt 89 t18 (.int .i64 i))) fun t20 =>
 fR 94 t20 1 28 fun t22 =>
 ref21_Size t22 fun t23 =>
 ArK .i64 (n + t23) fun t24 =>
 ArK .i64 (i + 1) fun t13 =>
 j2 t24 t13)
 (K n))
theorem ref21_Store_Used_ok {s : Value} {K : Int → WP} (w : World) (h : ref21_Store_Used_sh s K w) : ref21_Store_Used s K w :=
  fn_ok cx_ok (hi := (.n .l (.n .l (.n (.n .l (.n (.p [(3, (.int .i64)), (4, (.int .i64))] .l) .l)) .l)))) (fn := Tryz.f55) Tryz.func55 (by kernel_rfl) h

/- (*tollhouse/tollhouseref21.Store).find -/
def ref21_Store_find_sh (s : Value) (url : ByteArray) (l : Value) (K : Int → WP) : WP :=
 loopK [(7, (.int .i64)), (8, (.int .i64))] (fun (j1 : Int → Int → WP) => j1 (-1) 0) (fun (j2 : Int → Int → WP) (best : Int) (i : Int) =>
 nR 91 s 0 89 fun t13 =>
 len 89 3 t13 fun t14 =>
 condK (decide (i < t14))
 (joinK [(40, .bool)] (fun (j3 : Bool → WP) =>
 nR 91 s 0 89 fun t21 =>
 oR (vS (Instr.indexAt 89 t21 (.int .i64 i))) fun t23 =>
 oR (vS (Instr.fieldAt 94 t23 1)) fun t24 =>
 fS 28 t24 0 9 fun t26 =>
 oB (bS .eql 9 (.tmp 26) (.tmp 27) (.string t26) (.string url)) fun t28 =>
 condK t28
 (nR 91 s 0 89 fun t33 =>
 oR (vS (Instr.indexAt 89 t33 (.int .i64 i))) fun t35 =>
 fR 94 t35 1 28 fun t37 =>
 ref21_For t37 l fun t39 =>
 j3 t39)
 (j3 false))
 fun t40 =>
 condK t40
 (DrawK fun S =>
 condK (decide (best < 0))
 (ArK .i64 (i + 1) fun t17 =>
 j2 i t17)
 (hR S 91 s 0 89 fun t47 =>
 qR (vS (Instr.indexAt 89 t47 (.int .i64 i))) fun t49 =>
 qR (vS (Instr.fieldAt 94 t49 1)) fun t50 =>
 gI S 28 t50 2 22 .u64 fun t52 =>
 hR S 91 s 0 89 fun t56 =>
 qR (vS (Instr.indexAt 89 t56 (.int .i64 best))) fun t58 =>
 qR (vS (Instr.fieldAt 94 t58 1)) fun t59 =>
 gI S 28 t59 2 22 .u64 fun t61 =>
 condK (decide (t52 ≥ t61))
 (ArK .i64 (i + 1) fun t17_1 =>
 j2 i t17_1)
 (ArK .i64 (i + 1) fun t17_2 =>
 j2 best t17_2)))
 (ArK .i64 (i + 1) fun t17_3 =>
 j2 best t17_3))
 (K best))
theorem ref21_Store_find_ok {s : Value} {url : ByteArray} {l : Value} {K : Int → WP} (w : World) (h : ref21_Store_find_sh s url l K w) : ref21_Store_find s url l K w :=
  fn_ok cx_ok (hi := (.n .l (.n .l (.n (.n .l (.n (.p [(7, (.int .i64)), (8, (.int .i64))] (.n .l (.n (.n (.n (.j [(40, .bool)] .l) (.n (.n (.o (odR 0 23)) .l) .l)) .l) .l))) .l)) .l)))) (fn := Tryz.f58) Tryz.func58 (by kernel_rfl) h

/- tollhouse/tollhouselaw21.StoreSays -/
def law21_StoreSays_sh (e : Value) (l : Value) (K : Bool → WP) : WP :=
 oR (vS (Instr.box 28 e)) fun e_1 =>
 DrawK fun S =>
 law21_awake fun t5 =>
 andK S <|
 condK t5
 (sR S (vS (Instr.loadAt 28 e_1)) fun t7 =>
 sR S (vS (Instr.loadAt 28 e_1)) fun t9 =>
 store_Size t7 fun t8 =>
 andK S <|
 ref21_Size t9 fun t10 =>
 andK S <|
 condK (t8 == t10)
 (sR S (vS (Instr.loadAt 28 e_1)) fun t14 =>
 sR S (vS (Instr.loadAt 28 e_1)) fun t17 =>
 store_For t14 l fun t16 =>
 andK S <|
 ref21_For t17 l fun t19 =>
 andK S <|
 qB (bS .eql 4 (.tmp 16) (.tmp 19) (.bool t16) (.bool t19)) fun t20 =>
 K t20)
 (K false))
 (K false)
theorem law21_StoreSays_ok {e : Value} {l : Value} {K : Bool → WP} (w : World) (h : law21_StoreSays_sh e l K w) : law21_StoreSays e l K w :=
  fn_ok cx_ok (hi := (.n .l (.n (.o (odL [0, 1, 2, 4, 3, 5, 6, 7, 8, 9, 10, 12, 13, 11, 14, 15, 16, 17])) .l))) (fn := Tryz.f3) Tryz.func3 (by kernel_rfl) h

/- tollhouse/tollhouselaw21.StoreTells -/
def law21_StoreTells_sh (bytes : Int) (entries : Int) (acts : Value) (K : Bool → WP) : WP :=
 oI .i64 (vS (convert 32 3 (.int .u16 bytes))) fun t30 =>
 oI .i64 (vS (convert 5 3 (.int .u8 entries))) fun t32 =>
 oI .i64 (bS .rem 3 (.tmp 32) (.const (.int .i64 65)) (.int .i64 t32) (.int .i64 65)) fun t33 =>
 store_New t30 t33 fun t34 t34_1 =>
 joinK [(42, .bool)] (fun (j1 : Bool → WP) =>
 law21_awake fun t37 =>
 condK (!t37)
 (j1 true)
 (j1 (t34_1 != 0)))
 fun t42 =>
 condK t42
 (K false)
 (len 33 3 acts fun t44 =>
 loopK [(9, .raw), (45, (.int .i64))] (fun (j2 : Value → Int → WP) => j2 (.slice none 0 0) 0) (fun (j3 : Value → Int → WP) (put : Value) (t45 : Int) =>
 condK (decide (t45 < t44))
 (joinK [(9, .raw)] (fun (j4 : Value → WP) =>
 iR 33 acts .i64 t45 40 fun t49 =>
 oR (vS (Instr.alloc 40 true (.tuple #[]))) fun a =>
 sto 40 a t49 <|
 condK (t45 == 80)
 (K true)
 (fI 40 a 0 3 .i64 fun t53 =>
 condK (t53 == 0)
 (len 38 3 put fun t57 =>
 loopK [(12, .raw), (58, (.int .i64))] (fun (j5 : Value → Int → WP) => j5 (.slice none 0 0) 0) (fun (j6 : Value → Int → WP) (left : Value) (t58 : Int) =>
 condK (decide (t58 < t57))
 (iR 38 put .i64 t58 28 fun t61 =>
 oR (vS (Instr.alloc 28 true (.tuple #[]))) fun x =>
 sto 28 x t61 <|
 joinK [(76, .bool)] (fun (j7 : Bool → WP) =>
 fS 28 x 0 9 fun t63 =>
 oR (vS (Instr.fieldAt 40 a 1)) fun t64 =>
 fS 28 t64 0 9 fun t66 =>
 oB (bS .neq 9 (.tmp 63) (.tmp 66) (.string t63) (.string t66)) fun t67 =>
 condK t67
 (j7 true)
 (fR 28 x 3 23 fun t70 =>
 oR (vS (Instr.fieldAt 40 a 1)) fun t71 =>
 fR 28 t71 3 23 fun t73 =>
 ref16_Same t70 t73 fun t74 =>
 j7 (!t74)))
 fun t76 =>
 condK t76
 (lR 28 x fun t78 =>
 oR (vS (Instr.buildSlice 38 1 #[(0, t78)])) fun t79 =>
 app 38 38 38 left t79 fun t80 =>
 ArK .i64 (t58 + 1) fun t81 =>
 j6 t80 t81)
 (ArK .i64 (t58 + 1) fun t81_1 =>
 j6 left t81_1))
 (fR 40 a 1 28 fun t85 =>
 store_Store_Put t34 t85 fun t86 =>
 joinK [(108, .bool)] (fun (j8 : Bool → WP) =>
 fR 40 a 1 28 fun t90 =>
 store_Size t90 fun t91 =>
 oI .i64 (vS (convert 32 3 (.int .u16 bytes))) fun t93 =>
 condK (decide (t91 ≤ t93))
 (oI .u8 (bS .rem 5 (.tmp 96) (.const (.int .u8 65)) (.int .u8 entries) (.int .u8 65)) fun t97 =>
 oB (bS .neq 4 (.tmp 88) (.tmp 99) (.bool (t86 == 0)) (.bool (decide (t97 > 0)))) fun t100 =>
 condK t100
 (j8 true)
 (condK (t86 != 0)
 (j8 (t86 != 7))
 (j8 false)))
 (oB (bS .neq 4 (.tmp 88) (.tmp 99) (.bool (t86 == 0)) (.bool false)) fun t100_1 =>
 condK t100_1
 (j8 true)
 (condK (t86 != 0)
 (j8 (t86 != 7))
 (j8 false))))
 fun t108 =>
 condK t108
 (K false)
 (condK (t86 != 0)
 (j4 left)
 (fR 40 a 1 28 fun t113 =>
 oR (vS (Instr.buildSlice 38 1 #[(0, t113)])) fun t114 =>
 app 38 38 38 left t114 fun t115 =>
 oR (vS (Instr.fieldAt 40 a 1)) fun t118 =>
 fS 28 t118 0 9 fun t120 =>
 fR 40 a 3 23 fun t122 =>
 store_Store_Look t34 t120 t122 fun t123 t123_1 =>
 oR (vS (Instr.alloc 28 true (.tuple #[]))) fun x_1 =>
 sto 28 x_1 t123 <|
 fR 40 a 1 28 fun t127 =>
 fR 40 a 3 23 fun t129 =>
 store_For t127 t129 fun t130 =>
 condK t130
 (condK (!t123_1)
 (K false)
 (fI 28 x_1 2 22 .u64 fun t136 =>
 oR (vS (Instr.fieldAt 40 a 1)) fun t137 =>
 fI 28 t137 2 22 .u64 fun t139 =>
 condK (decide (t136 < t139))
 (K false)
 (j4 t115)))
 (j4 t115))))))
 (joinK [(143, .bool)] (fun (j9 : Bool → WP) =>
 condK (t53 == 1)
 (j9 (t53 == 1))
 (j9 (t53 == 2)))
 fun t143 =>
 condK t143
 (fS 40 a 2 9 fun t149 =>
 fR 40 a 3 23 fun t151 =>
 store_Store_Get t34 t149 t151 fun t152 t152_1 =>
 oR (vS (Instr.alloc 28 true (.tuple #[]))) fun x_2 =>
 sto 28 x_2 t152 <|
 joinK [(19, .bool)] (fun (j10 : Bool → WP) =>
 fI 40 a 0 3 .i64 fun t156 =>
 condK (t156 == 2)
 (fS 40 a 2 9 fun t161 =>
 fR 40 a 3 23 fun t163 =>
 store_Store_Look t34 t161 t163 fun t164 t164_1 =>
 sto 28 x_2 t164 <|
 j10 t164_1)
 (j10 t152_1))
 fun is_ =>
 condK (!is_)
 (j4 put)
 (len 38 3 put fun t170 =>
 loopK [(20, .bool), (171, (.int .i64))] (fun (j11 : Bool → Int → WP) => j11 false 0) (fun (j12 : Bool → Int → WP) (was : Bool) (t171 : Int) =>
 condK (decide (t171 < t170))
 (iR 38 put .i64 t171 28 fun t174 =>
 oR (vS (Instr.alloc 28 true (.tuple #[]))) fun y =>
 sto 28 y t174 <|
 condK was
 (ArK .i64 (t171 + 1) fun t181 =>
 j12 true t181)
 (lR 28 x_2 fun t177 =>
 lR 28 y fun t178 =>
 ref21_Same t177 t178 fun t179 =>
 ArK .i64 (t171 + 1) fun t181_1 =>
 j12 t179 t181_1))
 (condK (!was)
 (K false)
 (fS 28 x_2 0 9 fun t186 =>
 fS 40 a 2 9 fun t188 =>
 oB (bS .neq 9 (.tmp 186) (.tmp 188) (.string t186) (.string t188)) fun t189 =>
 condK t189
 (K false)
 (lR 28 x_2 fun t192 =>
 fR 40 a 3 23 fun t194 =>
 store_For t192 t194 fun t195 =>
 condK (!t195)
 (K false)
 (j4 put)))))))
 (condK (t53 == 3)
 (len 38 3 put fun t201 =>
 loopK [(23, .raw), (202, (.int .i64))] (fun (j13 : Value → Int → WP) => j13 (.slice none 0 0) 0) (fun (j14 : Value → Int → WP) (left_1 : Value) (t202 : Int) =>
 condK (decide (t202 < t201))
 (iR 38 put .i64 t202 28 fun t205 =>
 oR (vS (Instr.alloc 28 true (.tuple #[]))) fun x_3 =>
 sto 28 x_3 t205 <|
 fS 28 x_3 0 9 fun t207 =>
 fS 40 a 2 9 fun t209 =>
 oB (bS .neq 9 (.tmp 207) (.tmp 209) (.string t207) (.string t209)) fun t210 =>
 condK t210
 (lR 28 x_3 fun t212 =>
 oR (vS (Instr.buildSlice 38 1 #[(0, t212)])) fun t213 =>
 app 38 38 38 left_1 t213 fun t214 =>
 ArK .i64 (t202 + 1) fun t215 =>
 j14 t214 t215)
 (ArK .i64 (t202 + 1) fun t215_1 =>
 j14 left_1 t215_1))
 (fS 40 a 2 9 fun t219 =>
 store_Store_Drop t34 t219 fun _ =>
 fS 40 a 2 9 fun t224 =>
 fR 40 a 3 23 fun t226 =>
 store_Store_Look t34 t224 t226 fun t227 t227_1 =>
 oR (vS (Instr.alloc 28 true (.tuple #[]))) fun t26_ =>
 sto 28 t26_ t227 <|
 condK t227_1
 (K false)
 (j4 left_1))))
 (j4 put)))))
 fun put_1 =>
 ArK .i64 (t45 + 1) fun t231 =>
 j3 put_1 t231)
 (K true)))
theorem law21_StoreTells_ok {bytes : Int} {entries : Int} {acts : Value} {K : Bool → WP} (w : World) (h : law21_StoreTells_sh bytes entries acts K w) : law21_StoreTells bytes entries acts K w :=
  fn_ok cx_ok (hi := (.n .l (.n .l (.n (.n (.j [(42, .bool)] .l) .l) (.n .l (.n (.n .l (.n (.p [(9, .raw), (45, (.int .i64))] (.n .l (.n .l (.n (.j [(9, .raw)] (.n (.n .l (.n .l (.n .l (.n (.n .l (.n (.n .l (.n (.n .l (.n (.p [(12, .raw), (58, (.int .i64))] (.n .l (.n .l (.n (.n (.n .l (.n (.j [(76, .bool)] .l) .l)) .l) .l)))) .l)) (.n .l (.n .l (.n (.n (.j [(108, .bool)] .l) .l) .l))))) (.n (.j [(143, .bool)] .l) (.n (.n .l (.n (.j [(19, .bool)] .l) (.n .l (.n .l (.n (.n .l (.n (.p [(20, .bool), (171, (.int .i64))] .l) .l)) .l))))) (.n .l (.n (.n .l (.n (.n .l (.n (.p [(23, .raw), (202, (.int .i64))] .l) .l)) .l)) .l)))))) .l)))) .l)) .l)))) .l)) .l)))))) (fn := Tryz.f4) Tryz.func4 (by kernel_rfl) h

/- tollhouse/tollhouselaw21.StoreLimits -/
def law21_StoreLimits_sh (bytes : Int) (entries : Int) (acts : Value) (K : Bool → WP) : WP :=
 oI .i64 (vS (convert 5 3 (.int .u8 entries))) fun t17 =>
 oI .i64 (bS .rem 3 (.tmp 17) (.const (.int .i64 65)) (.int .i64 t17) (.int .i64 65)) fun t18 =>
 oI .i64 (vS (convert 32 3 (.int .u16 bytes))) fun t21 =>
 store_New t21 t18 fun t23 t23_1 =>
 joinK [(31, .bool)] (fun (j1 : Bool → WP) =>
 law21_awake fun t26 =>
 condK (!t26)
 (j1 true)
 (j1 (t23_1 != 0)))
 fun t31 =>
 condK t31
 (K false)
 (len 33 3 acts fun t33 =>
 loopK [(34, (.int .i64))] (fun (j2 : Int → WP) => j2 0) (fun (j3 : Int → WP) (t34 : Int) =>
 condK (decide (t34 < t33))
 (iR 33 acts .i64 t34 40 fun t38 =>
 oR (vS (Instr.alloc 40 true (.tuple #[]))) fun a =>
 sto 40 a t38 <|
 condK (t34 == 80)
 (K true)
 (joinK [] (fun (j4 : WP) =>
 fI 40 a 0 3 .i64 fun t42 =>
 condK (t42 == 0)
 (fR 40 a 1 28 fun t47 =>
 store_Store_Put t23 t47 fun _ =>
 j4)
 (condK (t42 == 1)
 (fS 40 a 2 9 fun t53 =>
 fR 40 a 3 23 fun t55 =>
 store_Store_Get t23 t53 t55 fun _ _ =>
 j4)
 (condK (t42 == 3)
 (fS 40 a 2 9 fun t61 =>
 store_Store_Drop t23 t61 fun _ =>
 j4)
 (j4))))
 <|
 store_Store_Entries t23 fun t64 =>
 len 38 3 t64 fun t66 =>
 loopK [(12, (.int .i64)), (67, (.int .i64))] (fun (j5 : Int → Int → WP) => j5 0 0) (fun (j6 : Int → Int → WP) (n : Int) (t67 : Int) =>
 condK (decide (t67 < t66))
 (iR 38 t64 .i64 t67 28 fun t70 =>
 oR (vS (Instr.alloc 28 true (.tuple #[]))) fun x =>
 sto 28 x t70 <|
 lR 28 x fun t72 =>
 store_Size t72 fun t73 =>
 ArK .i64 (n + t73) fun t74 =>
 ArK .i64 (t67 + 1) fun t75 =>
 j6 t74 t75)
 (len 38 3 t64 fun t77 =>
 condK (decide (t77 > t18))
 (K false)
 (oI .i64 (vS (convert 32 3 (.int .u16 bytes))) fun t83 =>
 condK (decide (n > t83))
 (K false)
 (store_Store_Used t23 fun t89 =>
 condK (n != t89)
 (K false)
 (ArK .i64 (t34 + 1) fun t92 =>
 j3 t92)))))))
 (K true)))
theorem law21_StoreLimits_ok {bytes : Int} {entries : Int} {acts : Value} {K : Bool → WP} (w : World) (h : law21_StoreLimits_sh bytes entries acts K w) : law21_StoreLimits bytes entries acts K w :=
  fn_ok cx_ok (hi := (.n .l (.n .l (.n .l (.n (.n (.j [(31, .bool)] .l) .l) (.n (.n .l (.n (.p [(34, (.int .i64))] (.n .l (.n .l (.n (.n (.n .l (.n .l (.n (.j [] .l) (.n .l (.n .l (.n (.n .l (.n (.p [(12, (.int .i64)), (67, (.int .i64))] .l) .l)) .l)))))) .l) .l)))) .l)) .l)))))) (fn := Tryz.f5) Tryz.func5 (by kernel_rfl) h

/- tollhouse/tollhouselaw21.StorePlays -/
def law21_StorePlays_sh (bytes : Int) (entries : Int) (acts : Value) (K : Bool → WP) : WP :=
 law21_awake fun t22 =>
 condK (!t22)
 (K false)
 (store_New bytes entries fun t27 t27_1 =>
 ref21_New bytes entries fun t33 t33_1 =>
 joinK [(45, .bool)] (fun (j1 : Bool → WP) =>
 condK (t27_1 != t33_1)
 (j1 true)
 (oB (bS .eql 34 (.tmp 40) (.const (.pointer none)) t27 (.pointer none)) fun t41 =>
 oB (bS .eql 50 (.tmp 42) (.const (.pointer none)) t33 (.pointer none)) fun t43 =>
 oB (bS .neq 4 (.tmp 41) (.tmp 43) (.bool t41) (.bool t43)) fun t44 =>
 j1 t44))
 fun t45 =>
 condK t45
 (K false)
 (oB (bS .eql 50 (.tmp 46) (.const (.pointer none)) t33 (.pointer none)) fun t47 =>
 condK t47
 (K true)
 (len 33 3 acts fun t49 =>
 loopK [(7, .raw), (50, (.int .i64))] (fun (j2 : Value → Int → WP) => j2 t27 0) (fun (j3 : Value → Int → WP) (s : Value) (t50 : Int) =>
 condK (decide (t50 < t49))
 (iR 33 acts .i64 t50 40 fun t54 =>
 oR (vS (Instr.alloc 40 true (.tuple #[]))) fun a =>
 sto 40 a t54 <|
 condK (t50 == 80)
 (K true)
 (joinK [(7, .raw)] (fun (j4 : Value → WP) =>
 fI 40 a 0 3 .i64 fun t58 =>
 condK (t58 == 0)
 (fR 40 a 1 28 fun t62 =>
 ref21_Own t62 fun t63 =>
 oR (vS (Instr.alloc 28 true (.tuple #[]))) fun own =>
 sto 28 own t63 <|
 DrawK fun S =>
 sR S (vS (Instr.loadAt 28 own)) fun t65 =>
 gR S 40 a 1 28 fun t69 =>
 store_Store_Put s t65 fun t66 =>
 andK S <|
 ref21_Store_Put t33 t69 fun t70 =>
 andK S <|
 condK (t66 != t70)
 (K false)
 (oR (vS (Instr.fieldAt 28 own 4)) fun t72 =>
 fR 26 t72 4 24 fun t74 =>
 len 24 3 t74 fun t75 =>
 loopK [(76, (.int .i64))] (fun (j5 : Int → WP) => j5 0) (fun (j6 : Int → WP) (t76 : Int) =>
 condK (decide (t76 < t75))
 (oR (vS (Instr.fieldAt 28 own 4)) fun t79 =>
 fR 26 t79 4 24 fun t81 =>
 iI 24 t81 .i64 t76 5 .u8 fun t84 =>
 oI .u8 (bS .xor 5 (.tmp 84) (.const (.int .u8 255)) (.int .u8 t84) (.int .u8 255)) fun t85 =>
 iW 24 t81 .i64 t76 5 (.int .u8 t85) <|
 ArK .i64 (t76 + 1) fun t87 =>
 j6 t87)
 (oR (vS (Instr.fieldAt 28 own 4)) fun t88 =>
 fR 26 t88 3 23 fun t90 =>
 len 23 3 t90 fun t91 =>
 loopK [(92, (.int .i64))] (fun (j7 : Int → WP) => j7 0) (fun (j8 : Int → WP) (t92 : Int) =>
 condK (decide (t92 < t91))
 (oR (vS (Instr.fieldAt 28 own 4)) fun t95 =>
 fR 26 t95 3 23 fun t97 =>
 oR (vS (Instr.indexAt 23 t97 (.int .i64 t92))) fun t99 =>
 fS 55 t99 1 9 fun t101 =>
 oS (bS .add 9 (.tmp 101) (.const (.string (⟨#[120]⟩ : ByteArray))) (.string t101) (.string (⟨#[120]⟩ : ByteArray))) fun t102 =>
 oR (vS (Instr.indexAt 23 t97 (.int .i64 t92))) fun t103 =>
 fW 55 t103 1 9 (.string t102) <|
 ArK .i64 (t92 + 1) fun t105 =>
 j8 t105)
 (j4 s))))))
 (joinK [(106, .bool)] (fun (j9 : Bool → WP) =>
 condK (t58 == 1)
 (j9 (t58 == 1))
 (j9 (t58 == 2)))
 fun t106 =>
 condK t106
 (oR (vS (Instr.alloc 28 true (.tuple #[]))) fun x =>
 oR (vS (Instr.alloc 28 true (.tuple #[]))) fun y =>
 joinK [(18, .bool), (19, .bool)] (fun (j10 : Bool → Bool → WP) =>
 fI 40 a 0 3 .i64 fun t110 =>
 condK (t110 == 1)
 (fS 40 a 2 9 fun t115 =>
 fR 40 a 3 23 fun t117 =>
 store_Store_Get s t115 t117 fun t118 t118_1 =>
 sto 28 x t118 <|
 fS 40 a 2 9 fun t124 =>
 fR 40 a 3 23 fun t126 =>
 ref21_Store_Get t33 t124 t126 fun t127 t127_1 =>
 sto 28 y t127 <|
 j10 t118_1 t127_1)
 (fS 40 a 2 9 fun t133 =>
 fR 40 a 3 23 fun t135 =>
 store_Store_Look s t133 t135 fun t136 t136_1 =>
 sto 28 x t136 <|
 fS 40 a 2 9 fun t142 =>
 fR 40 a 3 23 fun t144 =>
 ref21_Store_Look t33 t142 t144 fun t145 t145_1 =>
 sto 28 y t145 <|
 j10 t136_1 t145_1))
 fun is_ was =>
 joinK [(156, .bool)] (fun (j11 : Bool → WP) =>
 oB (bS .neq 4 (.tmp 148) (.tmp 149) (.bool is_) (.bool was)) fun t150 =>
 condK t150
 (j11 true)
 (lR 28 x fun t152 =>
 lR 28 y fun t153 =>
 ref21_Same t152 t153 fun t154 =>
 j11 (!t154)))
 fun t156 =>
 condK t156
 (K false)
 (oR (vS (Instr.fieldAt 28 x 4)) fun t157 =>
 fR 26 t157 4 24 fun t159 =>
 len 24 3 t159 fun t160 =>
 loopK [(161, (.int .i64))] (fun (j12 : Int → WP) => j12 0) (fun (j13 : Int → WP) (t161 : Int) =>
 condK (decide (t161 < t160))
 (oR (vS (Instr.fieldAt 28 x 4)) fun t164 =>
 fR 26 t164 4 24 fun t166 =>
 iI 24 t166 .i64 t161 5 .u8 fun t169 =>
 oI .u8 (bS .xor 5 (.tmp 169) (.const (.int .u8 255)) (.int .u8 t169) (.int .u8 255)) fun t170 =>
 iW 24 t166 .i64 t161 5 (.int .u8 t170) <|
 ArK .i64 (t161 + 1) fun t172 =>
 j13 t172)
 (j4 s))))
 (condK (t58 == 3)
 (DrawK fun S =>
 gS S 40 a 2 9 fun t177 =>
 gS S 40 a 2 9 fun t181 =>
 store_Store_Drop s t177 fun t178 =>
 andK S <|
 ref21_Store_Drop t33 t181 fun t182 =>
 andK S <|
 condK (t178 != t182)
 (K false)
 (j4 s))
 (condK (t58 == 4)
 (store_Store_Copy s fun t187 =>
 fS 40 a 2 9 fun t190 =>
 store_Store_Drop s t190 fun _ =>
 law21_E (⟨#[115, 112, 111, 105, 108, 116]⟩ : ByteArray) 5 fun t193 =>
 store_Store_Put s t193 fun _ =>
 j4 t187)
 (j4 s)))))
 fun s_1 =>
 oB (bS .eql 34 (.tmp 196) (.const (.pointer none)) s_1 (.pointer none)) fun t197 =>
 condK t197
 (K false)
 (law21_same s_1 t33 fun t201 =>
 condK (!t201)
 (K false)
 (ArK .i64 (t50 + 1) fun t204 =>
 j3 s_1 t204))))
 (K true)))))
theorem law21_StorePlays_ok {bytes : Int} {entries : Int} {acts : Value} {K : Bool → WP} (w : World) (h : law21_StorePlays_sh bytes entries acts K w) : law21_StorePlays bytes entries acts K w :=
  fn_ok cx_ok (hi := (.n .l (.n .l (.n .l (.n .l (.n (.n (.j [(45, .bool)] .l) .l) (.n .l (.n (.n .l (.n (.p [(7, .raw), (50, (.int .i64))] (.n .l (.n .l (.n (.n (.n .l (.n .l (.n (.j [(7, .raw)] (.n .l (.n (.n .l (.n (.n .l (.n (.n (.o (odL [0, 1, 3, 4, 5, 2, 6, 7])) .l) (.n (.n .l (.n (.p [(76, (.int .i64))] .l) .l)) (.n .l (.n (.p [(92, (.int .i64))] .l) .l))))) (.n (.j [(106, .bool)] .l) (.n (.n .l (.n .l (.n (.j [(18, .bool), (19, .bool)] .l) (.n (.n (.j [(156, .bool)] .l) .l) (.n .l (.n (.p [(161, (.int .i64))] .l) .l)))))) (.n .l (.n (.n (.o (odL [0, 1, 2, 4, 5, 6, 3, 7, 8])) .l) .l)))))) .l))) .l))) .l) .l)))) .l)) .l)))))))) (fn := Tryz.f6) Tryz.func6 (by kernel_rfl) h

/- tollhouse/tollhouselaw21.StoreKnown -/
def law21_StoreKnown_sh (K : Bool → WP) : WP :=
 joinK [(37, .bool)] (fun (j1 : Bool → WP) =>
 law21_awake fun t35 =>
 j1 (!t35))
 fun t37 =>
 condK t37
 (K false)
 (store_New 1000 2 fun t39 t39_1 =>
 law21_E (⟨#[97]⟩ : ByteArray) 35 fun t43 =>
 store_Store_Put t39 t43 fun _ =>
 law21_E (⟨#[98]⟩ : ByteArray) 35 fun t46 =>
 store_Store_Put t39 t46 fun _ =>
 law21_E (⟨#[99]⟩ : ByteArray) 35 fun t49 =>
 store_Store_Put t39 t49 fun _ =>
 store_Store_Look t39 (⟨#[97]⟩ : ByteArray) (.slice none 0 0) fun t53 t53_1 =>
 oR (vS (Instr.alloc 28 true (.tuple #[]))) fun t3_ =>
 sto 28 t3_ t53 <|
 law21_E (⟨#[98]⟩ : ByteArray) 936 fun t57 =>
 store_Store_Put t39 t57 fun t58 =>
 store_Store_Look t39 (⟨#[98]⟩ : ByteArray) (.slice none 0 0) fun t61 t61_1 =>
 oR (vS (Instr.alloc 28 true (.tuple #[]))) fun t6_ =>
 sto 28 t6_ t61 <|
 law21_E (⟨#[100]⟩ : ByteArray) 935 fun t65 =>
 store_Store_Put t39 t65 fun t66 =>
 store_Store_Entries t39 fun t68 =>
 len 38 3 t68 fun t69 =>
 store_Store_Drop t39 (⟨#[100]⟩ : ByteArray) fun t71 =>
 store_Store_Drop t39 (⟨#[100]⟩ : ByteArray) fun t73 =>
 oR (vS (Instr.build 55 #[(0, (.string (⟨#[120]⟩ : ByteArray))), (1, (.string (⟨#[49]⟩ : ByteArray)))])) fun t74 =>
 oR (vS (Instr.buildSlice 23 1 #[(0, t74)])) fun t75 =>
 oR (vS (Instr.build 55 #[(0, (.string (⟨#[86, 97, 114, 121]⟩ : ByteArray))), (1, (.string (⟨#[88]⟩ : ByteArray)))])) fun t76 =>
 oR (vS (Instr.buildSlice 23 1 #[(0, t76)])) fun t77 =>
 oR (vS (Instr.build 26 #[(0, (.int .i64 200)), (3, t77)])) fun t78 =>
 oR (vS (Instr.build 28 #[(0, (.string (⟨#[118]⟩ : ByteArray))), (2, (.int .u64 1)), (3, t75), (4, t78)])) fun t79 =>
 oR (vS (Instr.alloc 28 true (.tuple #[]))) fun v =>
 sto 28 v t79 <|
 oR (vS (Instr.build 55 #[(0, (.string (⟨#[86, 97, 114, 121]⟩ : ByteArray))), (1, (.string (⟨#[42]⟩ : ByteArray)))])) fun t80 =>
 oR (vS (Instr.buildSlice 23 1 #[(0, t80)])) fun t81 =>
 oR (vS (Instr.build 26 #[(0, (.int .i64 200)), (3, t81)])) fun t82 =>
 oR (vS (Instr.build 28 #[(0, (.string (⟨#[119]⟩ : ByteArray))), (4, t82)])) fun t83 =>
 oR (vS (Instr.alloc 28 true (.tuple #[]))) fun star =>
 sto 28 star t83 <|
 lR 28 v fun t85 =>
 store_Store_Put t39 t85 fun _ =>
 lR 28 star fun t88 =>
 store_Store_Put t39 t88 fun _ =>
 oR (vS (Instr.build 55 #[(0, (.string (⟨#[88]⟩ : ByteArray))), (1, (.string (⟨#[49]⟩ : ByteArray)))])) fun t92 =>
 oR (vS (Instr.buildSlice 23 1 #[(0, t92)])) fun t93 =>
 store_Store_Look t39 (⟨#[118]⟩ : ByteArray) t93 fun t94 t94_1 =>
 oR (vS (Instr.alloc 28 true (.tuple #[]))) fun t14_ =>
 sto 28 t14_ t94 <|
 oR (vS (Instr.build 55 #[(0, (.string (⟨#[88]⟩ : ByteArray))), (1, (.string (⟨#[50]⟩ : ByteArray)))])) fun t99 =>
 oR (vS (Instr.buildSlice 23 1 #[(0, t99)])) fun t100 =>
 store_Store_Look t39 (⟨#[118]⟩ : ByteArray) t100 fun t101 t101_1 =>
 oR (vS (Instr.alloc 28 true (.tuple #[]))) fun t16_ =>
 sto 28 t16_ t101 <|
 store_Store_Look t39 (⟨#[119]⟩ : ByteArray) (.slice none 0 0) fun t106 t106_1 =>
 oR (vS (Instr.alloc 28 true (.tuple #[]))) fun t18_ =>
 sto 28 t18_ t106 <|
 store_New (-1) 0 fun _ t110_1 =>
 store_New 262145 0 fun _ t114_1 =>
 store_New 0 65 fun _ t118_1 =>
 store_New 0 0 fun t122 t122_1 =>
 law21_E (⟨#[]⟩ : ByteArray) 0 fun t126 =>
 store_Store_Put t122 t126 fun t127 =>
 store_Store_Get (.pointer none) (⟨#[97]⟩ : ByteArray) (.slice none 0 0) fun t130 t130_1 =>
 oR (vS (Instr.alloc 28 true (.tuple #[]))) fun t30_ =>
 sto 28 t30_ t130 <|
 store_Store_Look (.pointer none) (⟨#[97]⟩ : ByteArray) (.slice none 0 0) fun t135 t135_1 =>
 oR (vS (Instr.alloc 28 true (.tuple #[]))) fun t32_ =>
 sto 28 t32_ t135 <|
 condK (t39_1 == 0)
 (condK (!t53_1)
 (condK (t58 == 7)
 (condK (!t61_1)
 (condK (t66 == 0)
 (condK (t69 == 1)
 (condK (t71 == 1)
 (condK (t73 == 0)
 (condK t94_1
 (condK (!t101_1)
 (condK (!t106_1)
 (condK (t110_1 == 1)
 (condK (t114_1 == 1)
 (condK (t118_1 == 1)
 (condK (t122_1 == 0)
 (condK (t127 == 7)
 (condK (!t130_1)
 (condK (!t135_1)
 (law21_E (⟨#[97]⟩ : ByteArray) 0 fun t209 =>
 store_Store_Put (.pointer none) t209 fun t210 =>
 condK (t210 == 2)
 (store_Store_Drop (.pointer none) (⟨#[97]⟩ : ByteArray) fun t215 =>
 condK (t215 == 0)
 (store_Store_Used (.pointer none) fun t220 =>
 condK (t220 == 0)
 (store_Store_Entries (.pointer none) fun t225 =>
 len 38 3 t225 fun t226 =>
 condK (t226 == 0)
 (store_Store_Copy (.pointer none) fun t231 =>
 oB (bS .eql 34 (.tmp 231) (.const (.pointer none)) t231 (.pointer none)) fun t232 =>
 condK t232
 (law21_E (⟨#[97, 98]⟩ : ByteArray) 3 fun t235 =>
 store_Size t235 fun t236 =>
 K (t236 == 69))
 (K false))
 (K false))
 (K false))
 (K false))
 (K false))
 (K false))
 (K false))
 (K false))
 (K false))
 (K false))
 (K false))
 (K false))
 (K false))
 (K false))
 (K false))
 (K false))
 (K false))
 (K false))
 (K false))
 (K false))
 (K false))
 (K false))
 (K false))
theorem law21_StoreKnown_ok {K : Bool → WP} (w : World) (h : law21_StoreKnown_sh K w) : law21_StoreKnown K w :=
  fn_ok cx_ok (hi := (.n .l (.n (.n (.j [(37, .bool)] .l) .l) .l))) (fn := Tryz.f7) Tryz.func7 (by kernel_rfl) h

end Go.Proofs.YtfofnagocedlgaaGreatDoor
end
section
/-
  THE STORE (layer 21): an entry: its size; for whom it is; whether two are the same; a copy.
-/
set_option maxRecDepth 100000
set_option linter.unusedVariables false
set_option linter.unusedSectionVars false
set_option linter.unusedSimpArgs false
set_option maxHeartbeats 0
namespace Go.Proofs.YtfofnagocedlgaaGreatDoor.Tx
open Go Sh Sl
open Go.RowKit
attribute [local irreducible] condK ArK NilK OpK FnK StK joinK loopK DrawK andK PuK NxK EnK vS uS bS callS invokeS
/-- a slice as it is held -/
structure Et where
  url : Bs
  asked : Int
  came : Int
  wa : Option Addr
  wc : Nat
  wl : List Fd
  st : Int
  rs : Bs
  mi : Int
  fa : Option Addr
  fk : Nat
  fl : List Fd
  ba_ : Option Addr
  bk : Nat
  bl : Bs
abbrev rc (x : Et) : List Value := [.int .i64 x.st, .string (ba x.rs), .int .i64 x.mi, .slice x.fa x.fl.length x.fk, .slice x.ba_ x.bl.length x.bk]
abbrev ec (x : Et) : List Value := [.string (ba x.url), .int .u64 x.asked, .int .u64 x.came, .slice x.wa x.wl.length x.wc, .int .i64 x.st, .string (ba x.rs), .int .i64 x.mi, .slice x.fa x.fl.length x.fk, .slice x.ba_ x.bl.length x.bk]
structure RdE (ctx : List HProp) (x : Et) : Prop where
  w : Rd ctx x.wa (fc x.wl)
  f : Rd ctx x.fa (fc x.fl)
  b : Rd ctx x.ba_ (u8 x.bl)
theorem RdE.mono {ctx ctx' : List HProp} {x : Et} (h : RdE ctx x) (hi : Imp ctx' ctx) : RdE ctx' x := ⟨h.w.mono hi, h.f.mono hi, h.b.mono hi⟩
theorem RdE.tl {ctx : List HProp} {A : HProp} {x : Et} (h : RdE ctx x) : RdE (A :: ctx) x := h.mono (Imp.drop (Imp.refl _))
/-- its bounds -/
structure EB (x : Et) : Prop where
  u : x.url.length ≤ 268435456
  r : x.rs.length ≤ 268435456
  b : x.bl.length ≤ 268435456
  w : fsz x.wl ≤ 268435456
  f : fsz x.fl ≤ 268435456
def fzn (l : List Fd) : Nat := (l.map fun f => f.1.length + f.2.length).sum
theorem fzn_snoc (l : List Fd) (f : Fd) : fzn (l ++ [f]) = fzn l + (f.1.length + f.2.length) := by simp [fzn]
theorem fzn_le (l : List Fd) : fzn l ≤ fsz l := by
  induction l with
  | nil => simp [fzn, fsz]
  | cons f l ih => simp [fzn, fsz] at ih ⊢; omega
theorem fsz_take (l : List Fd) (k : Nat) : fsz (l.take k) ≤ fsz l := by
  have h9 := fsz_app (l.take k) (l.drop k)
  rw [List.take_append_drop] at h9
  omega
def size (x : Et) : Nat := 64 + x.url.length + x.rs.length + x.bl.length + fzn x.wl + fzn x.fl
section
variable {e : Env} {ctx ctx' rest R : List HProp}
theorem size_spec {K : Int → WP} {x : Et} (hr : RdE rest x) (hb : EB x) (h : Ent e rest (K (size x : Int))) : Ent e rest (store_Size (.agg (ec x).toArray) K) := by
  have h1 := hb.u
  have h2 := hb.r
  have h3 := hb.b
  have h4 := hb.w
  have h5 := hb.f
  have hw := fzn_le x.wl
  have hf := fzn_le x.fl
  (refine Ent.fn store_Size_ok ?_; unfold store_Size_sh)
  refine Ent.box' fun eb => ?_
  (refine Ent.go ?_)
  refine Ent.slice (out := [.slice x.wa x.wl.length x.wc, .slice x.fa x.fl.length x.fk]) (z := [.slice none 0 0]) (sz := 1) rfl rfl rfl rfl (by decide) (by decide) (by rfl) fun sb => ?_
  (refine Ent.go ?_)
  -- one of the two
  have inner : ∀ (a : Option Addr) (c : Nat) (l : List Fd) (n0 : Int) (K2 : Int → WP), Rd rest a (fc l) → fsz l ≤ 268435456 → 0 ≤ n0 → n0 ≤ 2147483648 → Ent e (pt sb [.slice x.wa x.wl.length x.wc, .slice x.fa x.fl.length x.fk] :: pt eb (ec x) :: rest) (K2 (n0 + (fzn l : Int))) →
      Ent e (pt sb [.slice x.wa x.wl.length x.wc, .slice x.fa x.fl.length x.fk] :: pt eb (ec x) :: rest) (loopK [(3, (.int .i64)), (35, (.int .i64))] (fun (j3 : Int → Int → WP) => j3 n0 0) (fun (j4 : Int → Int → WP) (n_1 : Int) (t35 : Int) =>
       condK (decide (t35 < (l.length : Int)))
       (iR 23 (.slice a l.length c) .i64 t35 55 fun t38 =>
       oR (vS (Instr.alloc 55 true (.tuple #[]))) fun f =>
       sto 55 f t38 <|
       fS 55 f 0 9 fun t41 =>
       len 9 3 (.string t41) fun t42 =>
       fS 55 f 1 9 fun t44 =>
       len 9 3 (.string t44) fun t45 =>
       ArK .i64 (t42 + t45) fun t46 =>
       ArK .i64 (n_1 + t46) fun t47 =>
       ArK .i64 (t35 + 1) fun t48 =>
       j4 t47 t48)
       (K2 n_1))) := by
    intro a c l n0 K2 hr hfl hn0 hn1 hk
    have hll := fsz_len l
    refine Ent.rngL1 (k0 := .int .i64) l.length (fun k v => pur (v = n0 + (fzn (l.take k) : Int)) :: pt sb [.slice x.wa x.wl.length x.wc, .slice x.fa x.fl.length x.fk] :: pt eb (ec x) :: rest) rfl ?_ ?_
    · exact Imp.pur (by simp [fzn]) (Imp.refl _)
    intro k hk2 K' hK v
    refine Ent.pur fun hv => ?_
    subst hv
    by_cases hkn : k < l.length
    · obtain ⟨f, hf⟩ : ∃ f, l[k]? = some f := ⟨_, List.getElem?_eq_getElem hkn⟩
      have hfm := fsz_mem (List.mem_of_getElem? hf)
      have hs := fzn_snoc (l.take k) f
      rw [← take_snoc hf] at hs
      have hzl := fzn_le (l.take k)
      have hzt := fsz_take l k
      refine Ent.wT ?_ (by simpa using hkn)
      refine fdR hr.tl.tl hf hkn ?_
      refine Ent.alloc' fun fb => ?_
      (refine Ent.go ?_)
      refine Ent.imp ?_ (hK hkn _)
      refine Imp.pur ?_ ?_
      · rw [hs]
        exact (by omega : n0 + (fzn (l.take k) : Int) + ((f.1.length : Int) + f.2.length) = n0 + ((fzn (l.take k) + (f.1.length + f.2.length) : Nat) : Int))
      · (focus ((repeat ((with_reducible apply Imp.pick); (repeat (first | exact Pick.hd | apply Pick.tl)))); (repeat (first | exact Imp.refl _ | exact Imp.nil _ | apply Imp.drop)); done))
    · have hkl : k = l.length := by omega
      subst hkl
      refine Ent.wF ?_ (by simp)
      rw [List.take_of_length_le (Nat.le_refl _)]
      exact hk
  refine Ent.rngL1 (k0 := .int .i64) 2 (fun k v => pur (v = (64 + x.url.length + x.rs.length + x.bl.length : Nat) + (if 1 ≤ k then (fzn x.wl : Int) else 0) + (if 2 ≤ k then (fzn x.fl : Int) else 0)) :: pt sb [.slice x.wa x.wl.length x.wc, .slice x.fa x.fl.length x.fk] :: pt eb (ec x) :: rest) rfl ?_ ?_
  · exact Imp.pur (by simp) (Imp.refl _)
  intro k hk K' hK v
  refine Ent.pur fun hv => ?_
  subst hv
  rcases k with _ | _ | _ | k
  · refine Ent.wT ?_ (by decide)
    (refine Ent.go ?_)
    refine inner x.wa x.wc x.wl _ (fun n_1 => ArK .i64 (((0 : Nat) : Int) + 1) fun t49 => K' n_1 t49) hr.w h4 ?_ ?_ ?_
    · simp; omega
    · simp; omega
    · (refine Ent.go ?_)
      refine Ent.imp (Imp.pur ?_ (Imp.refl _)) (hK (by decide) _)
      simp
  · refine Ent.wT ?_ (by decide)
    (refine Ent.go ?_)
    refine inner x.fa x.fk x.fl _ (fun n_1 => ArK .i64 (((0 + 1 : Nat) : Int) + 1) fun t49 => K' n_1 t49) hr.f h5 ?_ ?_ ?_
    · simp; omega
    · simp; omega
    · (refine Ent.go ?_)
      refine Ent.imp (Imp.pur ?_ (Imp.refl _)) (hK (by decide) _)
      simp
  · refine Ent.wF ?_ (by decide)
    have e1 : (((64 + x.url.length + x.rs.length + x.bl.length : Nat) : Int) + (if 1 ≤ 0 + 1 + 1 then (fzn x.wl : Int) else 0) + (if 2 ≤ 0 + 1 + 1 then (fzn x.fl : Int) else 0)) = (size x : Int) := by
      unfold size; simp
    rw [e1]
    exact Ent.imp (by (focus ((repeat ((with_reducible apply Imp.pick); (repeat (first | exact Pick.hd | apply Pick.tl)))); (repeat (first | exact Imp.refl _ | exact Imp.nil _ | apply Imp.drop)); done))) h
  · omega
end
end Go.Proofs.YtfofnagocedlgaaGreatDoor.Tx
end
