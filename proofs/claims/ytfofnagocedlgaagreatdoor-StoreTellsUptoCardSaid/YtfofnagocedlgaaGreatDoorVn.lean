/-
  FIELDS (layer 16): Names.
-/
import Derived.Test.YtfofnagocedlgaaGreatDoorVz
set_option maxRecDepth 100000
set_option linter.unusedVariables false
set_option linter.unusedSectionVars false
set_option linter.unusedSimpArgs false
set_option maxHeartbeats 0
namespace Go.Proofs.YtfofnagocedlgaaGreatDoor.Tx
open Go Sh Sl
attribute [local irreducible] condK ArK NilK OpK FnK StK joinK loopK DrawK andK PuK NxK EnK vS uS bS callS invokeS
def nmS (acc : List Bs) (x : Bs) : List Bs := if lower x = [42] ∨ lower x ∈ acc then acc else acc ++ [lower x]
def nm (xs : List Bs) : List Bs := xs.foldl nmS []
def star (xs : List Bs) : Bool := decide ([42] ∈ xs.map lower)
theorem star_snoc (xs : List Bs) (x : Bs) : star (xs ++ [x]) = (decide (lower x = [42]) || star xs) := by
  unfold star
  rw [Bool.eq_iff_iff]
  simp only [decide_eq_true_eq, Bool.or_eq_true, List.map_append, List.map_cons, List.map_nil, List.mem_append, List.mem_singleton]
  constructor
  · rintro (h | h)
    · exact .inr h
    · exact .inl h.symm
  · rintro (h | h)
    · exact .inr h.symm
    · exact .inl h
theorem nm_snoc (xs : List Bs) (x : Bs) : nm (xs ++ [x]) = nmS (nm xs) x := by simp [nm]
theorem nmS_mem {acc : List Bs} {x n : Bs} : n ∈ nmS acc x ↔ n ∈ acc ∨ (n = lower x ∧ n ≠ [42]) := by
  unfold nmS
  by_cases h1 : lower x = [42]
  · rw [if_pos (.inl h1)]
    constructor
    · exact .inl
    · rintro (h | ⟨h, h2⟩)
      · exact h
      · exact absurd (h.trans h1) h2
  · by_cases h2 : lower x ∈ acc
    · rw [if_pos (.inr h2)]
      constructor
      · exact .inl
      · rintro (h | ⟨h, _⟩)
        · exact h
        · rw [h]; exact h2
    · rw [if_neg (by simp [h1, h2])]
      simp only [List.mem_append, List.mem_singleton]
      constructor
      · rintro (h | h)
        · exact .inl h
        · exact .inr ⟨h, h ▸ h1⟩
      · rintro (h | ⟨h, _⟩)
        · exact .inl h
        · exact .inr h
theorem nm_mem {n : Bs} (xs : List Bs) : n ∈ nm xs ↔ n ∈ xs.map lower ∧ n ≠ [42] := by
  have : ∀ (xs acc : List Bs), n ∈ xs.foldl nmS acc ↔ n ∈ acc ∨ (n ∈ xs.map lower ∧ n ≠ [42]) := by
    intro xs
    induction xs with
    | nil => intro acc; simp
    | cons x xs ih =>
      intro acc
      rw [List.foldl_cons, ih, nmS_mem]
      simp only [List.map_cons, List.mem_cons]
      constructor
      · rintro ((h | ⟨h, h2⟩) | ⟨h, h2⟩)
        · exact .inl h
        · exact .inr ⟨.inl h, h2⟩
        · exact .inr ⟨.inr h, h2⟩
      · rintro (h | ⟨h | h, h2⟩)
        · exact .inl (.inl h)
        · exact .inl (.inr ⟨h, h2⟩)
        · exact .inr ⟨h, h2⟩
  have := this xs []
  simpa [nm] using this
theorem nm_len (xs : List Bs) : (nm xs).length ≤ xs.length := by
  have : ∀ (xs acc : List Bs), (xs.foldl nmS acc).length ≤ acc.length + xs.length := by
    intro xs
    induction xs with
    | nil => intro acc; simp
    | cons x xs ih =>
      intro acc
      rw [List.foldl_cons]
      have h1 := ih (nmS acc x)
      have h2 : (nmS acc x).length ≤ acc.length + 1 := by unfold nmS; split <;> simp
      simp only [List.length_cons]; omega
  have := this xs []
  simpa [nm] using this
theorem nm_size (xs : List Bs) : ∀ n ∈ nm xs, n.length ≤ tot xs := by
  intro n hn
  obtain ⟨h, _⟩ := (nm_mem xs).1 hn
  obtain ⟨x, hx, rfl⟩ := List.mem_map.1 h
  rw [lower_len]; exact mem_tot hx
section
variable {e : Env} {ctx ctx' rest R : List HProp}
abbrev iV (n : Int) : Value := .int .i64 n
theorem ba_inj {a b : Bs} : (ba a = ba b) ↔ a = b := by simp [ba]
theorem names_spec {K : Value → Bool → WP} {a : Option Addr} {c : Nat} {l : List Fd} (hr : Rd rest a (fc l)) (hl : fsz l ≤ 1099511627776)
    (h : ∀ a c, Ent e (SlO a (nm (elems l [118, 97, 114, 121])).length c 1 (ss (nm (elems l [118, 97, 114, 121]))) :: rest) (K (.slice a (nm (elems l [118, 97, 114, 121])).length c) (star (elems l [118, 97, 114, 121])))) : Ent e rest (vary_Names (.slice a l.length c) K) := by
  (refine Ent.fn vary_Names_ok ?_; unfold vary_Names_sh)
  refine Ent.mmake strK iV fun rm => ?_
  refine elements_spec (n := [118, 97, 114, 121]) hr.tl hl (by decide) fun a1 c1 => ?_
  have hel := elems_tot l [118, 97, 114, 121]
  obtain ⟨g, hg⟩ : ∃ g, g = elems l [118, 97, 114, 121] := ⟨_, rfl⟩
  rw [← hg] at h hel ⊢
  refine Ent.rdS fun hrd _ => ?_
  (refine Ent.go ?_)
  refine Ent.rngL1 (k0 := .raw) g.length (fun k v => exs (fun (y : Option Addr × Nat × List (Bs × Int)) => sepL [pur (v = .slice y.1 (nm (g.take k)).length y.2.1 ∧ (∀ n, mfind n y.2.2 = if n ∈ (g.take k).map lower then some 1 else none)), SlO y.1 (nm (g.take k)).length y.2.1 1 (ss (nm (g.take k))), Mp strK iV rm y.2.2]) :: SlO a1 g.length c1 1 (ss g) :: rest) rfl ?_ ?_
  · refine Imp.exs (none, 0, []) (Imp.g3 (Imp.pur ⟨by simp [nm], fun n => by simp [mfind]⟩ ?_))
    refine Imp.trans ?_ (Imp.slN (sz := 1) (Imp.refl _))
    (focus ((repeat ((with_reducible apply Imp.pick); (repeat (first | exact Pick.hd | apply Pick.tl)))); (repeat (first | exact Imp.refl _ | exact Imp.nil _ | apply Imp.drop)); done))
  intro k hk K' hK v
  refine Ent.exs fun ⟨a2, c2, M⟩ => Ent.g3 (Ent.pur fun ⟨hv, hM⟩ => ?_)
  dsimp only at hv hM
  dsimp only
  subst hv
  by_cases hkn : k < g.length
  · obtain ⟨x, hx⟩ : ∃ x, g[k]? = some x := ⟨_, List.getElem?_eq_getElem hkn⟩
    have hxt := mem_tot (List.mem_of_getElem? hx)
    have hv2 : (ss g)[(k : Int).toNat]? = some (.string (ba x)) := by rw [Int.toNat_natCast]; simp [ss, hx]
    have hs := nm_snoc (g.take k) x
    rw [← take_snoc hx] at hs
    have hnl := nm_len (g.take k)
    have htl : (g.take k).length ≤ g.length := by simp; omega
    have hseen : ∀ n, n ∈ (g.take (k + 1)).map lower ↔ n = lower x ∨ n ∈ (g.take k).map lower := fun n => by
      rw [take_snoc hx]; simp [or_comm]
    refine Ent.wT ?_ (by simpa using hkn)
    refine Ent.wiSr (hrd _ (by (repeat (first | exact Has.hd | apply Has.tl)))) ?_ rfl rfl rfl (by omega) (by omega) hv2
    refine lower_spec (by omega) ?_
    have hnew : ∀ n, mfind n (mset (lower x) 1 M) = if n ∈ (g.take (k + 1)).map lower then some 1 else none := fun n => by
      rw [mfind_set, hM n]
      by_cases h1 : n = lower x
      · rw [if_pos h1, if_pos ((hseen n).2 (.inl h1))]
      · rw [if_neg h1]
        by_cases h2 : n ∈ (g.take k).map lower
        · rw [if_pos h2, if_pos ((hseen n).2 (.inr h2))]
        · rw [if_neg h2, if_neg (fun h3 => (hseen n).1 h3 |>.elim h1 h2)]
    refine Ent.join1 (kd := .bool) (fun b => pur (b = decide (lower x ∉ (g.take k).map lower ∧ lower x ≠ [42])) :: SlO a2 (nm (g.take k)).length c2 1 (ss (nm (g.take k))) :: Mp strK iV rm M :: SlO a1 g.length c1 1 (ss g) :: rest) ?_ ?_
    rotate_left
    · intro k' hk'
      by_cases h1 : lower x ∈ (g.take k).map lower
      · have := hM (lower x)
        rw [if_pos h1] at this
        refine Ent.opI (st_mgetT (K := strK) (vf := iV) (a := lower x) (b := 1) (by (repeat (first | exact Has.hd | apply Has.tl))) rfl rfl this) ?_
        refine Ent.wF ?_
        refine Ent.imp (Imp.pur ?_ (Imp.refl _)) (hk' _)
        rw [decide_eq_false (fun hh => hh.1 h1)]
      · have := hM (lower x)
        rw [if_neg h1] at this
        refine Ent.opI (st_mgetF (K := strK) (vf := iV) (a := lower x) (z := .int .i64 0) (by (repeat (first | exact Has.hd | apply Has.tl))) rfl rfl this (by kernel_rfl)) ?_
        refine Ent.wT ?_
        (refine Ent.go ?_)
        refine Ent.imp (Imp.pur ?_ (Imp.refl _)) (hk' _)
        by_cases h2 : lower x = [42]
        · rw [decide_eq_true (show ba (lower x) = ⟨#[42]⟩ by rw [h2]), decide_eq_false (fun hh => hh.2 h2)]; rfl
        · rw [decide_eq_false (fun hh => h2 (ba_inj (b := [42]).1 hh)), decide_eq_true ⟨h1, h2⟩]; rfl
    intro b
    refine Ent.pur fun hb => ?_
    subst hb
    by_cases hc : lower x ∉ (g.take k).map lower ∧ lower x ≠ [42]
    · have e1 : nmS (nm (g.take k)) x = nm (g.take k) ++ [lower x] := by
        unfold nmS
        rw [if_neg]
        rintro (h1 | h1)
        · exact hc.2 h1
        · exact hc.1 ((nm_mem _).1 h1).1
      rw [e1] at hs
      refine Ent.wT ?_ (decide_eq_true hc)
      refine Ent.app1 (fun a3 c3 => ?_)
      refine Ent.mset (K := strK) (vf := iV) (a := lower x) (b := 1) (by (repeat (first | exact Upd.hd | apply Upd.tl))) rfl rfl ?_
      (refine Ent.go ?_)
      refine Ent.imp ?_ (hK hkn _)
      refine Imp.exs (a3, c3, mset (lower x) 1 M) (Imp.g3 (Imp.pur ⟨?_, hnew⟩ ?_))
      · rw [hs]; simp
      · rw [hs, ss_app, List.length_append]
        (focus ((repeat ((with_reducible apply Imp.pick); (repeat (first | exact Pick.hd | apply Pick.tl)))); (repeat (first | exact Imp.refl _ | exact Imp.nil _ | apply Imp.drop)); done))
    · have e1 : nmS (nm (g.take k)) x = nm (g.take k) := by
        unfold nmS
        rw [if_pos]
        by_cases h2 : lower x = [42]
        · exact .inl h2
        · refine .inr ((nm_mem _).2 ⟨?_, h2⟩)
          by_cases h3 : lower x ∈ (g.take k).map lower
          · exact h3
          · exact absurd ⟨h3, h2⟩ hc
      rw [e1] at hs
      refine Ent.wF ?_ (decide_eq_false hc)
      refine Ent.mset (K := strK) (vf := iV) (a := lower x) (b := 1) (by (repeat (first | exact Upd.hd | apply Upd.tl))) rfl rfl ?_
      (refine Ent.go ?_)
      refine Ent.imp ?_ (hK hkn _)
      refine Imp.exs (a2, c2, mset (lower x) 1 M) (Imp.g3 (Imp.pur ⟨?_, hnew⟩ ?_))
      · rw [hs]
      · rw [hs]
        (focus ((repeat ((with_reducible apply Imp.pick); (repeat (first | exact Pick.hd | apply Pick.tl)))); (repeat (first | exact Imp.refl _ | exact Imp.nil _ | apply Imp.drop)); done))
  · have hkl : k = g.length := by omega
    subst hkl
    refine Ent.wF ?_ (by simp)
    rw [List.take_of_length_le (Nat.le_refl _)] at hM ⊢
    refine Ent.draw _ (Imp.refl _) ?_
    have fin := h a2 c2
    unfold star at fin
    by_cases h1 : [42] ∈ g.map lower
    · have := hM [42]
      rw [if_pos h1] at this
      rw [decide_eq_true h1] at fin
      refine Ent.stI (st_mgetT (K := strK) (vf := iV) (a := [42]) (b := 1) (by (repeat (first | exact Has.hd | apply Has.tl))) rfl rfl this) ?_
      exact Ent.imp (by (focus ((repeat ((with_reducible apply Imp.pick); (repeat (first | exact Pick.hd | apply Pick.tl)))); (repeat (first | exact Imp.refl _ | exact Imp.nil _ | apply Imp.drop)); done))) fin
    · have := hM [42]
      rw [if_neg h1] at this
      rw [decide_eq_false h1] at fin
      refine Ent.stI (st_mgetF (K := strK) (vf := iV) (a := [42]) (z := .int .i64 0) (by (repeat (first | exact Has.hd | apply Has.tl))) rfl rfl this (by kernel_rfl)) ?_
      exact Ent.imp (by (focus ((repeat ((with_reducible apply Imp.pick); (repeat (first | exact Pick.hd | apply Pick.tl)))); (repeat (first | exact Imp.refl _ | exact Imp.nil _ | apply Imp.drop)); done))) fin
theorem ref_names_spec {K : Value → Bool → WP} {a : Option Addr} {c : Nat} {l : List Fd} (hr : Rd rest a (fc l)) (hl : fsz l ≤ 1099511627776)
    (h : ∀ a c, Ent e (SlO a (nm (elems l [118, 97, 114, 121])).length c 1 (ss (nm (elems l [118, 97, 114, 121]))) :: rest) (K (.slice a (nm (elems l [118, 97, 114, 121])).length c) (star (elems l [118, 97, 114, 121])))) : Ent e rest (ref16_Names (.slice a l.length c) K) := by
  (refine Ent.fn ref16_Names_ok ?_; unfold ref16_Names_sh)
  refine ref_elements_spec (n := [118, 97, 114, 121]) hr hl (by decide) fun a1 c1 => ?_
  have hel := elems_tot l [118, 97, 114, 121]
  obtain ⟨g, hg⟩ : ∃ g, g = elems l [118, 97, 114, 121] := ⟨_, rfl⟩
  rw [← hg] at h hel ⊢
  refine Ent.rdS fun hrd _ => ?_
  refine Ent.rngL2 (k0 := .raw) (k1 := .bool) g.length (fun k v b => exs (fun (y : Option Addr × Nat) => sepL [pur (v = .slice y.1 (nm (g.take k)).length y.2 ∧ b = star (g.take k)), SlO y.1 (nm (g.take k)).length y.2 1 (ss (nm (g.take k)))]) :: SlO a1 g.length c1 1 (ss g) :: rest) rfl ?_ ?_
  · refine Imp.exs (none, 0) (Imp.g2 (Imp.pur ⟨by simp [nm], by simp [star]⟩ ?_))
    exact Imp.slN (Imp.refl _)
  intro k hk K' hK v b
  refine Ent.exs fun ⟨a2, c2⟩ => Ent.g2 (Ent.pur fun ⟨hv, hb⟩ => ?_)
  dsimp only at hv hb
  dsimp only
  subst hv hb
  (refine Ent.go ?_)
  by_cases hkn : k < g.length
  · obtain ⟨x, hx⟩ : ∃ x, g[k]? = some x := ⟨_, List.getElem?_eq_getElem hkn⟩
    have hxt := mem_tot (List.mem_of_getElem? hx)
    have hv2 : (ss g)[(k : Int).toNat]? = some (.string (ba x)) := by rw [Int.toNat_natCast]; simp [ss, hx]
    have hs := nm_snoc (g.take k) x
    rw [← take_snoc hx] at hs
    have hnl := nm_len (g.take k)
    have htl : (g.take k).length ≤ g.length := by simp; omega
    have hst : star (g.take (k + 1)) = (decide (lower x = [42]) || star (g.take k)) := by
      rw [take_snoc hx, star_snoc]
    refine Ent.wT ?_ (by simpa using hkn)
    refine Ent.wiSr (hrd _ (by (repeat (first | exact Has.hd | apply Has.tl)))) ?_ rfl rfl rfl (by omega) (by omega) hv2
    refine ref_lower_spec (by omega) ?_
    (refine Ent.go ?_)
    by_cases h42 : lower x = [42]
    · refine Ent.wT ?_ (decide_eq_true (by rw [h42]))
      (refine Ent.go ?_)
      have e1 : nmS (nm (g.take k)) x = nm (g.take k) := by unfold nmS; rw [if_pos (.inl h42)]
      rw [e1] at hs
      rw [decide_eq_true h42] at hst
      refine Ent.imp ?_ (hK hkn _ _)
      refine Imp.exs (a2, c2) (Imp.g2 (Imp.pur ⟨?_, ?_⟩ ?_))
      · rw [hs]
      · rw [hst]; rfl
      · rw [hs]
        (focus ((repeat ((with_reducible apply Imp.pick); (repeat (first | exact Pick.hd | apply Pick.tl)))); (repeat (first | exact Imp.refl _ | exact Imp.nil _ | apply Imp.drop)); done))
    · rw [decide_eq_false h42, Bool.false_or] at hst
      refine Ent.wF ?_ (decide_eq_false (fun hh => h42 (ba_inj (b := [42]).1 hh)))
      obtain ⟨ns, hns⟩ : ∃ ns, ns = nm (g.take k) := ⟨_, rfl⟩
      rw [← hns] at hs hnl ⊢
      refine Ent.rdS fun hrn _ => ?_
      refine Ent.rngL1 (k0 := .bool) ns.length (fun j b => pur (b = decide (lower x ∈ ns.take j)) :: SlO a2 ns.length c2 1 (ss ns) :: SlO a1 g.length c1 1 (ss g) :: rest) rfl ?_ ?_
      · exact Imp.pur (by simp) (Imp.refl _)
      intro j hj K2 hK2 b
      refine Ent.pur fun hb => ?_
      subst hb
      (refine Ent.go ?_)
      by_cases hjn : j < ns.length
      · obtain ⟨y, hy⟩ : ∃ y, ns[j]? = some y := ⟨_, List.getElem?_eq_getElem hjn⟩
        have hy2 : (ss ns)[(j : Int).toNat]? = some (.string (ba y)) := by rw [Int.toNat_natCast]; simp [ss, hy]
        have hmem : (lower x ∈ ns.take (j + 1)) ↔ lower x ∈ ns.take j ∨ lower x = y := by rw [take_snoc hy]; simp
        refine Ent.wT ?_ (by simpa using hjn)
        by_cases h3 : lower x ∈ ns.take j
        · refine Ent.wT ?_ (decide_eq_true h3)
          (refine Ent.go ?_)
          refine Ent.imp (Imp.pur ?_ (Imp.refl _)) (hK2 hjn _)
          rw [decide_eq_true (hmem.2 (.inl h3))]
        · refine Ent.wF ?_ (decide_eq_false h3)
          refine Ent.wiSr (hrn _ (by (repeat (first | exact Has.hd | apply Has.tl)))) ?_ rfl rfl rfl (by omega) (by omega) hy2
          (refine Ent.go ?_)
          refine Ent.imp (Imp.pur ?_ (Imp.refl _)) (hK2 hjn _)
          by_cases h4 : lower x = y
          · rw [decide_eq_true (hmem.2 (.inr h4)), decide_eq_true (by rw [h4])]
          · rw [decide_eq_false (fun hh => (hmem.1 hh).elim h3 h4), decide_eq_false (fun hh => h4 (ba_inj.1 hh).symm)]
      · have hjl : j = ns.length := by omega
        subst hjl
        refine Ent.wF ?_ (by simp)
        rw [List.take_of_length_le (Nat.le_refl _)]
        by_cases h3 : lower x ∈ ns
        · have e1 : nmS ns x = ns := by unfold nmS; rw [if_pos (.inr h3)]
          rw [e1] at hs
          refine Ent.wF ?_ (by rw [decide_eq_true h3]; rfl)
          (refine Ent.go ?_)
          refine Ent.imp ?_ (hK hkn _ _)
          refine Imp.exs (a2, c2) (Imp.g2 (Imp.pur ⟨?_, hst.symm⟩ ?_))
          · rw [hs]
          · rw [hs]
            (focus ((repeat ((with_reducible apply Imp.pick); (repeat (first | exact Pick.hd | apply Pick.tl)))); (repeat (first | exact Imp.refl _ | exact Imp.nil _ | apply Imp.drop)); done))
        · have e1 : nmS ns x = ns ++ [lower x] := by unfold nmS; rw [if_neg (by simp [h42, h3])]
          rw [e1] at hs
          refine Ent.wT ?_ (by rw [decide_eq_false h3]; rfl)
          refine Ent.app1 (fun a3 c3 => ?_)
          (refine Ent.go ?_)
          refine Ent.imp ?_ (hK hkn _ _)
          refine Imp.exs (a3, c3) (Imp.g2 (Imp.pur ⟨?_, hst.symm⟩ ?_))
          · rw [hs]; simp
          · rw [hs, ss_app, List.length_append]
            (focus ((repeat ((with_reducible apply Imp.pick); (repeat (first | exact Pick.hd | apply Pick.tl)))); (repeat (first | exact Imp.refl _ | exact Imp.nil _ | apply Imp.drop)); done))
  · have hkl : k = g.length := by omega
    subst hkl
    refine Ent.wF ?_ (by simp)
    rw [List.take_of_length_le (Nat.le_refl _)]
    exact Ent.imp (by (focus ((repeat ((with_reducible apply Imp.pick); (repeat (first | exact Pick.hd | apply Pick.tl)))); (repeat (first | exact Imp.refl _ | exact Imp.nil _ | apply Imp.drop)); done))) (h a2 c2)
end
end Go.Proofs.YtfofnagocedlgaaGreatDoor.Tx
