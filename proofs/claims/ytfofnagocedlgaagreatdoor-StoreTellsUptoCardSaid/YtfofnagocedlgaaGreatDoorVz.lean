/-
  FIELDS (layers 5, 11): Get, Elements; (layer 16, 9) whether fields are the same.
-/
import Derived.Test.YtfofnagocedlgaaGreatDoorVy
set_option maxRecDepth 100000
set_option linter.unusedVariables false
set_option linter.unusedSectionVars false
set_option linter.unusedSimpArgs false
set_option maxHeartbeats 0
namespace Go.Proofs.YtfofnagocedlgaaGreatDoor.Tx
open Go Sh Sl
attribute [local irreducible] condK ArK NilK OpK FnK StK joinK loopK DrawK andK PuK NxK EnK vS uS bS callS invokeS
section
variable {e : Env} {ctx ctx' rest R : List HProp}
theorem take_snoc {α : Type} {l : List α} {k : Nat} {x : α} (h : l[k]? = some x) : l.take (k + 1) = l.take k ++ [x] := by rw [List.take_add_one, h]; rfl
theorem get_spec {K : Value → WP} {a : Option Addr} {c : Nat} {l : List Fd} {n : Bs} (hr : Rd rest a (fc l)) (hl : fsz l ≤ 1099511627776) (hn : n.length ≤ 1099511627776)
    (h : ∀ a c, Ent e (SlO a (get l n).length c 1 (ss (get l n)) :: rest) (K (.slice a (get l n).length c))) : Ent e rest (head_Get (.slice a l.length c) (ba n) K) := by
  (refine Ent.fn head_Get_ok ?_; unfold head_Get_sh)
  (refine Ent.go ?_)
  have hll := fsz_len l
  refine Ent.rngL1 (k0 := .raw) l.length (fun k v => exs (fun (y : Option Addr × Nat) => sepL [pur (v = .slice y.1 (get (l.take k) n).length y.2), SlO y.1 (get (l.take k) n).length y.2 1 (ss (get (l.take k) n))]) :: rest) rfl ?_ ?_
  · refine Imp.exs (none, 0) (Imp.g2 (Imp.pur (by simp [get]) ?_))
    exact Imp.slN (Imp.refl _)
  intro k hk K' hK v
  refine Ent.exs fun ⟨a2, c2⟩ => Ent.g2 (Ent.pur fun hv => ?_)
  dsimp only at hv
  dsimp only
  subst hv
  by_cases hkn : k < l.length
  · obtain ⟨f, hf⟩ : ∃ f, l[k]? = some f := ⟨_, List.getElem?_eq_getElem hkn⟩
    have hfm := fsz_mem (List.mem_of_getElem? hf)
    have hs := get_snoc (l.take k) f n
    rw [← take_snoc hf] at hs
    have hgl : (get (l.take k) n).length ≤ l.length := by
      unfold get
      have := List.length_filter_le (fun f : Fd => decide (lower f.1 = lower n)) (l.take k)
      simp at this ⊢; omega
    refine Ent.wT ?_ (by simpa using hkn)
    refine fdR hr.tl hf hkn ?_
    refine Ent.alloc' fun fb => ?_
    (refine Ent.go ?_)
    refine same_spec (by omega) hn ?_
    refine Ent.condD (fun he => ?_) fun he => ?_
    · rw [if_pos he] at hs
      (refine Ent.go ?_)
      refine Ent.app1 (fun a3 c3 => ?_)
      (refine Ent.go ?_)
      refine Ent.imp ?_ (hK hkn _)
      refine Imp.exs (a3, c3) (Imp.g2 (Imp.pur ?_ ?_))
      · rw [hs]; simp
      · rw [hs, ss_app, List.length_append]
        (focus ((repeat ((with_reducible apply Imp.pick); (repeat (first | exact Pick.hd | apply Pick.tl)))); (repeat (first | exact Imp.refl _ | exact Imp.nil _ | apply Imp.drop)); done))
    · rw [if_neg he] at hs
      (refine Ent.go ?_)
      refine Ent.imp ?_ (hK hkn _)
      refine Imp.exs (a2, c2) (Imp.g2 (Imp.pur ?_ ?_))
      · rw [hs]
      · rw [hs]
        (focus ((repeat ((with_reducible apply Imp.pick); (repeat (first | exact Pick.hd | apply Pick.tl)))); (repeat (first | exact Imp.refl _ | exact Imp.nil _ | apply Imp.drop)); done))
  · have hkl : k = l.length := by omega
    subst hkl
    refine Ent.wF ?_ (by simp)
    rw [List.take_of_length_le (Nat.le_refl _)]
    exact h a2 c2
theorem elements_spec {K : Value → WP} {a : Option Addr} {c : Nat} {l : List Fd} {n : Bs} (hr : Rd rest a (fc l)) (hl : fsz l ≤ 1099511627776) (hn : n.length ≤ 1099511627776)
    (h : ∀ a c, Ent e (SlO a (elems l n).length c 1 (ss (elems l n)) :: rest) (K (.slice a (elems l n).length c))) : Ent e rest (hop_Elements (.slice a l.length c) (ba n) K) := by
  (refine Ent.fn hop_Elements_ok ?_; unfold hop_Elements_sh)
  refine get_spec hr hl hn fun a1 c1 => ?_
  have ht := get_tot l n
  refine Ent.rdS fun hrd _ => ?_
  obtain ⟨g, hg⟩ : ∃ g, g = get l n := ⟨_, rfl⟩
  rw [← hg] at hrd ht ⊢
  (refine Ent.go ?_)
  refine Ent.rngL1 (k0 := .raw) g.length (fun k v => exs (fun (y : Option Addr × Nat) => sepL [pur (v = .slice y.1 ((g.take k).flatMap lst).length y.2), SlO y.1 ((g.take k).flatMap lst).length y.2 1 (ss ((g.take k).flatMap lst))]) :: SlO a1 g.length c1 1 (ss g) :: rest) rfl ?_ ?_
  · refine Imp.exs (none, 0) (Imp.g2 (Imp.pur (by simp) ?_))
    exact Imp.slN (Imp.refl _)
  intro k hk K' hK v
  refine Ent.exs fun ⟨a2, c2⟩ => Ent.g2 (Ent.pur fun hv => ?_)
  dsimp only at hv
  dsimp only
  subst hv
  have hft := flat_tot (g.take k)
  have htk : tot (g.take k) ≤ tot g := by
    have := tot_app (g.take k) (g.drop k)
    rw [List.take_append_drop] at this
    omega
  have hkl : (g.take k).length ≤ g.length := by simp; omega
  by_cases hkn : k < g.length
  · obtain ⟨x, hx⟩ : ∃ x, g[k]? = some x := ⟨_, List.getElem?_eq_getElem hkn⟩
    have hxt := mem_tot (List.mem_of_getElem? hx)
    have hxl := lst_tot x
    have hv2 : (ss g)[(k : Int).toNat]? = some (.string (ba x)) := by rw [Int.toNat_natCast]; simp [ss, hx]
    have hs : (g.take (k + 1)).flatMap lst = (g.take k).flatMap lst ++ lst x := by rw [take_snoc hx]; simp
    refine Ent.wT ?_ (by simpa using hkn)
    refine Ent.wiSr (hrd _ (by (repeat (first | exact Has.hd | apply Has.tl)))) ?_ rfl rfl rfl (by omega) (by omega) hv2
    refine list_spec (by omega) fun a3 c3 => ?_
    refine Ent.rdS fun hr3 _ => ?_
    refine Ent.appN (hr3 _ (by (repeat (first | exact Has.hd | apply Has.tl)))) (h1 := by intro v hv; simp only [ss, List.mem_map] at hv; obtain ⟨_, _, rfl⟩ := hv; rfl) (fun a4 c4 => ?_)
    (refine Ent.go ?_)
    refine Ent.imp ?_ (hK hkn _)
    refine Imp.exs (a4, c4) (Imp.g2 (Imp.pur ?_ ?_))
    · rw [hs]; simp
    · rw [hs, ss_app, List.length_append]
      (focus ((repeat ((with_reducible apply Imp.pick); (repeat (first | exact Pick.hd | apply Pick.tl)))); (repeat (first | exact Imp.refl _ | exact Imp.nil _ | apply Imp.drop)); done))
  · have hkl : k = g.length := by omega
    subst hkl
    refine Ent.wF ?_ (by simp)
    rw [List.take_of_length_le (Nat.le_refl _)]
    have := h a2 c2
    unfold elems at this
    rw [← hg] at this
    exact Ent.imp (by (focus ((repeat ((with_reducible apply Imp.pick); (repeat (first | exact Pick.hd | apply Pick.tl)))); (repeat (first | exact Imp.refl _ | exact Imp.nil _ | apply Imp.drop)); done))) this
theorem elems_snoc (l : List Fd) (f : Fd) (n : Bs) : elems (l ++ [f]) n = if lower f.1 = lower n then elems l n ++ lst f.2 else elems l n := by
  unfold elems
  rw [get_snoc]
  split <;> simp
theorem fsz_app (l m : List Fd) : fsz (l ++ m) = fsz l + fsz m := by simp [fsz]
theorem elems_take (l : List Fd) (k : Nat) (n : Bs) : (elems (l.take k) n).length ≤ fsz l := by
  have h1 := elems_tot (l.take k) n
  have : fsz (l.take k) ≤ fsz l := by
    have : fsz l = fsz (l.take k) + fsz (l.drop k) := by
      have h9 := fsz_app (l.take k) (l.drop k)
      rwa [List.take_append_drop] at h9
    omega
  omega
theorem ref_elements_spec {K : Value → WP} {a : Option Addr} {c : Nat} {l : List Fd} {n : Bs} (hr : Rd rest a (fc l)) (hl : fsz l ≤ 1099511627776) (hn : n.length ≤ 1099511627776)
    (h : ∀ a c, Ent e (SlO a (elems l n).length c 1 (ss (elems l n)) :: rest) (K (.slice a (elems l n).length c))) : Ent e rest (ref11_Elements (.slice a l.length c) (ba n) K) := by
  (refine Ent.fn ref11_Elements_ok ?_; unfold ref11_Elements_sh)
  have hll := fsz_len l
  refine Ent.rngL1 (k0 := .raw) l.length (fun k v => exs (fun (y : Option Addr × Nat) => sepL [pur (v = .slice y.1 (elems (l.take k) n).length y.2), SlO y.1 (elems (l.take k) n).length y.2 1 (ss (elems (l.take k) n))]) :: rest) rfl ?_ ?_
  · refine Imp.exs (none, 0) (Imp.g2 (Imp.pur (by simp [elems, get]) ?_))
    exact Imp.slN (Imp.refl _)
  intro k hk K' hK v
  refine Ent.exs fun ⟨a2, c2⟩ => Ent.g2 (Ent.pur fun hv => ?_)
  dsimp only at hv
  dsimp only
  subst hv
  have hel := elems_take l k n
  (refine Ent.go ?_)
  by_cases hkn : k < l.length
  · obtain ⟨f, hf⟩ : ∃ f, l[k]? = some f := ⟨_, List.getElem?_eq_getElem hkn⟩
    have hfm := fsz_mem (List.mem_of_getElem? hf)
    have hs := elems_snoc (l.take k) f n
    rw [← take_snoc hf] at hs
    have hxl := lst_tot f.2
    refine Ent.wT ?_ (by simpa using hkn)
    refine fdAt hr.tl hf hkn (.inl ⟨rfl, rfl⟩) ?_
    refine ref_same_spec (by omega) hn ?_
    refine Ent.condD (fun he => ?_) fun he => ?_
    · rw [if_pos he] at hs
      refine fdAt hr.tl hf hkn (.inr ⟨rfl, rfl⟩) ?_
      refine ref_list_spec (by omega) fun a3 c3 => ?_
      refine Ent.rdS fun hr3 _ => ?_
      refine Ent.appN (hr3 _ (by (repeat (first | exact Has.hd | apply Has.tl)))) (h1 := by intro v hv; simp only [ss, List.mem_map] at hv; obtain ⟨_, _, rfl⟩ := hv; rfl) (fun a4 c4 => ?_)
      (refine Ent.go ?_)
      refine Ent.imp ?_ (hK hkn _)
      refine Imp.exs (a4, c4) (Imp.g2 (Imp.pur ?_ ?_))
      · rw [hs]; simp
      · rw [hs, ss_app, List.length_append]
        (focus ((repeat ((with_reducible apply Imp.pick); (repeat (first | exact Pick.hd | apply Pick.tl)))); (repeat (first | exact Imp.refl _ | exact Imp.nil _ | apply Imp.drop)); done))
    · rw [if_neg he] at hs
      (refine Ent.go ?_)
      refine Ent.imp ?_ (hK hkn _)
      refine Imp.exs (a2, c2) (Imp.g2 (Imp.pur ?_ ?_))
      · rw [hs]
      · rw [hs]
        (focus ((repeat ((with_reducible apply Imp.pick); (repeat (first | exact Pick.hd | apply Pick.tl)))); (repeat (first | exact Imp.refl _ | exact Imp.nil _ | apply Imp.drop)); done))
  · have hkl : k = l.length := by omega
    subst hkl
    refine Ent.wF ?_ (by simp)
    rw [List.take_of_length_le (Nat.le_refl _)]
    exact h a2 c2
/-! the same fields -/
theorem eq_take {l m : List Fd} (hlen : l.length = m.length) {k : Nat} (h : l.take k = m.take k) {f g : Fd} (hf : l[k]? = some f) (hg : m[k]? = some g) : (l.take (k + 1) = m.take (k + 1)) ↔ f = g := by
  rw [take_snoc hf, take_snoc hg, h]
  constructor
  · intro h2
    have := List.append_cancel_left h2
    simpa using this
  · intro h2; rw [h2]
theorem ne_of_at {l m : List Fd} {k : Nat} {f g : Fd} (hf : l[k]? = some f) (hg : m[k]? = some g) (h : f ≠ g) : l ≠ m := by
  intro h2; subst h2; rw [hf] at hg; cases hg; exact h rfl
theorem equal_spec {K : Bool → WP} {a a' : Option Addr} {c c' : Nat} {l m : List Fd} (hr : Rd rest a (fc l)) (hr' : Rd rest a' (fc m)) (hl : l.length ≤ 1099511627776) (hm : m.length ≤ 1099511627776) (h : Ent e rest (K (decide (l = m)))) :
    Ent e rest (slices_Equal_Field (.slice a l.length c) (.slice a' m.length c') K) := by
  (refine Ent.fn slices_Equal_Field_ok ?_; unfold slices_Equal_Field_sh)
  (refine Ent.go ?_)
  by_cases hlen : l.length = m.length
  rotate_left
  · refine Ent.wT ?_ (bne_iff_ne.2 (by omega))
    rw [← decide_eq_false (fun hh => hlen (congrArg List.length hh) : ¬ l = m)]; exact h
  refine Ent.wF ?_ (bne_eq_false_iff_eq.2 (by omega))
  (refine Ent.go ?_)
  refine Ent.rngL0 l.length (fun k => pur (l.take k = m.take k) :: rest) rfl (Imp.pur rfl (Imp.refl _)) ?_
  intro k hk K' hK
  refine Ent.pur fun hv => ?_
  by_cases hkn : k < l.length
  · obtain ⟨f, hf⟩ : ∃ f, l[k]? = some f := ⟨_, List.getElem?_eq_getElem hkn⟩
    obtain ⟨g, hg⟩ : ∃ g, m[k]? = some g := ⟨_, List.getElem?_eq_getElem (by omega)⟩
    refine Ent.wT ?_ (by simpa using hkn)
    refine Ent.draw _ (Imp.refl _) ?_
    refine fdJ hr hf hkn ?_
    refine fdJ hr' hg (by omega) ?_
    refine Ent.puB st_neFd ?_
    by_cases he : f = g
    · refine Ent.wF ?_ (by simp [he])
      (refine Ent.go ?_)
      exact Ent.imp (Imp.pur ((eq_take hlen hv hf hg).2 he) (Imp.refl _)) (hK hkn)
    · refine Ent.wT ?_ (by simp [he])
      rw [← decide_eq_false (ne_of_at hf hg he)]; exact h
  · have hkl : k = l.length := by omega
    subst hkl
    refine Ent.wF ?_ (by simp)
    rw [List.take_of_length_le (Nat.le_refl _), List.take_of_length_le (by omega)] at hv
    rw [← decide_eq_true hv]; exact h
theorem vary_same_spec {K : Bool → WP} {a a' : Option Addr} {c c' : Nat} {l m : List Fd} (hr : Rd rest a (fc l)) (hr' : Rd rest a' (fc m)) (hl : l.length ≤ 1099511627776) (hm : m.length ≤ 1099511627776) (h : Ent e rest (K (decide (l = m)))) :
    Ent e rest (vary_Same (.slice a l.length c) (.slice a' m.length c') K) := by
  (refine Ent.fn vary_Same_ok ?_; unfold vary_Same_sh)
  exact equal_spec hr hr' hl hm h
theorem ref_samef_spec {K : Bool → WP} {a a' : Option Addr} {c c' : Nat} {l m : List Fd} (hr : Rd rest a (fc l)) (hr' : Rd rest a' (fc m)) (hl : l.length ≤ 1099511627776) (hm : m.length ≤ 1099511627776) (h : Ent e rest (K (decide (l = m)))) :
    Ent e rest (ref09_SameFields (.slice a l.length c) (.slice a' m.length c') K) := by
  (refine Ent.fn ref09_SameFields_ok ?_; unfold ref09_SameFields_sh)
  (refine Ent.go ?_)
  by_cases hlen : l.length = m.length
  rotate_left
  · refine Ent.wT ?_ (bne_iff_ne.2 (by omega))
    rw [← decide_eq_false (fun hh => hlen (congrArg List.length hh) : ¬ l = m)]; exact h
  refine Ent.wF ?_ (bne_eq_false_iff_eq.2 (by omega))
  refine Ent.rngL0 l.length (fun k => pur (l.take k = m.take k) :: rest) rfl (Imp.pur rfl (Imp.refl _)) ?_
  intro k hk K' hK
  refine Ent.pur fun hv => ?_
  (refine Ent.go ?_)
  by_cases hkn : k < l.length
  · obtain ⟨f, hf⟩ : ∃ f, l[k]? = some f := ⟨_, List.getElem?_eq_getElem hkn⟩
    obtain ⟨g, hg⟩ : ∃ g, m[k]? = some g := ⟨_, List.getElem?_eq_getElem (by omega)⟩
    refine Ent.wT ?_ (by simpa using hkn)
    refine Ent.draw _ (Imp.refl _) ?_
    refine fdJ hr hf hkn ?_
    refine fdJ hr' hg (by omega) ?_
    refine Ent.puB st_neFd ?_
    by_cases he : f = g
    · refine Ent.wF ?_ (by simp [he])
      (refine Ent.go ?_)
      exact Ent.imp (Imp.pur ((eq_take hlen hv hf hg).2 he) (Imp.refl _)) (hK hkn)
    · refine Ent.wT ?_ (by simp [he])
      rw [← decide_eq_false (ne_of_at hf hg he)]; exact h
  · have hkl : k = l.length := by omega
    subst hkl
    refine Ent.wF ?_ (by simp)
    rw [List.take_of_length_le (Nat.le_refl _), List.take_of_length_le (by omega)] at hv
    rw [← decide_eq_true hv]; exact h
theorem ref_same16_spec {K : Bool → WP} {a a' : Option Addr} {c c' : Nat} {l m : List Fd} (hr : Rd rest a (fc l)) (hr' : Rd rest a' (fc m)) (hl : l.length ≤ 1099511627776) (hm : m.length ≤ 1099511627776) (h : Ent e rest (K (decide (l = m)))) :
    Ent e rest (ref16_Same (.slice a l.length c) (.slice a' m.length c') K) := by
  (refine Ent.fn ref16_Same_ok ?_; unfold ref16_Same_sh)
  (refine Ent.go ?_)
  by_cases hlen : l.length = m.length
  rotate_left
  · refine Ent.wT ?_ (bne_iff_ne.2 (by omega))
    rw [← decide_eq_false (fun hh => hlen (congrArg List.length hh) : ¬ l = m)]; exact h
  refine Ent.wF ?_ (bne_eq_false_iff_eq.2 (by omega))
  refine Ent.rngL0 l.length (fun k => pur (l.take k = m.take k) :: rest) rfl (Imp.pur rfl (Imp.refl _)) ?_
  intro k hk K' hK
  refine Ent.pur fun hv => ?_
  (refine Ent.go ?_)
  by_cases hkn : k < l.length
  · obtain ⟨f, hf⟩ : ∃ f, l[k]? = some f := ⟨_, List.getElem?_eq_getElem hkn⟩
    obtain ⟨g, hg⟩ : ∃ g, m[k]? = some g := ⟨_, List.getElem?_eq_getElem (by omega)⟩
    have bs : ∀ x y : Bs, (ba x = ba y) ↔ x = y := fun x y => by simp [ba]
    refine Ent.wT ?_ (by simpa using hkn)
    refine Ent.draw _ (Imp.refl _) ?_
    refine fdAtQ hr hf hkn (.inl ⟨rfl, rfl⟩) ?_
    refine fdAtQ hr' hg (by omega) (.inl ⟨rfl, rfl⟩) ?_
    refine Ent.puB st_neS ?_
    by_cases h1 : f.1 = g.1
    · refine Ent.wF ?_ (by simp [h1])
      refine fdAtQ hr hf hkn (.inr ⟨rfl, rfl⟩) ?_
      refine fdAtQ hr' hg (by omega) (.inr ⟨rfl, rfl⟩) ?_
      refine Ent.puB st_neS ?_
      by_cases h2 : f.2 = g.2
      · refine Ent.wF ?_ (by simp [h2])
        (refine Ent.go ?_)
        exact Ent.imp (Imp.pur ((eq_take hlen hv hf hg).2 (Prod.ext h1 h2)) (Imp.refl _)) (hK hkn)
      · refine Ent.wT ?_ (by rw [decide_eq_false (fun hh => h2 ((bs _ _).1 hh))]; rfl)
        rw [← decide_eq_false (ne_of_at hf hg fun hh => h2 (by rw [hh]))]; exact h
    · refine Ent.wT ?_ (by rw [decide_eq_false (fun hh => h1 ((bs _ _).1 hh))]; rfl)
      rw [← decide_eq_false (ne_of_at hf hg fun hh => h1 (by rw [hh]))]; exact h
  · have hkl : k = l.length := by omega
    subst hkl
    refine Ent.wF ?_ (by simp)
    rw [List.take_of_length_le (Nat.le_refl _), List.take_of_length_le (by omega)] at hv
    rw [← decide_eq_true hv]; exact h
end
end Go.Proofs.YtfofnagocedlgaaGreatDoor.Tx
