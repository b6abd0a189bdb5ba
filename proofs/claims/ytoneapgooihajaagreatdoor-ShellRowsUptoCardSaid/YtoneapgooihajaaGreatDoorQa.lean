/-
  WORDS (layer 31), in plain Lean: what a word of bytes is; words are told apart.
-/
import Derived.Test.YtoneapgooihajaaGreatDoorPx
import Derived.Lib.Bytealg
set_option maxRecDepth 100000
set_option linter.unusedVariables false
set_option linter.unusedSectionVars false
set_option linter.unusedSimpArgs false
namespace Go.Proofs.YtoneapgooihajaaGreatDoor.Qa
open Go Sh Sl
abbrev Bs := List UInt8
def dg : Bs := [48, 49, 50, 51, 52, 53, 54, 55, 56, 57, 97, 98, 99, 100, 101, 102]
def hexd (d : Nat) : UInt8 := dg.getD d 0
def isX (c : UInt8) : Bool := decide (c.toNat < 32) || decide (126 < c.toNat)
def isE (c : UInt8) : Bool := decide (c.toNat = 34) || decide (c.toNat = 92)
/-- a byte's signs -/
def enc (c : UInt8) : Bs := if isX c = true then [92, 120, hexd (c.toNat / 16), hexd (c.toNat % 16)] else if isE c = true then [92, c] else [c]
/-- the signs of bytes -/
def encs (b : Bs) : Bs := b.flatMap enc
/-- the word of bytes -/
def q (b : Bs) : Bs := 34 :: encs b ++ [34]
theorem encs_app (a b : Bs) : encs (a ++ b) = encs a ++ encs b := by simp [encs]
theorem encs_cons (c : UInt8) (b : Bs) : encs (c :: b) = enc c ++ encs b := by simp [encs]
theorem enc_len (c : UInt8) : 1 ≤ (enc c).length ∧ (enc c).length ≤ 4 := by
  unfold enc
  split
  · simp
  · split <;> simp
theorem encs_len (b : Bs) : b.length ≤ (encs b).length ∧ (encs b).length ≤ 4 * b.length := by
  induction b with
  | nil => simp [encs]
  | cons c b ih =>
    have := enc_len c
    rw [encs_cons, List.length_append, List.length_cons]
    omega
theorem q_len (b : Bs) : (q b).length = (encs b).length + 2 := by simp [q]
theorem hexd_inj : ∀ a b : Fin 16, hexd a = hexd b → a = b := by decide
theorem hexd_dg (d : Nat) (h : d < 16) : dg[d]? = some (hexd d) := by
  have : ∀ d : Fin 16, dg[d.val]? = some (hexd d) := by decide
  exact this ⟨d, h⟩
/-- an index by bytes -/
theorem ix_hexd (d : Nat) (h : d < 16) : Lib.indexByte dg (hexd d) = (d : Int) := by
  have : ∀ d : Fin 16, Lib.indexByte dg (hexd d) = ((d.val : Nat) : Int) := by decide
  exact this ⟨d, h⟩
theorem ix_some {x : UInt8} (h : 0 ≤ Lib.indexByte dg x) : ∃ d, d < 16 ∧ x = hexd d := by
  have : ∀ n : Fin 256, 0 ≤ Lib.indexByte dg (UInt8.ofNat n.val) → ∃ d : Fin 16, UInt8.ofNat n.val = hexd d := by decide +kernel
  obtain ⟨d, hd⟩ := this ⟨x.toNat, x.toNat_lt⟩ (by simpa using h)
  exact ⟨d, d.2, by simpa using hd⟩
theorem isE_iff {c : UInt8} : isE c = true ↔ c = 34 ∨ c = 92 := by
  unfold isE
  simp only [Bool.or_eq_true, decide_eq_true_eq]
  constructor
  · rintro (h | h)
    · exact .inl (UInt8.toNat_inj.1 h)
    · exact .inr (UInt8.toNat_inj.1 h)
  · rintro (rfl | rfl) <;> simp
/-- what a byte's signs begin with -/
theorem enc_head {c x : UInt8} {t u : Bs} (h : enc c ++ t = x :: u) (hx : x ≠ 92) : c = x ∧ t = u ∧ x ≠ 34 := by
  unfold enc at h
  split at h
  · exact absurd (List.cons.inj h).1.symm hx
  · split at h
    · exact absurd (List.cons.inj h).1.symm hx
    · rename_i he
      obtain ⟨h1, h2⟩ := List.cons.inj h
      exact ⟨h1, h2, fun h3 => he (isE_iff.2 (.inl (h1.trans h3)))⟩
theorem enc_esc {c : UInt8} {t u : Bs} (h : enc c ++ t = 92 :: u) : (isX c = true ∧ u = 120 :: hexd (c.toNat / 16) :: hexd (c.toNat % 16) :: t) ∨ (u = c :: t ∧ (c = 34 ∨ c = 92)) := by
  unfold enc at h
  split at h
  · rename_i hx
    obtain ⟨_, h2⟩ := List.cons.inj h
    exact .inl ⟨hx, h2.symm⟩
  · split at h
    · rename_i he
      obtain ⟨_, h2⟩ := List.cons.inj h
      exact .inr ⟨h2.symm, isE_iff.1 he⟩
    · rename_i he
      obtain ⟨h1, h2⟩ := List.cons.inj h
      exact absurd (isE_iff.2 (.inr h1)) he
theorem enc_inj {c d : UInt8} {t u : Bs} (h : enc c ++ t = enc d ++ u) : c = d ∧ t = u := by
  obtain ⟨x, v, hv⟩ : ∃ x v, enc d ++ u = x :: v := by
    have := (enc_len d).1
    cases hd : enc d with
    | nil => rw [hd] at this; simp at this
    | cons x v => exact ⟨x, v ++ u, rfl⟩
  by_cases hx : x = 92
  · subst hx
    have h1 := enc_esc (h.trans hv)
    have h2 := enc_esc hv
    rcases h1 with ⟨hc, e1⟩ | ⟨e1, hc⟩ <;> rcases h2 with ⟨hd, e2⟩ | ⟨e2, hd⟩
    · rw [e1] at e2
      obtain ⟨_, h4⟩ := List.cons.inj e2
      obtain ⟨h5, h6⟩ := List.cons.inj h4
      obtain ⟨h7, h8⟩ := List.cons.inj h6
      have hcl := c.toNat_lt
      have hdl := d.toNat_lt
      have g1 := hexd_inj ⟨c.toNat / 16, by omega⟩ ⟨d.toNat / 16, by omega⟩ h5
      have g2 := hexd_inj ⟨c.toNat % 16, by omega⟩ ⟨d.toNat % 16, by omega⟩ h7
      simp only [Fin.mk.injEq] at g1 g2
      exact ⟨UInt8.toNat_inj.1 (by omega), h8⟩
    · rw [e1] at e2
      obtain ⟨h3, _⟩ := List.cons.inj e2
      rcases hd with rfl | rfl <;> exact absurd h3 (by decide)
    · rw [e1] at e2
      obtain ⟨h3, _⟩ := List.cons.inj e2
      rcases hc with rfl | rfl <;> exact absurd h3 (by decide)
    · rw [e1] at e2
      obtain ⟨h3, h4⟩ := List.cons.inj e2
      exact ⟨h3, h4⟩
  · obtain ⟨h1, h2, _⟩ := enc_head (h.trans hv) hx
    obtain ⟨h3, h4, _⟩ := enc_head hv hx
    exact ⟨h1.trans h3.symm, h2.trans h4.symm⟩
theorem encs_stop {b : Bs} {r u : Bs} {x : UInt8} (h : encs b ++ 34 :: r = x :: u) (hx : x = 34) : b = [] := by
  cases b with
  | nil => rfl
  | cons c b =>
    exfalso
    rw [encs_cons, List.append_assoc] at h
    by_cases h92 : x = 92
    · rw [hx] at h92; exact absurd h92 (by decide)
    · exact (enc_head h h92).2.2 hx
theorem encs_inj : ∀ {a b : Bs} {r u : Bs}, encs a ++ 34 :: r = encs b ++ 34 :: u → a = b ∧ r = u
  | [], b, r, u, h => by
    have := encs_stop (b := b) (r := u) (u := r) (x := 34) h.symm rfl
    subst this
    exact ⟨rfl, (List.cons.inj h).2⟩
  | c :: a, [], r, u, h => by
    have := encs_stop (b := c :: a) (r := r) (u := u) (x := 34) h rfl
    cases this
  | c :: a, d :: b, r, u, h => by
    rw [encs_cons, encs_cons, List.append_assoc, List.append_assoc] at h
    obtain ⟨h1, h2⟩ := enc_inj h
    obtain ⟨h3, h4⟩ := encs_inj h2
    exact ⟨by rw [h1, h3], h4⟩
/-- a word is told apart from whatever stands behind it -/
theorem q_inj {a b r u : Bs} (h : q a ++ r = q b ++ u) : a = b ∧ r = u := by
  unfold q at h
  simp only [List.cons_append, List.append_assoc, List.nil_append] at h
  exact encs_inj (List.cons.inj h).2
/-- its signs are printed ones -/
theorem q_printed (b : Bs) : ∀ c ∈ q b, 32 ≤ c.toNat ∧ c.toNat ≤ 126 := by
  have he : ∀ d : UInt8, ∀ c ∈ enc d, 32 ≤ c.toNat ∧ c.toNat ≤ 126 := by
    have : ∀ n : Fin 256, ∀ c ∈ enc (UInt8.ofNat n.val), 32 ≤ c.toNat ∧ c.toNat ≤ 126 := by decide +kernel
    intro d
    have h := this ⟨d.toNat, d.toNat_lt⟩
    simpa using h
  intro c hc
  unfold q at hc
  rcases List.mem_append.1 hc with hc | hc
  · rcases List.mem_cons.1 hc with rfl | hc
    · decide
    · unfold encs at hc
      obtain ⟨d, _, hd⟩ := List.mem_flatMap.1 hc
      exact he d c hd
  · rw [List.mem_singleton.1 hc]; decide
end Go.Proofs.YtoneapgooihajaaGreatDoor.Qa
