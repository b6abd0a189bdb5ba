/-
  THE SECOND LAYER: what is held of memory, as a list of parts that lie apart ('Ent e ctx prog': whoever holds 'ctx' may run 'prog').
-/
import Derived.Test.YtiabhghlhnnnjaaGreatDoorCx
import Derived.Laws.AppendOwn
import Derived.Laws.CopyRow
import Derived.Laws.MakeOwn
import Derived.Laws.BytesString
import Derived.Laws.Slices
import Derived.Below
set_option maxRecDepth 100000
set_option linter.unusedVariables false
set_option linter.unusedSimpArgs false
namespace Go.Proofs.YtiabhghlhnnnjaaGreatDoor.Sl
open Go Sh

abbrev Hp := Nat → Option Obj
abbrev HProp := Hp → Prop
def Hp.le (a b : Hp) : Prop := ∀ i o, a i = some o → b i = some o
def Hp.disj (a b : Hp) : Prop := ∀ i, a i = none ∨ b i = none
theorem Hp.le_refl (a : Hp) : Hp.le a a := fun _ _ h => h
theorem Hp.le_trans {a b c : Hp} (h : Hp.le a b) (k : Hp.le b c) : Hp.le a c := fun i o x => k i o (h i o x)
theorem Hp.disj_symm {a b : Hp} (h : Hp.disj a b) : Hp.disj b a := fun i => (h i).symm
def sepL : List HProp → HProp
  | [] => fun _ => True
  | A :: l => fun h => ∃ h1 h2, Hp.disj h1 h2 ∧ Hp.le h1 h ∧ Hp.le h2 h ∧ A h1 ∧ sepL l h2
def hpOf (w : World) : Hp := fun b => w.heap[b]?

theorem sepL_mono {l : List HProp} {h h' : Hp} (hl : Hp.le h h') (k : sepL l h) : sepL l h' := by
  cases l with
  | nil => trivial
  | cons A l =>
    obtain ⟨h1, h2, hd, l1, l2, hA, hr⟩ := k
    exact ⟨h1, h2, hd, Hp.le_trans l1 hl, Hp.le_trans l2 hl, hA, hr⟩
theorem sepL_swap {A B : HProp} {l : List HProp} {h : Hp} (k : sepL (A :: B :: l) h) : sepL (B :: A :: l) h := by
  obtain ⟨h1, h2, hd, l1, l2, hA, h3, h4, hd', l3, l4, hB, hr⟩ := k
  -- h3 for B, and h1 with h4
  let h5 : Hp := fun i => match h1 i with | some o => some o | none => h4 i
  have d34 := hd'
  refine ⟨h3, h5, ?_, Hp.le_trans l3 l2, ?_, hB, h1, h4, ?_, ?_, ?_, hA, hr⟩
  · intro i
    cases e3 : h3 i with
    | none => exact .inl rfl
    | some o =>
      refine .inr ?_
      have a1 : h1 i = none := by
        rcases hd i with a | a
        · exact a
        · rw [l3 i o e3] at a; cases a
      have a4 : h4 i = none := by
        rcases d34 i with a | a
        · rw [e3] at a; cases a
        · exact a
      simp [h5, a1, a4]
  · intro i o e
    simp only [h5] at e
    cases e1 : h1 i with
    | none => rw [e1] at e; exact l2 i o (l4 i o e)
    | some o' => rw [e1] at e; cases e; exact l1 i _ e1
  · intro i
    rcases hd i with a | a
    · exact .inl a
    · refine .inr ?_
      cases e4 : h4 i with
      | none => rfl
      | some o => rw [l4 i o e4] at a; cases a
  · intro i o e; simp [h5, e]
  · intro i o e
    simp only [h5]
    rcases hd i with a | a
    · rw [a]; exact e
    · rw [l4 i o e] at a; cases a
theorem sepL_cons {A A' : HProp} {l l' : List HProp} {h : Hp} (hA : ∀ h, A h → A' h) (hl : ∀ h, sepL l h → sepL l' h) (k : sepL (A :: l) h) : sepL (A' :: l') h := by
  obtain ⟨h1, h2, hd, l1, l2, a, r⟩ := k
  exact ⟨h1, h2, hd, l1, l2, hA _ a, hl _ r⟩
theorem sepL_perm {l l' : List HProp} (p : l.Perm l') : ∀ h, sepL l h → sepL l' h := by
  induction p with
  | nil => exact fun _ h => h
  | cons A _ ih => exact fun h k => sepL_cons (fun _ a => a) ih k
  | swap A B l => exact fun h k => sepL_swap k
  | trans _ _ ih1 ih2 => exact fun h k => ih2 h (ih1 h k)
theorem sepL_drop {A : HProp} {l : List HProp} {h : Hp} (k : sepL (A :: l) h) : sepL l h := by
  obtain ⟨h1, h2, _, _, l2, _, r⟩ := k
  exact sepL_mono l2 r
/-- two lists in one -/
theorem sepL_append : ∀ (l r : List HProp) (h : Hp), sepL (l ++ r) h ↔ ∃ h1 h2, Hp.disj h1 h2 ∧ Hp.le h1 h ∧ Hp.le h2 h ∧ sepL l h1 ∧ sepL r h2
  | [], r, h => ⟨fun k => ⟨fun _ => none, h, fun _ => .inl rfl, (fun _ _ e => by cases e), Hp.le_refl h, trivial, k⟩, fun ⟨_, _, _, _, l2, _, k⟩ => sepL_mono l2 k⟩
  | A :: l, r, h => by
    constructor
    · rintro ⟨h1, h2, hd, l1, l2, hA, k⟩
      obtain ⟨h3, h4, hd', l3, l4, k1, k2⟩ := (sepL_append l r h2).1 k
      let h5 : Hp := fun i => match h1 i with | some o => some o | none => h3 i
      refine ⟨h5, h4, ?_, ?_, Hp.le_trans l4 l2, ⟨h1, h3, ?_, ?_, ?_, hA, k1⟩, k2⟩
      · intro i
        cases e4 : h4 i with
        | none => exact .inr rfl
        | some o =>
          refine .inl ?_
          have a1 : h1 i = none := by
            rcases hd i with a | a
            · exact a
            · rw [l4 i o e4] at a; cases a
          have a3 : h3 i = none := by
            rcases hd' i with a | a
            · exact a
            · rw [e4] at a; cases a
          simp [h5, a1, a3]
      · intro i o e
        simp only [h5] at e
        cases e1 : h1 i with
        | none => rw [e1] at e; exact l2 i o (l3 i o e)
        | some o' => rw [e1] at e; cases e; exact l1 i _ e1
      · intro i
        rcases hd i with a | a
        · exact .inl a
        · refine .inr ?_
          cases e3 : h3 i with
          | none => rfl
          | some o => rw [l3 i o e3] at a; cases a
      · intro i o e; simp [h5, e]
      · intro i o e
        simp only [h5]
        rcases hd i with a | a
        · rw [a]; exact e
        · rw [l3 i o e] at a; cases a
    · rintro ⟨h1, h2, hd, l1, l2, ⟨h3, h4, hd', l3, l4, hA, k1⟩, k2⟩
      let h5 : Hp := fun i => match h4 i with | some o => some o | none => h2 i
      refine ⟨h3, h5, ?_, Hp.le_trans l3 l1, ?_, hA, (sepL_append l r h5).2 ⟨h4, h2, ?_, ?_, ?_, k1, k2⟩⟩
      · intro i
        cases e3 : h3 i with
        | none => exact .inl rfl
        | some o =>
          refine .inr ?_
          have a4 : h4 i = none := by
            rcases hd' i with a | a
            · rw [e3] at a; cases a
            · exact a
          have a2 : h2 i = none := by
            rcases hd i with a | a
            · rw [l3 i o e3] at a; cases a
            · exact a
          simp [h5, a2, a4]
      · intro i o e
        simp only [h5] at e
        cases e4 : h4 i with
        | none => rw [e4] at e; exact l2 i o e
        | some o' => rw [e4] at e; cases e; exact l1 i _ (l4 i _ e4)
      · intro i
        rcases hd i with a | a
        · refine .inl ?_
          cases e4 : h4 i with
          | none => rfl
          | some o => rw [l4 i o e4] at a; cases a
        · exact .inr a
      · intro i o e; simp [h5, e]
      · intro i o e
        simp only [h5]
        rcases hd i with a | a
        · cases e4 : h4 i with
          | none => exact e
          | some o' => rw [l4 i _ e4] at a; cases a
        · rw [e] at a; cases a
theorem sepL_grp {l r : List HProp} {h : Hp} : sepL (sepL l :: r) h ↔ sepL (l ++ r) h := by
  rw [sepL_append]; rfl

/-! parts -/
/-- a block of cells that nobody froze -/
def pt (b : Nat) (l : List Value) : HProp := fun h => ∃ T fr, h b = some (.cells l.toArray T fr) ∧ ∀ i, i < l.length → i < fr.1 ∨ (fr.2 ≤ i ∧ fr.1 ≤ fr.2)
/-- a block just made -/
def p0 (b : Nat) (l : List Value) : HProp := fun h => ∃ T, h b = some (.cells l.toArray T)
/-- any object -/
def ob (b : Nat) (o : Obj) : HProp := fun h => h b = some o
def pur (φ : Prop) : HProp := fun _ => φ
def exs {α : Type} (A : α → HProp) : HProp := fun h => ∃ x, A x h

/-! worlds -/
structure Env where
  os : Os
  tape : Nat → Question → Nat
  output : Array (Nat × ByteArray)
structure Sat (e : Env) (R : HProp) (w : World) : Prop where
  os : w.os = e.os
  tape : w.tape = e.tape
  output : w.output = e.output
  heap : R (hpOf w)
def Ent (e : Env) (ctx : List HProp) (c : WP) : Prop := ∀ w, Sat e (sepL ctx) w → c w
def Imp (ctx ctx' : List HProp) : Prop := ∀ h, sepL ctx h → sepL ctx' h

section
variable {e : Env} {ctx ctx' : List HProp} {c : WP}
theorem Sat.imp {A B : HProp} {w : World} (h : Sat e A w) (hi : ∀ h, A h → B h) : Sat e B w := ⟨h.os, h.tape, h.output, hi _ h.heap⟩
theorem Ent.imp (hi : Imp ctx ctx') (h : Ent e ctx' c) : Ent e ctx c := fun w hw => h w (hw.imp hi)
theorem Ent.perm (p : ctx.Perm ctx') (h : Ent e ctx' c) : Ent e ctx c := h.imp (sepL_perm p)
theorem Ent.drop {A : HProp} (h : Ent e ctx c) : Ent e (A :: ctx) c := h.imp fun _ => sepL_drop
theorem Ent.pur {φ : Prop} (h : φ → Ent e ctx c) : Ent e (pur φ :: ctx) c := fun w hw => by
  obtain ⟨h1, h2, _, _, l2, hp, r⟩ := hw.heap
  exact h hp w ⟨hw.os, hw.tape, hw.output, sepL_mono l2 r⟩
theorem Ent.exs {α : Type} {A : α → HProp} (h : ∀ x, Ent e (A x :: ctx) c) : Ent e (exs A :: ctx) c := fun w hw => by
  obtain ⟨h1, h2, hd, l1, l2, ⟨x, hp⟩, r⟩ := hw.heap
  exact h x w ⟨hw.os, hw.tape, hw.output, h1, h2, hd, l1, l2, hp, r⟩
theorem Ent.grp {l : List HProp} (h : Ent e (l ++ ctx) c) : Ent e (sepL l :: ctx) c := h.imp fun _ => sepL_grp.1
theorem Ent.ungrp {l : List HProp} (h : Ent e (sepL l :: ctx) c) : Ent e (l ++ ctx) c := h.imp fun _ => sepL_grp.2
/-- opening the first part -/
theorem Ent.open {A : HProp} {l : List HProp} (hA : ∀ h, A h → sepL l h) (h : Ent e (l ++ ctx) c) : Ent e (A :: ctx) c :=
  (Ent.grp h).imp fun _ k => sepL_cons hA (fun _ x => x) k
/-- folding the first parts -/
theorem Ent.fold {A : HProp} {l : List HProp} (hA : ∀ h, sepL l h → A h) (h : Ent e (A :: ctx) c) : Ent e (l ++ ctx) c :=
  (h.imp fun _ k => sepL_cons hA (fun _ x => x) k).ungrp
theorem Imp.refl (l : List HProp) : Imp l l := fun _ h => h
theorem Imp.trans {a b c : List HProp} (h : Imp a b) (k : Imp b c) : Imp a c := fun x y => k x (h x y)
theorem Imp.drop {A : HProp} {l l' : List HProp} (h : Imp l l') : Imp (A :: l) l' := fun _ k => h _ (sepL_drop k)
theorem Imp.cons {A : HProp} {l l' : List HProp} (h : Imp l l') : Imp (A :: l) (A :: l') := fun _ k => sepL_cons (fun _ a => a) h k
theorem Imp.perm {l l' : List HProp} (h : l.Perm l') : Imp l l' := sepL_perm h
theorem Imp.nil (l : List HProp) : Imp l [] := fun _ _ => trivial
theorem Imp.pur {φ : Prop} {l l' : List HProp} (hp : φ) (h : Imp l l') : Imp l (Sl.pur φ :: l') := fun x k =>
  ⟨fun _ => none, x, fun _ => .inl rfl, (fun _ _ e => by cases e), Hp.le_refl x, hp, h x k⟩

theorem Imp.exs {α : Type} {A : α → HProp} {l l' : List HProp} (x : α) (h : Imp l (A x :: l')) : Imp l (Sl.exs A :: l') := fun y k => sepL_cons (fun _ a => ⟨x, a⟩) (fun _ z => z) (h y k)
theorem Imp.grp {l r m : List HProp} (h : Imp m (l ++ r)) : Imp m (sepL l :: r) := fun y k => sepL_grp.2 (h y k)
theorem Imp.fold {A : HProp} {l r m : List HProp} (hA : ∀ h, sepL l h → A h) (h : Imp m (l ++ r)) : Imp m (A :: r) := fun y k => sepL_cons hA (fun _ z => z) (sepL_grp.2 (h y k))

theorem Ent.g1 {A0 : HProp} (h : Ent e (A0 :: ctx) c) : Ent e (sepL [A0] :: ctx) c := Ent.grp (l := [A0]) h
theorem Imp.g1 {A0 : HProp} {l r : List HProp} (h : Imp l (A0 :: r)) : Imp l (sepL [A0] :: r) := fun y k => (sepL_grp (l := [A0])).2 (h y k)
theorem Ent.g2 {A0 A1 : HProp} (h : Ent e (A0 :: A1 :: ctx) c) : Ent e (sepL [A0, A1] :: ctx) c := Ent.grp (l := [A0, A1]) h
theorem Imp.g2 {A0 A1 : HProp} {l r : List HProp} (h : Imp l (A0 :: A1 :: r)) : Imp l (sepL [A0, A1] :: r) := fun y k => (sepL_grp (l := [A0, A1])).2 (h y k)
theorem Ent.g3 {A0 A1 A2 : HProp} (h : Ent e (A0 :: A1 :: A2 :: ctx) c) : Ent e (sepL [A0, A1, A2] :: ctx) c := Ent.grp (l := [A0, A1, A2]) h
theorem Imp.g3 {A0 A1 A2 : HProp} {l r : List HProp} (h : Imp l (A0 :: A1 :: A2 :: r)) : Imp l (sepL [A0, A1, A2] :: r) := fun y k => (sepL_grp (l := [A0, A1, A2])).2 (h y k)
theorem Ent.g4 {A0 A1 A2 A3 : HProp} (h : Ent e (A0 :: A1 :: A2 :: A3 :: ctx) c) : Ent e (sepL [A0, A1, A2, A3] :: ctx) c := Ent.grp (l := [A0, A1, A2, A3]) h
theorem Imp.g4 {A0 A1 A2 A3 : HProp} {l r : List HProp} (h : Imp l (A0 :: A1 :: A2 :: A3 :: r)) : Imp l (sepL [A0, A1, A2, A3] :: r) := fun y k => (sepL_grp (l := [A0, A1, A2, A3])).2 (h y k)
theorem Ent.g5 {A0 A1 A2 A3 A4 : HProp} (h : Ent e (A0 :: A1 :: A2 :: A3 :: A4 :: ctx) c) : Ent e (sepL [A0, A1, A2, A3, A4] :: ctx) c := Ent.grp (l := [A0, A1, A2, A3, A4]) h
theorem Imp.g5 {A0 A1 A2 A3 A4 : HProp} {l r : List HProp} (h : Imp l (A0 :: A1 :: A2 :: A3 :: A4 :: r)) : Imp l (sepL [A0, A1, A2, A3, A4] :: r) := fun y k => (sepL_grp (l := [A0, A1, A2, A3, A4])).2 (h y k)
theorem Ent.g6 {A0 A1 A2 A3 A4 A5 : HProp} (h : Ent e (A0 :: A1 :: A2 :: A3 :: A4 :: A5 :: ctx) c) : Ent e (sepL [A0, A1, A2, A3, A4, A5] :: ctx) c := Ent.grp (l := [A0, A1, A2, A3, A4, A5]) h
theorem Imp.g6 {A0 A1 A2 A3 A4 A5 : HProp} {l r : List HProp} (h : Imp l (A0 :: A1 :: A2 :: A3 :: A4 :: A5 :: r)) : Imp l (sepL [A0, A1, A2, A3, A4, A5] :: r) := fun y k => (sepL_grp (l := [A0, A1, A2, A3, A4, A5])).2 (h y k)
theorem Ent.g7 {A0 A1 A2 A3 A4 A5 A6 : HProp} (h : Ent e (A0 :: A1 :: A2 :: A3 :: A4 :: A5 :: A6 :: ctx) c) : Ent e (sepL [A0, A1, A2, A3, A4, A5, A6] :: ctx) c := Ent.grp (l := [A0, A1, A2, A3, A4, A5, A6]) h
theorem Imp.g7 {A0 A1 A2 A3 A4 A5 A6 : HProp} {l r : List HProp} (h : Imp l (A0 :: A1 :: A2 :: A3 :: A4 :: A5 :: A6 :: r)) : Imp l (sepL [A0, A1, A2, A3, A4, A5, A6] :: r) := fun y k => (sepL_grp (l := [A0, A1, A2, A3, A4, A5, A6])).2 (h y k)
theorem Ent.g8 {A0 A1 A2 A3 A4 A5 A6 A7 : HProp} (h : Ent e (A0 :: A1 :: A2 :: A3 :: A4 :: A5 :: A6 :: A7 :: ctx) c) : Ent e (sepL [A0, A1, A2, A3, A4, A5, A6, A7] :: ctx) c := Ent.grp (l := [A0, A1, A2, A3, A4, A5, A6, A7]) h
theorem Imp.g8 {A0 A1 A2 A3 A4 A5 A6 A7 : HProp} {l r : List HProp} (h : Imp l (A0 :: A1 :: A2 :: A3 :: A4 :: A5 :: A6 :: A7 :: r)) : Imp l (sepL [A0, A1, A2, A3, A4, A5, A6, A7] :: r) := fun y k => (sepL_grp (l := [A0, A1, A2, A3, A4, A5, A6, A7])).2 (h y k)
theorem Ent.g9 {A0 A1 A2 A3 A4 A5 A6 A7 A8 : HProp} (h : Ent e (A0 :: A1 :: A2 :: A3 :: A4 :: A5 :: A6 :: A7 :: A8 :: ctx) c) : Ent e (sepL [A0, A1, A2, A3, A4, A5, A6, A7, A8] :: ctx) c := Ent.grp (l := [A0, A1, A2, A3, A4, A5, A6, A7, A8]) h
theorem Imp.g9 {A0 A1 A2 A3 A4 A5 A6 A7 A8 : HProp} {l r : List HProp} (h : Imp l (A0 :: A1 :: A2 :: A3 :: A4 :: A5 :: A6 :: A7 :: A8 :: r)) : Imp l (sepL [A0, A1, A2, A3, A4, A5, A6, A7, A8] :: r) := fun y k => (sepL_grp (l := [A0, A1, A2, A3, A4, A5, A6, A7, A8])).2 (h y k)
theorem Ent.g10 {A0 A1 A2 A3 A4 A5 A6 A7 A8 A9 : HProp} (h : Ent e (A0 :: A1 :: A2 :: A3 :: A4 :: A5 :: A6 :: A7 :: A8 :: A9 :: ctx) c) : Ent e (sepL [A0, A1, A2, A3, A4, A5, A6, A7, A8, A9] :: ctx) c := Ent.grp (l := [A0, A1, A2, A3, A4, A5, A6, A7, A8, A9]) h
theorem Imp.g10 {A0 A1 A2 A3 A4 A5 A6 A7 A8 A9 : HProp} {l r : List HProp} (h : Imp l (A0 :: A1 :: A2 :: A3 :: A4 :: A5 :: A6 :: A7 :: A8 :: A9 :: r)) : Imp l (sepL [A0, A1, A2, A3, A4, A5, A6, A7, A8, A9] :: r) := fun y k => (sepL_grp (l := [A0, A1, A2, A3, A4, A5, A6, A7, A8, A9])).2 (h y k)

/-! finding a part -/
/-- 'A' is among the parts -/
inductive Has : List HProp → HProp → Prop
  | hd {A : HProp} {l : List HProp} : Has (A :: l) A
  | tl {A B : HProp} {l : List HProp} : Has l A → Has (B :: l) A
/-- 'l' is 'A' and 'r' -/
inductive Pick : List HProp → HProp → List HProp → Prop
  | hd {A : HProp} {l : List HProp} : Pick (A :: l) A l
  | tl {A B : HProp} {l r : List HProp} : Pick l A r → Pick (B :: l) A (B :: r)
/-- 'l' with 'B' in the place of 'A' -/
inductive Upd : List HProp → HProp → HProp → List HProp → Prop
  | hd {A B : HProp} {l : List HProp} : Upd (A :: l) A B (B :: l)
  | tl {A B C : HProp} {l r : List HProp} : Upd l A B r → Upd (C :: l) A B (C :: r)
theorem Pick.perm {l : List HProp} {A : HProp} {r : List HProp} (h : Pick l A r) : l.Perm (A :: r) := by
  induction h with
  | hd => exact .refl _
  | tl _ ih => exact (ih.cons _).trans (.swap _ _ _)
theorem Has.pick {l : List HProp} {A : HProp} (h : Has l A) : ∃ r, Pick l A r := by
  induction h with
  | hd => exact ⟨_, .hd⟩
  | tl _ ih => obtain ⟨r, hr⟩ := ih; exact ⟨_, .tl hr⟩
theorem Upd.pick {l : List HProp} {A B : HProp} {r : List HProp} (h : Upd l A B r) : ∃ s, Pick l A s ∧ r.Perm (B :: s) := by
  induction h with
  | hd => exact ⟨_, .hd, .refl _⟩
  | tl _ ih => obtain ⟨s, h1, h2⟩ := ih; exact ⟨_, .tl h1, (h2.cons _).trans (.swap _ _ _)⟩
theorem Ent.pick {A : HProp} (hp : Pick ctx A ctx') (h : Ent e (A :: ctx') c) : Ent e ctx c := h.perm hp.perm
theorem Imp.pick {A : HProp} {l r : List HProp} {l' : List HProp} (hp : Pick l A r) (h : Imp r l') : Imp l (A :: l') := (Imp.perm hp.perm).trans h.cons
theorem Has.at_ {A : HProp} {w : World} (hh : Has ctx A) (hs : Sat e (sepL ctx) w) : ∃ h, Hp.le h (hpOf w) ∧ A h := by
  obtain ⟨r, hr⟩ := hh.pick
  obtain ⟨h1, _, _, l1, _, hA, _⟩ := sepL_perm hr.perm _ hs.heap
  exact ⟨h1, l1, hA⟩
theorem Has.pt {b : Nat} {l : List Value} {w : World} (hh : Has ctx (pt b l)) (hs : Sat e (sepL ctx) w) :
    ∃ T fr, w.heap[b]? = some (.cells l.toArray T fr) ∧ ∀ i, i < l.length → ¬ (fr.1 ≤ i ∧ i < fr.2) := by
  obtain ⟨h, hl, T, fr, hb, hf⟩ := hh.at_ hs
  exact ⟨T, fr, hl _ _ hb, fun i hi => by have := hf i hi; omega⟩
theorem Has.ob {b : Nat} {o : Obj} {w : World} (hh : Has ctx (ob b o)) (hs : Sat e (sepL ctx) w) : w.heap[b]? = some o := by
  obtain ⟨h, hl, hb⟩ := hh.at_ hs
  exact hl _ _ hb

/-! what becomes of a world -/
theorem Sat.drawn {R : HProp} {w : World} (h : Sat e R w) (n : Nat) : Sat e R { w with drawn := n } := ⟨h.os, h.tape, h.output, h.heap⟩
theorem Sat.alloc {w : World} (h : Sat e (sepL ctx) w) (o : Obj) : Sat e (sepL (Sl.ob w.heap.size o :: ctx)) (w.alloc o) := by
  refine ⟨h.os, h.tape, h.output, fun i => if i = w.heap.size then some o else none, hpOf w, ?_, ?_, ?_, by simp [Sl.ob], h.heap⟩
  · intro i
    by_cases hi : i = w.heap.size
    · subst hi; exact .inr (by simp [hpOf])
    · exact .inl (by simp [hi])
  · intro i o' ho
    by_cases hi : i = w.heap.size
    · subst hi; simp only [if_true] at ho; cases ho; show (w.heap.push o)[w.heap.size]? = some o; simp
    · simp [hi] at ho
  · intro i o' ho
    have hlt : i < w.heap.size := (Array.getElem?_eq_some_iff.1 ho).1
    show (w.heap.push o)[i]? = some o'
    rw [Array.getElem?_push, if_neg (by omega)]; exact ho
theorem ob_pt {b : Nat} {l : List Value} {T : TypeId} (h : Hp) (k : Sl.ob b (.cells l.toArray T) h) : Sl.pt b l h := ⟨T, (0, 0), k, fun _ _ => .inr ⟨Nat.zero_le _, Nat.le_refl _⟩⟩
theorem Sat.new {w : World} (h : Sat e (sepL ctx) w) (l : List Value) (T : TypeId) : Sat e (sepL (Sl.pt w.heap.size l :: ctx)) (w.alloc (.cells l.toArray T)) :=
  (h.alloc _).imp fun _ k => sepL_cons ob_pt (fun _ x => x) k
theorem p0_pt {b : Nat} {l : List Value} (h : Hp) (k : Sl.p0 b l h) : Sl.pt b l h := by
  obtain ⟨T, k⟩ := k
  exact ob_pt h k
theorem Sat.new0 {w : World} (h : Sat e (sepL ctx) w) (l : List Value) (T : TypeId) : Sat e (sepL (Sl.p0 w.heap.size l :: ctx)) (w.alloc (.cells l.toArray T)) :=
  (h.alloc _).imp fun _ k => sepL_cons (fun _ k => ⟨T, k⟩) (fun _ x => x) k
/-- one block turns -/
theorem Sat.turn {A B : HProp} {w w' : World} {b : Nat} {o o' : Obj} (h : Sat e (sepL (A :: ctx)) w) (hA : ∀ h, A h → h b = some o) (hB : ∀ h, h b = some o' → B h)
    (h1 : w'.os = w.os) (h2 : w'.tape = w.tape) (h3 : w'.output = w.output) (hb : w'.heap[b]? = some o') (hr : ∀ i, i ≠ b → w'.heap[i]? = w.heap[i]?) : Sat e (sepL (B :: ctx)) w' := by
  obtain ⟨g1, g2, hd, l1, l2, a, r⟩ := h.heap
  have hg := hA _ a
  refine ⟨h1.trans h.os, h2.trans h.tape, h3.trans h.output, fun i => if i = b then some o' else none, g2, ?_, ?_, ?_, hB _ (by simp), r⟩
  · intro i
    by_cases hi : i = b
    · subst hi
      refine .inr ?_
      rcases hd i with x | x
      · rw [hg] at x; cases x
      · exact x
    · exact .inl (by simp [hi])
  · intro i x hx
    by_cases hi : i = b
    · subst hi; simp only [if_true] at hx; cases hx; exact hb
    · simp [hi] at hx
  · intro i x hx
    have hi : i ≠ b := by
      intro e; subst e
      rcases hd i with y | y
      · rw [hg] at y; cases y
      · rw [hx] at y; cases y
    show w'.heap[i]? = some x
    rw [hr i hi]; exact l2 i x hx
theorem Sat.setRow {b : Nat} {l l' : List Value} {w : World} (hl : l'.length = l.length) (h : Sat e (sepL (Sl.pt b l :: ctx)) w) : Sat e (sepL (Sl.pt b l' :: ctx)) (w.setRow b l'.toArray) := by
  obtain ⟨T, fr, hb, hf⟩ := Has.pt .hd h
  obtain ⟨g1, g2, hd, l1, l2, ⟨T', fr', hb', hf'⟩, r⟩ := h.heap
  have := l1 _ _ hb'
  have he : hpOf w b = w.heap[b]? := rfl
  rw [he, hb] at this
  cases this
  exact Sat.turn (A := fun h => h b = some (.cells l.toArray T fr)) (w := w) ⟨h.os, h.tape, h.output, g1, g2, hd, l1, l2, hb', r⟩ (fun _ k => k)
    (fun _ k => ⟨T, fr, k, fun i hi => hf' i (hl ▸ hi)⟩) rfl rfl rfl (setRow_heap w b _ _ T fr hb) (fun i hi => setRow_other w b i _ hi)
end
end Go.Proofs.YtiabhghlhnnnjaaGreatDoor.Sl
