/-
  THE EVALUATOR IS SOUND (first part: trees, lists, answers).
-/
import Derived.Test.YtiabhghlhnnnjaaGreatDoorEv
set_option linter.unusedVariables false
set_option maxRecDepth 100000
namespace Go.Proofs.YtiabhghlhnnnjaaGreatDoor.Ev
open Go Sh Sl
theorem Tr.get_lf {α : Type} (v : Option α) (n : Nat) : (Tr.lf v).get n = cnd (Nat.beq n 0) v none := rfl
theorem Tr.get_nd {α : Type} (l r : Tr α) (n : Nat) : (Tr.nd l r).get n = bif Nat.beq (n % 2) 0 then l.get (n / 2) else r.get (n / 2) := by
  show @Bool.rec (fun _ => Option α) (r.get (Nat.div n 2)) (l.get (Nat.div n 2)) (Nat.beq (Nat.mod n 2) 0) = _
  show _ = bif Nat.beq (Nat.mod n 2) 0 then l.get (Nat.div n 2) else r.get (Nat.div n 2)
  cases Nat.beq (Nat.mod n 2) 0 <;> rfl
theorem Tr.set_lf {α : Type} (a : α) (v : Option α) (n : Nat) : (Tr.lf v).set a n = cnd (Nat.beq n 0) (.lf (some a)) (.lf v) := rfl
theorem Tr.set_nd {α : Type} (a : α) (l r : Tr α) (n : Nat) : (Tr.nd l r).set a n = bif Nat.beq (n % 2) 0 then .nd (l.set a (n / 2)) r else .nd l (r.set a (n / 2)) := by
  show @Bool.rec (fun _ => Tr α) (.nd l (r.set a (Nat.div n 2))) (.nd (l.set a (Nat.div n 2)) r) (Nat.beq (Nat.mod n 2) 0) = _
  show _ = bif Nat.beq (Nat.mod n 2) 0 then Tr.nd (l.set a (Nat.div n 2)) r else Tr.nd l (r.set a (Nat.div n 2))
  cases Nat.beq (Nat.mod n 2) 0 <;> rfl
theorem Tr.get_set_same {α : Type} (a b : α) : ∀ (t : Tr α) (n : Nat), (t.set a n).get n = some b → b = a := by
  intro t
  induction t with
  | lf v =>
    intro n h
    rw [Tr.set_lf] at h
    cases hn : Nat.beq n 0 with
    | true => rw [hn] at h; rw [show cnd true (Tr.lf (some a)) (Tr.lf v) = Tr.lf (some a) from rfl, Tr.get_lf, hn] at h; exact (Option.some.inj h).symm
    | false => rw [hn] at h; rw [show cnd false (Tr.lf (some a)) (Tr.lf v) = Tr.lf v from rfl, Tr.get_lf, hn] at h; cases h
  | nd l r ihl ihr =>
    intro n h
    rw [Tr.set_nd] at h
    cases hn : Nat.beq (n % 2) 0 with
    | true => rw [hn, cond_true, Tr.get_nd, hn, cond_true] at h; exact ihl _ h
    | false => rw [hn, cond_false, Tr.get_nd, hn, cond_false] at h; exact ihr _ h
theorem Tr.get_set_other {α : Type} (a : α) : ∀ (t : Tr α) (n m : Nat), m ≠ n → (t.set a n).get m = t.get m := by
  intro t
  induction t with
  | lf v =>
    intro n m h
    rw [Tr.set_lf]
    cases hn : Nat.beq n 0 with
    | false => rfl
    | true =>
      have h0 : n = 0 := Nat.eq_of_beq_eq_true hn
      have hm : Nat.beq m 0 = false := by
        cases hm : Nat.beq m 0 with
        | false => rfl
        | true => exact absurd ((Nat.eq_of_beq_eq_true hm).trans h0.symm) h
      rw [show cnd true (Tr.lf (some a)) (Tr.lf v) = Tr.lf (some a) from rfl, Tr.get_lf, Tr.get_lf, hm]
      rfl
  | nd l r ihl ihr =>
    intro n m h
    rw [Tr.set_nd]
    cases hn : Nat.beq (n % 2) 0 with
    | true =>
      rw [cond_true, Tr.get_nd, Tr.get_nd]
      cases hm : Nat.beq (m % 2) 0 with
      | false => rfl
      | true =>
        rw [cond_true, cond_true]
        refine ihl _ _ fun e => h ?_
        have h1 := Nat.eq_of_beq_eq_true hn
        have h2 := Nat.eq_of_beq_eq_true hm
        omega
    | false =>
      rw [cond_false, Tr.get_nd, Tr.get_nd]
      cases hm : Nat.beq (m % 2) 0 with
      | true => rfl
      | false =>
        rw [cond_false, cond_false]
        refine ihr _ _ fun e => h ?_
        have h1 := Nat.ne_of_beq_eq_false hn
        have h2 := Nat.ne_of_beq_eq_false hm
        omega
theorem Tr.get_emp {α : Type} : ∀ (d n : Nat), (Tr.emp d : Tr α).get n = none
  | 0, n => by
    show cnd (Nat.beq n 0) none none = none
    cases Nat.beq n 0 <;> rfl
  | d + 1, n => by
    show (Tr.nd (Tr.emp d : Tr α) (Tr.emp d)).get n = none
    rw [Tr.get_nd]
    cases Nat.beq (n % 2) 0
    · exact Tr.get_emp d _
    · exact Tr.get_emp d _
theorem bd_ok {α β : Type} {x : Rs α} {f : α → Rs β} {r : β} (h : bd x f = .ok r) : ∃ a, x = .ok a ∧ f a = .ok r := by
  cases x with
  | ok a => exact ⟨a, rfl, h⟩
  | no w l => cases h
theorem bo_ok {α β : Type} {w : Nat} {x : Option α} {f : α → Rs β} {r : β} (h : bo w x f = .ok r) : ∃ a, x = some a ∧ f a = .ok r := by
  cases x with
  | some a => exact ⟨a, rfl, h⟩
  | none => cases h
theorem ob2_ok {α β : Type} {x : Option α} {f : α → Option β} {r : β} (h : ob2 x f = some r) : ∃ a, x = some a ∧ f a = some r := by
  cases x with
  | some a => exact ⟨a, rfl, h⟩
  | none => cases h
theorem cnd_true {α : Type} (x y : α) : cnd true x y = x := rfl
theorem cnd_false {α : Type} (x y : α) : cnd false x y = y := rfl
theorem cnd_some {α : Type} {b : Bool} {x : Option α} {r : α} (h : cnd b x none = some r) : b = true ∧ x = some r := by
  cases b with
  | true => exact ⟨rfl, h⟩
  | false => cases h
theorem cnd_ok {α : Type} {b : Bool} {x : Rs α} {w : Nat} {l : List Nat} {r : α} (h : cnd b x (.no w l) = .ok r) : b = true ∧ x = .ok r := by
  cases b with
  | true => exact ⟨rfl, h⟩
  | false => cases h
theorem nth_eq {α : Type} : ∀ (l : List α) (n : Nat), nth l n = l[n]?
  | [], n => rfl
  | x :: r, 0 => rfl
  | x :: r, n + 1 => by
    show cnd (Nat.beq (n + 1) 0) (some x) (nth r (n + 1 - 1)) = _
    rw [show Nat.beq (n + 1) 0 = false from rfl, cnd_false, Nat.add_sub_cancel, nth_eq r n]; rfl
theorem drp_eq {α : Type} : ∀ (l : List α) (n : Nat), drp l n = l.drop n
  | [], n => by cases n <;> rfl
  | x :: r, 0 => rfl
  | x :: r, n + 1 => by
    show cnd (Nat.beq (n + 1) 0) (x :: r) (drp r (n + 1 - 1)) = _
    rw [show Nat.beq (n + 1) 0 = false from rfl, cnd_false, Nat.add_sub_cancel, drp_eq r n]; rfl
theorem tke_eq {α : Type} : ∀ (l : List α) (n : Nat), tke l n = l.take n
  | [], n => by cases n <;> rfl
  | x :: r, 0 => rfl
  | x :: r, n + 1 => by
    show cnd (Nat.beq (n + 1) 0) [] (x :: tke r (n + 1 - 1)) = _
    rw [show Nat.beq (n + 1) 0 = false from rfl, cnd_false, Nat.add_sub_cancel, tke_eq r n]; rfl
theorem len_eq {α : Type} : ∀ (l : List α), len l = l.length
  | [] => rfl
  | x :: r => by show Nat.succ (len r) = _; rw [len_eq r]; rfl
theorem app_eq {α : Type} : ∀ (l r : List α), app l r = l ++ r
  | [], r => rfl
  | x :: l, r => by show x :: app l r = _; rw [app_eq l r]; rfl
theorem spl_eq {α : Type} (vs : List α) : ∀ (l : List α) (n : Nat), n + vs.length ≤ l.length → spl vs l n = l.take n ++ vs ++ l.drop (n + vs.length)
  | [], n, h => by
    have : n = 0 := by simp at h; omega
    subst this
    have : vs = [] := by cases vs with | nil => rfl | cons a b => simp at h
    subst this; rfl
  | x :: r, 0, h => by
    show cnd (Nat.beq 0 0) (app vs (drp (x :: r) (len vs))) (x :: spl vs r (0 - 1)) = _
    rw [show Nat.beq 0 0 = true from rfl, cnd_true, app_eq, drp_eq, len_eq]; simp
  | x :: r, n + 1, h => by
    show cnd (Nat.beq (n + 1) 0) (app vs (drp (x :: r) (len vs))) (x :: spl vs r (n + 1 - 1)) = _
    rw [show Nat.beq (n + 1) 0 = false from rfl, cnd_false, Nat.add_sub_cancel, spl_eq vs r n (by simp at h; omega), show n + 1 + vs.length = n + vs.length + 1 by omega]; rfl
end Go.Proofs.YtiabhghlhnnnjaaGreatDoor.Ev
