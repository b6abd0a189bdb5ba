/-
  LINES OF WHAT GOES OUT (layer 31): their texts.
-/
import Derived.Test.YtoneapgooihajaaGreatDoorQl
set_option maxRecDepth 100000
set_option linter.unusedVariables false
set_option linter.unusedSectionVars false
set_option linter.unusedSimpArgs false
set_option maxHeartbeats 0
namespace Go.Proofs.YtoneapgooihajaaGreatDoor.Qa
open Go Sh Sl
open Go.RowKit
attribute [local irreducible] condK ArK NilK OpK FnK StK joinK loopK DrawK andK PuK NxK EnK vS uS bS callS invokeS
/-- what goes out -/
structure Ou where
  k : Int
  s : Int
  c : Int
  a : Option Addr
  cp : Nat
  d : Bs
  h : Bs
  p : Int
abbrev ouC (x : Ou) : List Value := [.int .i64 x.k, .int .i64 x.s, .int .i64 x.c, .slice x.a x.d.length x.cp, .string (ba x.h), .int .i64 x.p]
abbrev I64 (n : Int) : Prop := -9223372036854775808 ≤ n ∧ n ≤ 9223372036854775807
structure OuR (x : Ou) : Prop where
  s : I64 x.s
  c : I64 x.c
  p : I64 x.p
  d : x.d.length ≤ 1048576
  h : x.h.length ≤ 1048576
abbrev dO := Int × Int × Int × Bs × Bs × Int
def dOu (x : Ou) : dO := (x.k, x.s, x.c, x.d, x.h, x.p)
/-- with nothing that its line does not tell -/
def bareD (x : dO) : dO := match x with
  | (k, s, c, d, h, p) => if k = 1 then (k, s, 0, d, [], 0) else if k = 2 then (k, s, 0, [], [], 0) else if k = 3 then (k, 0, c, [], h, p) else if k = 4 then (k, 0, c, d, [], 0) else (k, 0, c, [], [], 0)
/-- the line of what goes out, and whether it may be written -/
def ouT (t : Int) (x : dO) : Bs × Bool := match x with
  | (k, s, c, d, h, p) => ((if k = 1 then joinB [[62], Lib.itoa t, nameAt goesL k, Lib.itoa s, q d] else if k = 2 then joinB [[62], Lib.itoa t, nameAt goesL k, Lib.itoa s]
      else if k = 3 then joinB [[62], Lib.itoa t, nameAt goesL k, Lib.itoa c, q h, Lib.itoa p] else if k = 4 then joinB [[62], Lib.itoa t, nameAt goesL k, Lib.itoa c, q d]
      else joinB [[62], Lib.itoa t, nameAt goesL k, Lib.itoa c]) ++ [10], decide (nameAt goesL k ≠ []) && decide (bareD (k, s, c, d, h, p) = (k, s, c, d, h, p)))
theorem gname_len (k : Int) : (nameAt goesL k).length ≤ 10 := by
  unfold nameAt
  split
  · have hl : goesL.length = 6 := rfl
    have : ∀ i : Fin 6, (goesL.getD i.val []).length ≤ 10 := by decide
    exact this ⟨k.toNat, by omega⟩
  · simp
theorem joinB_5 (a b c d f : Bs) : joinB [a, b, c, d, f] = a ++ 32 :: (b ++ 32 :: (c ++ 32 :: (d ++ 32 :: f))) := by simp [joinB, Lib.join, List.intercalate]
theorem joinB_6 (a b c d f g : Bs) : joinB [a, b, c, d, f, g] = a ++ 32 :: (b ++ 32 :: (c ++ 32 :: (d ++ 32 :: (f ++ 32 :: g)))) := by simp [joinB, Lib.join, List.intercalate]
section
variable {e : Env} {ctx rest R : List HProp} {M : Hp}
theorem obytes {a : Option Addr} {c : Nat} {l : Bs} {K : ByteArray → WP} (hr : Rd ctx a (u8 l)) (h : Ent e ctx (K (ba l))) : Ent e ctx (oS (vS (convert 52 9 (.slice a l.length c))) K) :=
  Ent.opS (st_b2s (x := 5) hr rfl rfl rfl) h
theorem osame_spec {K : Bool → WP} {x y : Ou} (hx : Rd rest x.a (u8 x.d)) (hy : Rd rest y.a (u8 y.d)) (h : Ent e rest (K (decide (dOu x = dOu y)))) : Ent e rest (shell_same (.agg (ouC x).toArray) (.agg (ouC y).toArray) K) := by
  (refine Ent.fn shell_same_ok ?_; unfold shell_same_sh)
  refine Ent.box' fun b1 => ?_
  refine Ent.box' fun b2 => ?_
  have no : dOu x ≠ dOu y → Ent e (pt b2 (ouC y) :: pt b1 (ouC x) :: rest) (K false) := fun hn => by
    rw [decide_eq_false hn] at h
    exact h.drop.drop
  unfold dOu at no h
  refine Ent.wfI ?_
  refine Ent.wfI ?_
  refine Ent.condE (fun h1 => ?_) fun h1 => no fun hh => h1 (Prod.mk.inj hh).1
  refine Ent.wfI ?_
  refine Ent.wfI ?_
  refine Ent.condE (fun h2 => ?_) fun h2 => no fun hh => h2 (Prod.mk.inj (Prod.mk.inj hh).2).1
  refine Ent.wfI ?_
  refine Ent.wfI ?_
  refine Ent.condE (fun h3 => ?_) fun h3 => no fun hh => h3 (Prod.mk.inj (Prod.mk.inj (Prod.mk.inj hh).2).2).1
  refine Ent.wfS ?_
  refine Ent.wfS ?_
  refine Ent.woB ?_
  rw [ba_eqb]
  refine Ent.condD (fun h4 => ?_) fun h4 => no fun hh => h4 (Prod.mk.inj (Prod.mk.inj (Prod.mk.inj (Prod.mk.inj (Prod.mk.inj hh).2).2).2).2).1
  refine Ent.wfI ?_
  refine Ent.wfI ?_
  refine Ent.condE (fun h5 => ?_) fun h5 => no fun hh => h5 (Prod.mk.inj (Prod.mk.inj (Prod.mk.inj (Prod.mk.inj (Prod.mk.inj hh).2).2).2).2).2
  refine Ent.wfR ?_
  refine obytes (hx.mono (by (focus (repeat (first | exact Imp.refl _ | exact Imp.nil _ | apply Imp.drop))))) ?_
  refine Ent.wfR ?_
  refine obytes (hy.mono (by (focus (repeat (first | exact Imp.refl _ | exact Imp.nil _ | apply Imp.drop))))) ?_
  refine Ent.woB ?_
  rw [ba_eqb]
  have e1 : decide (x.d = y.d) = decide ((x.k, x.s, x.c, x.d, x.h, x.p) = (y.k, y.s, y.c, y.d, y.h, y.p)) := decide_eq_decide.2 (by rw [h1, h2, h3, h4, h5]; simp)
  rw [e1]
  exact h.drop.drop
theorem bare_spec {K : Value → WP} {x : Ou} (hx : Rd rest x.a (u8 x.d)) (h : ∀ y : Ou, dOu y = bareD (dOu x) → Rd rest y.a (u8 y.d) → Ent e rest (K (.agg (ouC y).toArray))) : Ent e rest (shell_bare (.agg (ouC x).toArray) K) := by
  (refine Ent.fn shell_bare_ok ?_; unfold shell_bare_sh)
  refine Ent.box' fun b1 => ?_
  refine Ent.alloc' fun t2 => ?_
  have fin : ∀ y : Ou, dOu y = bareD (dOu x) → Rd rest y.a (u8 y.d) → Ent e (pt t2 (ouC y) :: pt b1 (ouC x) :: rest) (RdK P (.one .raw) (vS (do loadVar 73 (← asAddr (ptr t2)))) fun u => K u) := fun y h1 h2 => by
    refine Ent.wrA ?_
    exact (h y h1 h2).drop.drop
  unfold dOu bareD at fin
  dsimp only at fin
  refine Ent.wfI ?_
  refine Ent.condE (fun h1 => ?_) fun h1 => ?_
  · (refine Ent.go ?_)
    exact fin ⟨x.k, x.s, 0, x.a, x.cp, x.d, [], 0⟩ (by rw [if_pos h1]) hx
  refine Ent.condE (fun h2 => ?_) fun h2 => ?_
  · (refine Ent.go ?_)
    exact fin ⟨x.k, x.s, 0, none, 0, [], [], 0⟩ (by rw [if_neg h1, if_pos h2]) rfl
  refine Ent.condE (fun h3 => ?_) fun h3 => ?_
  · (refine Ent.go ?_)
    exact fin ⟨x.k, 0, x.c, none, 0, [], x.h, x.p⟩ (by rw [if_neg h1, if_neg h2, if_pos h3]) rfl
  refine Ent.condE (fun h4 => ?_) fun h4 => ?_
  · (refine Ent.go ?_)
    exact fin ⟨x.k, 0, x.c, x.a, x.cp, x.d, [], 0⟩ (by rw [if_neg h1, if_neg h2, if_neg h3, if_pos h4]) hx
  · (refine Ent.go ?_)
    exact fin ⟨x.k, 0, x.c, none, 0, [], [], 0⟩ (by rw [if_neg h1, if_neg h2, if_neg h3, if_neg h4]) rfl
abbrev seC (t : Int) (x : Ou) : List Value := .int .i64 t :: ouC x
theorem outtext_spec {K : ByteArray → Bool → WP} {t : Int} {x : Ou} (hx : OuR x) (ht : I64 t) (hr : Rd rest x.a (u8 x.d)) (hG : GL e rest) (h : Ent e rest (K (ba (ouT t (dOu x)).1) (ouT t (dOu x)).2)) : Ent e rest (shell_outText (.agg (seC t x).toArray) K) := by
  have hnl := gname_len x.k
  have l1 := itoa_len t ht
  have l2 := itoa_len x.s hx.s
  have l3 := itoa_len x.c hx.c
  have l4 := itoa_len x.p hx.p
  have l5 := (encs_len x.d).2
  have l6 := (encs_len x.h).2
  have l7 := q_len x.d
  have l8 := q_len x.h
  have l9 := hx.d
  have l10 := hx.h
  (refine Ent.fn shell_outText_ok ?_; unfold shell_outText_sh)
  refine Ent.box' fun sb => ?_
  refine Ent.wfA (cs := ouC x) ?_
  refine Ent.alloc' fun ob => ?_
  refine Ent.wstoA (l' := ouC x) ?_ (vs := ouC x) (hl := rfl) (hu := by (repeat (first | exact Upd.hd | apply Upd.tl)))
  refine Ent.wfI ?_
  refine name_spec (S := goesS) (L := goesL) goes_parted (by decide) (hG.mono (by (focus (repeat (first | exact Imp.refl _ | exact Imp.nil _ | apply Imp.drop))))) ?_
  rw [show (if 1 ≤ x.k ∧ x.k < (goesL.length : Int) then goesL.getD x.k.toNat [] else []) = nameAt goesL x.k from rfl]
  refine Ent.join1 (kd := .bool) (fun v => pur (v = (ouT t (dOu x)).2) :: pt ob (ouC x) :: pt sb (seC t x) :: rest) ?_ ?_
  rotate_left
  · intro j1 hj1
    have hsnd : (ouT t (dOu x)).2 = (decide (nameAt goesL x.k ≠ []) && decide (bareD (dOu x) = dOu x)) := rfl
    rw [hsnd] at hj1
    refine Ent.draw [pt ob (ouC x)] (by (focus ((repeat ((with_reducible apply Imp.pick); (repeat (first | exact Pick.hd | apply Pick.tl)))); (repeat (first | exact Imp.refl _ | exact Imp.nil _ | apply Imp.drop)); done))) ?_
    refine Ent.puB st_neS ?_
    refine Ent.cond (fun hc => ?_) fun hc => ?_
    · have hn : nameAt goesL x.k ≠ [] := fun hh => by rw [hh] at hc; simp at hc
      refine Ent.stR (v := .agg (ouC x).toArray) (st_loadA (n := 6) (cs := ouC x) .hd rfl rfl rfl) ?_
      refine Ent.stR (v := .agg (ouC x).toArray) (st_loadA (n := 6) (cs := ouC x) .hd rfl rfl rfl) ?_
      refine bare_spec (hr.mono (by (focus (repeat (first | exact Imp.refl _ | exact Imp.nil _ | apply Imp.drop))))) fun y hy1 hy2 => ?_
      refine Ent.wand ?_
      refine osame_spec hy2 (hr.mono (by (focus (repeat (first | exact Imp.refl _ | exact Imp.nil _ | apply Imp.drop))))) ?_
      refine Ent.wand ?_
      refine (hj1 _).imp (Imp.pur ?_ (Imp.refl _))
      rw [hy1, decide_eq_true hn, Bool.true_and]
    · have hn : nameAt goesL x.k = [] := by
        have h3 : ba (nameAt goesL x.k) = (⟨#[]⟩ : ByteArray) := by simpa only [Bool.not_eq_false', decide_eq_true_eq] using hc
        simpa [ba] using congrArg (fun z : ByteArray => z.data.toList) h3
      refine (hj1 _).imp (Imp.pur ?_ (Imp.refl _))
      rw [decide_eq_false (fun hh => hh hn)]; rfl
  intro ok
  refine Ent.pur fun hok => ?_
  subst hok
  have fin : ∀ (g : Bs) (b2 : Nat) (G : List HProp), (ouT t (dOu x)).1 = g ++ [10] → Imp G rest → Ent e G (K (ba (g ++ [10])) (ouT t (dOu x)).2) := fun g b2 G h1 h2 => by
    rw [← h1]
    exact h.imp h2
  have hfst : (ouT t (dOu x)).1 = (if x.k = 1 then joinB [[62], Lib.itoa t, nameAt goesL x.k, Lib.itoa x.s, q x.d] else if x.k = 2 then joinB [[62], Lib.itoa t, nameAt goesL x.k, Lib.itoa x.s]
      else if x.k = 3 then joinB [[62], Lib.itoa t, nameAt goesL x.k, Lib.itoa x.c, q x.h, Lib.itoa x.p] else if x.k = 4 then joinB [[62], Lib.itoa t, nameAt goesL x.k, Lib.itoa x.c, q x.d]
      else joinB [[62], Lib.itoa t, nameAt goesL x.k, Lib.itoa x.c]) ++ [10] := rfl
  refine Ent.wfI ?_
  refine Ent.condE (fun h1 => ?_) fun h1 => ?_
  · rw [if_pos h1] at hfst
    refine Ent.draw [pt ob (ouC x), pt sb (seC t x)] (by (focus ((repeat ((with_reducible apply Imp.pick); (repeat (first | exact Pick.hd | apply Pick.tl)))); (repeat (first | exact Imp.refl _ | exact Imp.nil _ | apply Imp.drop)); done))) ?_
    (refine Ent.go ?_)
    refine num_spec ht (hG.mono (by (focus (repeat (first | exact Imp.refl _ | exact Imp.nil _ | apply Imp.drop))))) ?_
    refine Ent.wand ?_
    refine num_spec hx.s (hG.mono (by (focus (repeat (first | exact Imp.refl _ | exact Imp.nil _ | apply Imp.drop))))) ?_
    refine Ent.wand ?_
    refine quote_spec (b := x.d) (by omega) (hr.mono (by (focus (repeat (first | exact Imp.refl _ | exact Imp.nil _ | apply Imp.drop))))) ?_
    refine Ent.wand ?_
    refine Ent.slice (out := ss [[62], Lib.itoa t, nameAt goesL x.k, Lib.itoa x.s, q x.d]) rfl rfl rfl rfl (by decide) (by decide) (by rfl) fun b2 => ?_
    refine Ent.wand ?_
    refine line_spec (g := [[62], Lib.itoa t, nameAt goesL x.k, Lib.itoa x.s, q x.d]) (by simp) (by simp) (by simp) (by rw [joinB_5]; simp; omega) ?_
    refine Ent.wand ?_
    exact fin _ 0 _ hfst (by (focus (repeat (first | exact Imp.refl _ | exact Imp.nil _ | apply Imp.drop))))
  rw [if_neg h1] at hfst
  refine Ent.condE (fun h2 => ?_) fun h2 => ?_
  · rw [if_pos h2] at hfst
    refine Ent.draw [pt ob (ouC x), pt sb (seC t x)] (by (focus ((repeat ((with_reducible apply Imp.pick); (repeat (first | exact Pick.hd | apply Pick.tl)))); (repeat (first | exact Imp.refl _ | exact Imp.nil _ | apply Imp.drop)); done))) ?_
    (refine Ent.go ?_)
    refine num_spec ht (hG.mono (by (focus (repeat (first | exact Imp.refl _ | exact Imp.nil _ | apply Imp.drop))))) ?_
    refine Ent.wand ?_
    refine num_spec hx.s (hG.mono (by (focus (repeat (first | exact Imp.refl _ | exact Imp.nil _ | apply Imp.drop))))) ?_
    refine Ent.wand ?_
    refine Ent.slice (out := ss [[62], Lib.itoa t, nameAt goesL x.k, Lib.itoa x.s]) rfl rfl rfl rfl (by decide) (by decide) (by rfl) fun b2 => ?_
    refine Ent.wand ?_
    refine line_spec (g := [[62], Lib.itoa t, nameAt goesL x.k, Lib.itoa x.s]) (by simp) (by simp) (by simp) (by rw [joinB_4]; simp; omega) ?_
    refine Ent.wand ?_
    exact fin _ 0 _ hfst (by (focus (repeat (first | exact Imp.refl _ | exact Imp.nil _ | apply Imp.drop))))
  rw [if_neg h2] at hfst
  refine Ent.condE (fun h3 => ?_) fun h3 => ?_
  · rw [if_pos h3] at hfst
    refine Ent.draw [pt ob (ouC x), pt sb (seC t x)] (by (focus ((repeat ((with_reducible apply Imp.pick); (repeat (first | exact Pick.hd | apply Pick.tl)))); (repeat (first | exact Imp.refl _ | exact Imp.nil _ | apply Imp.drop)); done))) ?_
    (refine Ent.go ?_)
    refine Ent.and (fun w hw => ?_) ?_
    · refine (show Ent e _ _ from ?_) w hw
      refine num_spec ht (hG.mono (by (focus (repeat (first | exact Imp.refl _ | exact Imp.nil _ | apply Imp.drop))))) ?_
      refine Ent.wand ?_
      refine Ent.and (fun w hw => ?_) ?_
      · refine (show Ent e _ _ from ?_) w hw
        refine num_spec hx.c (hG.mono (by (focus (repeat (first | exact Imp.refl _ | exact Imp.nil _ | apply Imp.drop))))) ?_
        refine Ent.wand ?_
        refine Ent.s2b rfl rfl rfl (by omega) fun a3 c3 => ?_
        unfold BS
        refine Ent.rdS fun r1 _ => ?_
        refine Ent.wand ?_
        refine quote_spec (b := x.h) (by omega) (r1 _ .hd) ?_
        refine Ent.wand ?_
        refine num_spec hx.p (hG.mono (by (focus (repeat (first | exact Imp.refl _ | exact Imp.nil _ | apply Imp.drop))))) ?_
        refine Ent.wand ?_
        refine Ent.slice (out := ss [[62], Lib.itoa t, nameAt goesL x.k, Lib.itoa x.c, q x.h, Lib.itoa x.p]) rfl rfl rfl rfl (by decide) (by decide) (by rfl) fun b2 => ?_
        refine Ent.wand ?_
        refine line_spec (g := [[62], Lib.itoa t, nameAt goesL x.k, Lib.itoa x.c, q x.h, Lib.itoa x.p]) (by simp) (by simp) (by simp) (by rw [joinB_6]; simp; omega) ?_
        refine Ent.wand ?_
        exact fin _ 0 _ hfst (by (focus (repeat (first | exact Imp.refl _ | exact Imp.nil _ | apply Imp.drop))))
      · refine Ent.s2b rfl rfl rfl (by omega) fun a3 c3 => ?_
        unfold BS
        refine Ent.rdS fun r1 _ => ?_
        refine Ent.wand ?_
        refine num_spec hx.c (hG.mono (by (focus (repeat (first | exact Imp.refl _ | exact Imp.nil _ | apply Imp.drop))))) ?_
        refine Ent.wand ?_
        refine quote_spec (b := x.h) (by omega) (r1 _ .hd) ?_
        refine Ent.wand ?_
        refine num_spec hx.p (hG.mono (by (focus (repeat (first | exact Imp.refl _ | exact Imp.nil _ | apply Imp.drop))))) ?_
        refine Ent.wand ?_
        refine Ent.slice (out := ss [[62], Lib.itoa t, nameAt goesL x.k, Lib.itoa x.c, q x.h, Lib.itoa x.p]) rfl rfl rfl rfl (by decide) (by decide) (by rfl) fun b2 => ?_
        refine Ent.wand ?_
        refine line_spec (g := [[62], Lib.itoa t, nameAt goesL x.k, Lib.itoa x.c, q x.h, Lib.itoa x.p]) (by simp) (by simp) (by simp) (by rw [joinB_6]; simp; omega) ?_
        refine Ent.wand ?_
        exact fin _ 0 _ hfst (by (focus (repeat (first | exact Imp.refl _ | exact Imp.nil _ | apply Imp.drop))))
    · refine Ent.s2b rfl rfl rfl (by omega) fun a3 c3 => ?_
      unfold BS
      refine Ent.rdS fun r1 _ => ?_
      refine Ent.wand ?_
      refine num_spec ht (hG.mono (by (focus (repeat (first | exact Imp.refl _ | exact Imp.nil _ | apply Imp.drop))))) ?_
      refine Ent.wand ?_
      refine num_spec hx.c (hG.mono (by (focus (repeat (first | exact Imp.refl _ | exact Imp.nil _ | apply Imp.drop))))) ?_
      refine Ent.wand ?_
      refine quote_spec (b := x.h) (by omega) (r1 _ .hd) ?_
      refine Ent.wand ?_
      refine num_spec hx.p (hG.mono (by (focus (repeat (first | exact Imp.refl _ | exact Imp.nil _ | apply Imp.drop))))) ?_
      refine Ent.wand ?_
      refine Ent.slice (out := ss [[62], Lib.itoa t, nameAt goesL x.k, Lib.itoa x.c, q x.h, Lib.itoa x.p]) rfl rfl rfl rfl (by decide) (by decide) (by rfl) fun b2 => ?_
      refine Ent.wand ?_
      refine line_spec (g := [[62], Lib.itoa t, nameAt goesL x.k, Lib.itoa x.c, q x.h, Lib.itoa x.p]) (by simp) (by simp) (by simp) (by rw [joinB_6]; simp; omega) ?_
      refine Ent.wand ?_
      exact fin _ 0 _ hfst (by (focus (repeat (first | exact Imp.refl _ | exact Imp.nil _ | apply Imp.drop))))
  rw [if_neg h3] at hfst
  refine Ent.condE (fun h4 => ?_) fun h4 => ?_
  · rw [if_pos h4] at hfst
    refine Ent.draw [pt ob (ouC x), pt sb (seC t x)] (by (focus ((repeat ((with_reducible apply Imp.pick); (repeat (first | exact Pick.hd | apply Pick.tl)))); (repeat (first | exact Imp.refl _ | exact Imp.nil _ | apply Imp.drop)); done))) ?_
    (refine Ent.go ?_)
    refine num_spec ht (hG.mono (by (focus (repeat (first | exact Imp.refl _ | exact Imp.nil _ | apply Imp.drop))))) ?_
    refine Ent.wand ?_
    refine num_spec hx.c (hG.mono (by (focus (repeat (first | exact Imp.refl _ | exact Imp.nil _ | apply Imp.drop))))) ?_
    refine Ent.wand ?_
    refine quote_spec (b := x.d) (by omega) (hr.mono (by (focus (repeat (first | exact Imp.refl _ | exact Imp.nil _ | apply Imp.drop))))) ?_
    refine Ent.wand ?_
    refine Ent.slice (out := ss [[62], Lib.itoa t, nameAt goesL x.k, Lib.itoa x.c, q x.d]) rfl rfl rfl rfl (by decide) (by decide) (by rfl) fun b2 => ?_
    refine Ent.wand ?_
    refine line_spec (g := [[62], Lib.itoa t, nameAt goesL x.k, Lib.itoa x.c, q x.d]) (by simp) (by simp) (by simp) (by rw [joinB_5]; simp; omega) ?_
    refine Ent.wand ?_
    exact fin _ 0 _ hfst (by (focus (repeat (first | exact Imp.refl _ | exact Imp.nil _ | apply Imp.drop))))
  · rw [if_neg h4] at hfst
    refine Ent.draw [pt ob (ouC x), pt sb (seC t x)] (by (focus ((repeat ((with_reducible apply Imp.pick); (repeat (first | exact Pick.hd | apply Pick.tl)))); (repeat (first | exact Imp.refl _ | exact Imp.nil _ | apply Imp.drop)); done))) ?_
    (refine Ent.go ?_)
    refine num_spec ht (hG.mono (by (focus (repeat (first | exact Imp.refl _ | exact Imp.nil _ | apply Imp.drop))))) ?_
    refine Ent.wand ?_
    refine num_spec hx.c (hG.mono (by (focus (repeat (first | exact Imp.refl _ | exact Imp.nil _ | apply Imp.drop))))) ?_
    refine Ent.wand ?_
    refine Ent.slice (out := ss [[62], Lib.itoa t, nameAt goesL x.k, Lib.itoa x.c]) rfl rfl rfl rfl (by decide) (by decide) (by rfl) fun b2 => ?_
    refine Ent.wand ?_
    refine line_spec (g := [[62], Lib.itoa t, nameAt goesL x.k, Lib.itoa x.c]) (by simp) (by simp) (by simp) (by rw [joinB_4]; simp; omega) ?_
    refine Ent.wand ?_
    exact fin _ 0 _ hfst (by (focus (repeat (first | exact Imp.refl _ | exact Imp.nil _ | apply Imp.drop))))
end
end Go.Proofs.YtoneapgooihajaaGreatDoor.Qa
