/-
  TEXTS OF ROWS (layer 31): Rows.
-/
import Derived.Test.YtoneapgooihajaaGreatDoorQm
set_option maxRecDepth 100000
set_option linter.unusedVariables false
set_option linter.unusedSectionVars false
set_option linter.unusedSimpArgs false
set_option maxHeartbeats 0
namespace Go.Proofs.YtoneapgooihajaaGreatDoor.Qa
open Go Sh Sl
open Go.RowKit
attribute [local irreducible] condK ArK NilK OpK FnK StK joinK loopK DrawK andK PuK NxK EnK vS uS bS callS invokeS
/-- what went out, and whose it is -/
abbrev Se := Int × Ou
abbrev sC (y : Se) : List Value := seC y.1 y.2
def scs (l : List Se) : List Value := (l.map fun y => sC y).flatten
@[simp] theorem scs_len (l : List Se) : (scs l).length = l.length * 7 := flat_len (fun y => sC y) 7 (fun _ => rfl) l
abbrev dS := Int × dO
def dSe (y : Se) : dS := (y.1, dOu y.2)
structure Rw where
  k : Int
  er : Int
  a : Option Addr
  c : Nat
  l : List Se
abbrev rwC (x : Rw) : List Value := [.int .i64 x.k, .int .i64 x.er, .slice x.a x.l.length x.c]
def rwcs (l : List Rw) : List Value := (l.map fun y => rwC y).flatten
@[simp] theorem rwcs_len (l : List Rw) : (rwcs l).length = l.length * 3 := flat_len (fun y => rwC y) 3 (fun _ => rfl) l
abbrev dR := Int × Int × List dS
def dRw (x : Rw) : dR := (x.k, x.er, x.l.map dSe)
structure RwR (ctx : List HProp) (x : Rw) : Prop where
  er : I64 x.er
  rd : Rd ctx x.a (scs x.l)
  l : ∀ y ∈ x.l, I64 y.1 ∧ OuR y.2 ∧ Rd ctx y.2.a (u8 y.2.d)
  n : x.l.length ≤ 1048576
theorem RwR.mono {ctx ctx' : List HProp} {x : Rw} (h : RwR ctx x) (hi : Imp ctx' ctx) : RwR ctx' x := ⟨h.er, h.rd.mono hi, fun y hy => ⟨(h.l y hy).1, (h.l y hy).2.1, (h.l y hy).2.2.mono hi⟩, h.n⟩
abbrev sL (d : dS) : Bs × Bool := ouT d.1 d.2
def sTx (l : List dS) : Bs := l.flatMap fun d => (sL d).1
theorem sTx_snoc (l : List dS) (d : dS) : sTx (l ++ [d]) = sTx l ++ (sL d).1 := by simp [sTx]
/-- a row's lines, and whether they may be written -/
def rwT (x : dR) : Bs × Bool :=
  if nameAt kindsL x.1 = [] ∨ (x.2.2 ≠ [] ∧ (x.1 ≠ 8 ∨ x.2.1 ≠ 0)) then ([], false)
  else if x.2.1 ≠ 0 then (joinB [nameAt kindsL x.1, [101, 114, 114, 111, 114], Lib.itoa x.2.1] ++ [10], true)
  else if x.2.2.all (fun d => (sL d).2) then (joinB [nameAt kindsL x.1, [111, 107]] ++ [10] ++ sTx x.2.2, true) else ([], false)
theorem sL_len {y : Se} (h1 : I64 y.1) (h2 : OuR y.2) : (sL (dSe y)).1.length ≤ 4195000 := by
  obtain ⟨t, x⟩ := y
  have hnl := gname_len x.k
  have l1 := itoa_len t h1
  have l2 := itoa_len x.s h2.s
  have l3 := itoa_len x.c h2.c
  have l4 := itoa_len x.p h2.p
  have l5 := (encs_len x.d).2
  have l6 := (encs_len x.h).2
  have l7 := q_len x.d
  have l8 := q_len x.h
  have l9 := h2.d
  have l10 := h2.h
  have hfst : (sL (dSe (t, x))).1 = (if x.k = 1 then joinB [[62], Lib.itoa t, nameAt goesL x.k, Lib.itoa x.s, q x.d] else if x.k = 2 then joinB [[62], Lib.itoa t, nameAt goesL x.k, Lib.itoa x.s]
      else if x.k = 3 then joinB [[62], Lib.itoa t, nameAt goesL x.k, Lib.itoa x.c, q x.h, Lib.itoa x.p] else if x.k = 4 then joinB [[62], Lib.itoa t, nameAt goesL x.k, Lib.itoa x.c, q x.d]
      else joinB [[62], Lib.itoa t, nameAt goesL x.k, Lib.itoa x.c]) ++ [10] := rfl
  rw [hfst]
  dsimp only at l9 l10 l2 l3 l4
  split
  · rw [joinB_5]; simp; omega
  · split
    · rw [joinB_4]; simp; omega
    · split
      · rw [joinB_6]; simp; omega
      · split
        · rw [joinB_5]; simp; omega
        · rw [joinB_4]; simp; omega
theorem sTx_len {l : List Se} (h : ∀ y ∈ l, I64 y.1 ∧ OuR y.2) : (sTx (l.map dSe)).length ≤ 4195000 * l.length := by
  induction l with
  | nil => simp [sTx]
  | cons x l ih =>
    have h1 := sL_len (h x (by simp)).1 (h x (by simp)).2
    have h2 := ih fun y hy => h y (by simp [hy])
    have e1 : sTx ((x :: l).map dSe) = (sL (dSe x)).1 ++ sTx (l.map dSe) := by simp [sTx]
    rw [e1, List.length_append, List.length_cons, Nat.mul_add]
    omega
section
variable {e : Env} {ctx rest R : List HProp} {M : Hp}
theorem rowtext_spec {K : ByteArray → Bool → WP} {x : Rw} (hx : RwR rest x) (hG : GL e rest) (h : Ent e rest (K (ba (rwT (dRw x)).1) (rwT (dRw x)).2)) : Ent e rest (shell_rowText (.agg (rwC x).toArray) K) := by
  have hnl := name_len x.k
  have l1 := itoa_len x.er hx.er
  have hn := hx.n
  (refine Ent.fn shell_rowText_ok ?_; unfold shell_rowText_sh)
  refine Ent.box' fun rb => ?_
  refine Ent.wfI ?_
  refine name_spec (S := kindsS) (L := kindsL) kinds_parted (by decide) (hG.mono (by (focus (repeat (first | exact Imp.refl _ | exact Imp.nil _ | apply Imp.drop))))) ?_
  rw [show (if 1 ≤ x.k ∧ x.k < (kindsL.length : Int) then kindsL.getD x.k.toNat [] else []) = nameAt kindsL x.k from rfl]
  have hml : (x.l.map dSe = []) ↔ x.l.length = 0 := by rw [List.map_eq_nil_iff, List.length_eq_zero_iff]
  unfold rwT dRw at h
  dsimp only at h
  refine Ent.join1 (kd := .bool) (fun v => pur (v = decide (nameAt kindsL x.k = [] ∨ (x.l.map dSe ≠ [] ∧ (x.k ≠ 8 ∨ x.er ≠ 0)))) :: pt rb (rwC x) :: rest) ?_ ?_
  rotate_left
  · intro j1 hj1
    refine Ent.woB ?_
    refine Ent.cond (fun hc => ?_) fun hc => ?_
    · have hnm : nameAt kindsL x.k = [] := by
        have h3 : ba (nameAt kindsL x.k) = (⟨#[]⟩ : ByteArray) := by simpa using hc
        simpa [ba] using congrArg (fun z : ByteArray => z.data.toList) h3
      refine (hj1 _).imp (Imp.pur ?_ (Imp.refl _))
      rw [decide_eq_true (.inl hnm)]
    · have hnm : nameAt kindsL x.k ≠ [] := fun hh => by rw [hh] at hc; simp at hc
      refine Ent.wfR ?_
      refine Ent.wlen ?_
      refine Ent.condD (fun hl => ?_) fun hl => ?_
      · refine Ent.wfI ?_
        refine Ent.condN (fun h8 => ?_) fun h8 => ?_
        · refine (hj1 _).imp (Imp.pur ?_ (Imp.refl _))
          rw [decide_eq_true (.inr ⟨fun hh => by have := hml.1 hh; omega, .inl h8⟩)]
        · refine Ent.wfI ?_
          refine (hj1 _).imp (Imp.pur ?_ (Imp.refl _))
          by_cases he : x.er = 0
          · rw [he, decide_eq_false (fun hh => hh.elim hnm fun h2 => h2.2.elim (fun h3 => h3 h8) fun h3 => h3 rfl)]
            rfl
          · rw [decide_eq_true (.inr ⟨fun hh => by have := hml.1 hh; omega, .inr he⟩)]
            exact bne_iff_ne.2 he
      · refine (hj1 _).imp (Imp.pur ?_ (Imp.refl _))
        rw [decide_eq_false (fun hh => hh.elim hnm fun h2 => h2.1 (hml.2 (by omega)))]
  intro v
  refine Ent.pur fun hv => ?_
  subst hv
  refine Ent.condD (fun hc => ?_) fun hc => ?_
  · rw [if_pos hc] at h
    exact h.drop
  rw [if_neg hc] at h
  refine Ent.wfI ?_
  refine Ent.condN (fun he => ?_) fun he => ?_
  · rw [if_pos he] at h
    refine Ent.wfI ?_
    refine num_spec hx.er (hG.mono (by (focus (repeat (first | exact Imp.refl _ | exact Imp.nil _ | apply Imp.drop))))) ?_
    refine Ent.slice (out := ss [nameAt kindsL x.k, [101, 114, 114, 111, 114], Lib.itoa x.er]) rfl rfl rfl rfl (by decide) (by decide) (by rfl) fun b2 => ?_
    refine line_spec (g := [nameAt kindsL x.k, [101, 114, 114, 111, 114], Lib.itoa x.er]) (by simp) (by simp) (by simp) (by rw [joinB_3]; simp; omega) ?_
    exact h.drop.drop
  rw [if_neg (by simpa using he)] at h
  refine bld_new fun b => ?_
  refine Ent.slice (out := ss [nameAt kindsL x.k, [111, 107]]) rfl rfl rfl rfl (by decide) (by decide) (by rfl) fun b2 => ?_
  refine line_spec (g := [nameAt kindsL x.k, [111, 107]]) (by simp) (by simp) (by simp) (by rw [joinB_2]; simp; omega) ?_
  refine Ent.bring (A := Bld b []) ?_
  obtain ⟨hd, hhd⟩ : ∃ hd, hd = joinB [nameAt kindsL x.k, [111, 107]] ++ [10] := ⟨_, rfl⟩
  have hhl : hd.length ≤ 100 := by rw [hhd, joinB_2]; simp; omega
  rw [← hhd] at h ⊢
  refine write_spec (by simp; omega) ?_
  rw [List.nil_append]
  refine Ent.wfR ?_
  refine Ent.wlen ?_
  refine Ent.rngL0 x.l.length (fun k => pur (∀ y ∈ x.l.take k, (sL (dSe y)).2 = true) :: Bld b (hd ++ sTx ((x.l.take k).map dSe)) :: rest) rfl ?_ ?_
  · refine Imp.pur (by simp) ?_
    rw [List.take_zero]
    show Imp _ (Bld b (hd ++ []) :: rest)
    rw [List.append_nil]
    (focus ((repeat ((with_reducible apply Imp.pick); (repeat (first | exact Pick.hd | apply Pick.tl)))); (repeat (first | exact Imp.refl _ | exact Imp.nil _ | apply Imp.drop)); done))
  intro k hk K' hK
  refine Ent.pur fun hok => ?_
  have hlen := sTx_len (l := x.l.take k) fun y hy => ⟨(hx.l y (List.mem_of_mem_take hy)).1, (hx.l y (List.mem_of_mem_take hy)).2.1⟩
  have hlt : (x.l.take k).length ≤ x.l.length := List.length_take_le' k x.l
  by_cases hl : k < x.l.length
  · obtain ⟨y, hy⟩ : ∃ y, x.l[k]? = some y := ⟨_, List.getElem?_eq_getElem hl⟩
    obtain ⟨y1, y2, y3⟩ := hx.l y (List.mem_of_getElem? hy)
    have hy' : x.l[(k : Int).toNat]? = some y := hy
    have hel := sL_len y1 y2
    refine Ent.wT ?_
    refine Ent.wiAr (f := sC) (xs := x.l) (y := y) (hx.rd.mono (by (focus (repeat (first | exact Imp.refl _ | exact Imp.nil _ | apply Imp.drop))))) ?_ rfl rfl rfl (by omega) (by omega) (fun _ => rfl) (by decide) hy'
    refine Ent.alloc' fun xb => ?_
    refine Ent.wstoA (l' := sC y) ?_ (vs := sC y) (hl := rfl) (hu := by (repeat (first | exact Upd.hd | apply Upd.tl)))
    refine Ent.wlA (cs := sC y) ?_
    refine outtext_spec (t := y.1) (x := y.2) y2 y1 (y3.mono (by (focus (repeat (first | exact Imp.refl _ | exact Imp.nil _ | apply Imp.drop))))) (hG.mono (by (focus (repeat (first | exact Imp.refl _ | exact Imp.nil _ | apply Imp.drop))))) ?_
    refine Ent.cond (fun hc => ?_) fun hc => ?_
    · have hno : (sL (dSe y)).2 = false := by
        have h9 : (ouT y.1 (dOu y.2)).2 = false := by simpa using hc
        exact h9
      have hall : (x.l.map dSe).all (fun d => (sL d).2) = false := by
        rw [List.all_eq_false]
        exact ⟨dSe y, List.mem_map.2 ⟨y, List.mem_of_getElem? hy, rfl⟩, by rw [hno]; decide⟩
      rw [hall] at h
      exact h.drop.drop
    · have hyes : (sL (dSe y)).2 = true := by
        have h9 : (ouT y.1 (dOu y.2)).2 = true := by simpa using hc
        exact h9
      refine Ent.bring (A := Bld b (hd ++ sTx ((x.l.take k).map dSe))) ?_
      refine write_spec (by have : (ouT y.1 (dOu y.2)).1.length ≤ 4195000 := hel; rw [List.length_append]; omega) ?_
      refine Ent.war ?_
      refine Ent.imp ?_ (hK hl)
      refine Imp.pur (fun z hz => ?_) ?_
      · rw [take_snoc hy] at hz
        rcases List.mem_append.1 hz with hz | hz
        · exact hok z hz
        · rw [List.mem_singleton.1 hz]; exact hyes
      · rw [take_snoc hy, List.map_append]
        show Imp _ (Bld b (hd ++ sTx ((x.l.take k).map dSe ++ [dSe y])) :: rest)
        rw [sTx_snoc, ← List.append_assoc]
        exact Imp.cons (Imp.drop (Imp.refl _))
  · have hke : k = x.l.length := by omega
    rw [hke, List.take_length] at hok hlen ⊢
    have hall : (x.l.map dSe).all (fun d => (sL d).2) = true := List.all_eq_true.2 fun d hd => by
      obtain ⟨y, hy, rfl⟩ := List.mem_map.1 hd
      exact hok y hy
    rw [hall] at h
    refine Ent.wF ?_
    refine string_spec (by rw [List.length_append]; omega) ?_
    exact h
/-- the lines of rows -/
def rwTx (l : List dR) : Bs := l.flatMap fun d => (rwT d).1
theorem rwTx_snoc (l : List dR) (d : dR) : rwTx (l ++ [d]) = rwTx l ++ (rwT d).1 := by simp [rwTx]
/-- what Rows answers -/
def rwText (l : List dR) : Bs × Int := if l.all (fun d => (rwT d).2) then (if (rwTx l).length > 131072 then ([], 3) else (rwTx l, 0)) else ([], 1)
theorem rows_spec {K : ByteArray → Int → WP} {xs : List Rw} {a : Option Addr} {c : Nat} (hn : xs.length ≤ 16777216) (hbig : ∀ k, (rwTx ((xs.take k).map dRw)).length ≤ 140737488355328) (hr : Rd rest a (rwcs xs)) (hxs : ∀ x ∈ xs, RwR rest x) (hG : GL e rest) (h : Ent e rest (K (ba (rwText (xs.map dRw)).1) (rwText (xs.map dRw)).2)) : Ent e rest (shell_Rows (.slice a xs.length c) K) := by
  (refine Ent.fn shell_Rows_ok ?_; unfold shell_Rows_sh)
  (refine Ent.fn shell_written_Row_ok ?_; unfold shell_written_Row_sh)
  refine bld_new fun b => ?_
  refine Ent.wlen ?_
  refine Ent.rngL0 xs.length (fun k => pur (∀ x ∈ xs.take k, (rwT (dRw x)).2 = true) :: Bld b (rwTx ((xs.take k).map dRw)) :: rest) rfl ?_ ?_
  · exact Imp.pur (by simp) (Imp.refl _)
  intro k hk K' hK
  refine Ent.pur fun hok => ?_
  have hlen := hbig k
  by_cases hl : k < xs.length
  · obtain ⟨x, hx⟩ : ∃ x, xs[k]? = some x := ⟨_, List.getElem?_eq_getElem hl⟩
    have hxm := hxs x (List.mem_of_getElem? hx)
    have hx' : xs[(k : Int).toNat]? = some x := hx
    have hlen2 := hbig (k + 1)
    refine Ent.wT ?_
    refine Ent.wiAr (f := rwC) (xs := xs) (y := x) (hr.mono (by (focus (repeat (first | exact Imp.refl _ | exact Imp.nil _ | apply Imp.drop))))) ?_ rfl rfl rfl (by omega) (by omega) (fun _ => rfl) (by decide) hx'
    refine Ent.alloc' fun xb => ?_
    refine Ent.wstoA (l' := rwC x) ?_ (vs := rwC x) (hl := rfl) (hu := by (repeat (first | exact Upd.hd | apply Upd.tl)))
    refine Ent.wlA (cs := rwC x) ?_
    refine Ent.callF (by rfl) ?_
    show Ent e _ (shell_rowText (.agg (rwC x).toArray) _)
    refine rowtext_spec (x := x) (hxm.mono (by (focus (repeat (first | exact Imp.refl _ | exact Imp.nil _ | apply Imp.drop))))) (hG.mono (by (focus (repeat (first | exact Imp.refl _ | exact Imp.nil _ | apply Imp.drop))))) ?_
    refine Ent.cond (fun hc => ?_) fun hc => ?_
    · have hno : (rwT (dRw x)).2 = false := by simpa using hc
      have hall : (xs.map dRw).all (fun d => (rwT d).2) = false := by
        rw [List.all_eq_false]
        exact ⟨dRw x, List.mem_map.2 ⟨x, List.mem_of_getElem? hx, rfl⟩, by rw [hno]; decide⟩
      unfold rwText at h
      rw [hall] at h
      exact h.drop.drop
    · have hyes : (rwT (dRw x)).2 = true := by simpa using hc
      rw [take_snoc hx, List.map_append] at hlen2
      have hlen3 : (rwTx ((xs.take k).map dRw ++ [dRw x])).length ≤ 140737488355328 := hlen2
      rw [rwTx_snoc, List.length_append] at hlen3
      refine Ent.bring (A := Bld b (rwTx ((xs.take k).map dRw))) ?_
      refine write_spec hlen3 ?_
      refine Ent.war ?_
      refine Ent.imp ?_ (hK hl)
      refine Imp.pur (fun y hy => ?_) ?_
      · rw [take_snoc hx] at hy
        rcases List.mem_append.1 hy with hy | hy
        · exact hok y hy
        · rw [List.mem_singleton.1 hy]; exact hyes
      · rw [take_snoc hx, List.map_append]
        show Imp _ (Bld b (rwTx ((xs.take k).map dRw ++ [dRw x])) :: rest)
        rw [rwTx_snoc]
        exact Imp.cons (Imp.drop (Imp.refl _))
  · have hke : k = xs.length := by omega
    rw [hke, List.take_length] at hok hlen ⊢
    have hall : (xs.map dRw).all (fun d => (rwT d).2) = true := List.all_eq_true.2 fun d hd => by
      obtain ⟨x, hx, rfl⟩ := List.mem_map.1 hd
      exact hok x hx
    unfold rwText at h
    rw [hall] at h
    refine Ent.wF ?_
    refine len_spec ?_
    refine Ent.condD (fun hc => ?_) fun hc => ?_
    · rw [if_pos (by rfl), if_pos (by omega)] at h
      exact h.drop
    · rw [if_pos (by rfl), if_neg (by omega)] at h
      refine string_spec (by omega) ?_
      exact h
end
end Go.Proofs.YtoneapgooihajaaGreatDoor.Qa
