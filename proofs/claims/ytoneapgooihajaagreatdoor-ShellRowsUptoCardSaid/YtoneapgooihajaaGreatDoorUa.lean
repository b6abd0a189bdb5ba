/-
  THE DOCUMENT's LINES (layer 31): numbers, names, an event's line, texts of events.
-/
import Derived.Test.YtoneapgooihajaaGreatDoorQp
set_option maxRecDepth 100000
set_option linter.unusedVariables false
set_option linter.unusedSectionVars false
set_option linter.unusedSimpArgs false
set_option maxHeartbeats 0
namespace Go.Proofs.YtoneapgooihajaaGreatDoor.Qa
open Go Sh Sl
open Go.RowKit
attribute [local irreducible] condK ArK NilK OpK FnK StK joinK loopK DrawK andK PuK NxK EnK vS uS bS callS invokeS
def dgt (u : Nat) : UInt8 := UInt8.ofNat (48 + u % 10)
theorem dgt_nat (u : Nat) : ((dgt u).toNat : Int) = 48 + ((u % 10 : Nat) : Int) := by
  have : (dgt u).toNat = 48 + u % 10 := by
    unfold dgt
    rw [UInt8.toNat_ofNat']
    omega
  rw [this]; push_cast; rfl
theorem dec_big {u : Nat} (h : ¬ u < 10) : Lib.decDigits u = Lib.decDigits (u / 10) ++ [dgt u] := by
  rw [Lib.decDigits, dif_neg h]; rfl
theorem dec_small {u : Nat} (h : u < 10) : Lib.decDigits u = [dgt u] := by
  rw [Lib.decDigits, dif_pos h]
  unfold dgt
  rw [Nat.mod_eq_of_lt h]
theorem dec_len (u : Nat) : 1 ≤ (Lib.decDigits u).length := by
  have := dec_ne u
  cases h : Lib.decDigits u with
  | nil => exact absurd h this
  | cons => simp
section
variable {e : Env} {ctx rest R : List HProp}
theorem st_buildA {t x n sz by_ : Nat} {z out : List Value} {ps : Array (Nat × Value)} (ht : dd t = some (.arr n x)) (hs : szof x = some (sz, by_)) (hz : zro t = some z) (hf : fillL (fun i : Nat => some (i * sz, sz)) z ps.toList = some out) :
    Pu (vS (Instr.build t ps)) (.agg out.toArray) := Still.of_run fun w => by
  obtain ⟨i, h4, h5, h6⟩ := szof_spec hs
  obtain ⟨i', v, g1, g2, g3⟩ := zro_spec hz
  have hff := fillL_fill _ _ _ _ hf
  have e1 : v.cells = z.toArray := by rw [← g3]
  simp only [Instr.build, Sem.run_bind, run_zero g1 g2, Result.andThen_ok, run_underlying (dd_arr ht), run_sizeOf' h4, h5, e1, hff]
  rfl
theorem one_byte {t k t2 : Nat} {c : UInt8} {n : Int} {K : ByteArray → WP} (hn : n = (c.toNat : Int)) (h : Ent e ctx (K (ba [c]))) :
    Ent e ctx (oR (vS (Instr.buildSlice 52 1 #[(0, (.int .u8 n))])) fun t15 => oS (vS (convert 52 9 t15)) fun t16 => K t16) := by
  subst hn
  refine Ent.slice (out := u8 [c]) (by_ := 1) rfl rfl rfl rfl (by decide) (by decide) (by rfl) fun b => ?_
  refine obytes (l := [c]) (Rd.pt .hd) ?_
  exact h.drop
theorem refnum_spec {K : ByteArray → WP} {n : Int} (hn : I64 n) (h : Ent e rest (K (ba (Lib.itoa n)))) : Ent e rest (ref31_Number n K) := by
  have hI : Lib.itoa n = if n < 0 then 45 :: Lib.decDigits n.natAbs else Lib.decDigits n.natAbs := by
    unfold Lib.itoa
    split
    · rfl
    · rw [show n.toNat = n.natAbs by omega]
  have hnl := itoa_len n hn
  obtain ⟨m, hm⟩ : ∃ m, m = n.natAbs := ⟨_, rfl⟩
  rw [← hm] at hI
  have hmb : m < 18446744073709551616 := by have := hn.1; have := hn.2; omega
  have hw : ∀ x : Int, IntKind.u64.wrap x = x % 18446744073709551616 := fun _ => rfl
  (refine Ent.fn ref31_Number_ok ?_; unfold ref31_Number_sh)
  refine Ent.opI (st_convw rfl rfl).still ?_
  refine Ent.join1 (kd := .int .u64) (fun u => pur (u = (m : Int)) :: rest) ?_ ?_
  rotate_left
  · intro j1 hj1
    refine Ent.condD (fun hneg => ?_) fun hpos => ?_
    · refine Ent.arw ?_
      refine (hj1 _).imp (Imp.pur ?_ (Imp.refl _))
      show ((0 - n % 18446744073709551616) % 18446744073709551616 : Int) = (m : Int)
      have := hn.1; have := hn.2
      omega
    · refine (hj1 _).imp (Imp.pur ?_ (Imp.refl _))
      show (n % 18446744073709551616 : Int) = (m : Int)
      have := hn.1; have := hn.2
      omega
  intro u
  refine Ent.pur fun hu => ?_
  subst hu
  have rem : ∀ {X Y : Operand} {t : TypeId} {C : Int → WP} {c2 : List HProp} {v : Nat}, Ent e c2 (C ((v % 10 : Nat) : Int)) → Ent e c2 (oI .u64 (bS .rem t X Y (.int .u64 (v : Int)) (.int .u64 10)) C) := fun {X Y t C c2 v} hC => by
    refine Ent.opI (st_rem (by decide)).still ?_
    rw [show Int.tmod (v : Int) 10 = ((v % 10 : Nat) : Int) by rw [Int.tmod_eq_emod_of_nonneg (by omega)]; omega]
    exact hC
  have conv : ∀ {C : Int → WP} {c2 : List HProp} {v : Nat}, Ent e c2 (C ((dgt v).toNat : Int)) → Ent e c2 (oI .u8 (vS (convert 135 5 (.int .u64 (48 + ((v % 10 : Nat) : Int))))) C) := fun {C c2 v} hC => by
    refine Ent.opI (st_conv rfl rfl (in_u8 (by omega) (by omega))).still ?_
    rw [← dgt_nat]; exact hC
  refine rem ?_
  refine Ent.war ?_ (in_u64 (by omega) (by omega))
  refine conv ?_
  refine one_byte (t := 0) (k := 0) (t2 := 0) rfl ?_
  refine Ent.loop2 (k0 := .int .u64) (k1 := .str) (fun N (u : Int) (s : ByteArray) => (exs fun (p : Nat × Bs) => pur (u = (p.1 : Int) ∧ s = ba (dgt p.1 :: p.2) ∧ p.1 ≤ m ∧ N = p.1 ∧ Lib.decDigits m = Lib.decDigits p.1 ++ p.2)) :: rest) m ?_ fun N j3 hj3 u s => ?_
  · exact Imp.exs (m, []) (Imp.pur ⟨rfl, rfl, Nat.le_refl _, rfl, by simp⟩ (Imp.refl _))
  refine Ent.exs fun ⟨v, r⟩ => Ent.pur fun ⟨f1, f2, f3, f4, f5⟩ => ?_
  dsimp only at f1 f2 f3 f4 f5
  subst f1 f2
  have hrl : (dgt v :: r).length ≤ 40 := by
    have h1 := dec_len v
    have h2 : (Lib.decDigits m).length ≤ 40 := by
      rw [hI] at hnl
      split at hnl
      · rw [List.length_cons] at hnl; omega
      · omega
    rw [f5, List.length_append] at h2
    simp; omega
  refine Ent.condD (fun hgt => ?_) fun hle => ?_
  · have hd := Int.tdiv_eq_ediv_of_nonneg (a := (v : Int)) (b := 10) (by omega)
    refine Ent.opI (st_quo (by decide) (by rw [hd]; exact in_u64 (by omega) (by omega))).still ?_
    rw [hd, show ((v : Int) / 10) = ((v / 10 : Nat) : Int) by omega]
    refine rem ?_
    refine Ent.war ?_ (in_u64 (by omega) (by omega))
    refine conv ?_
    refine one_byte (t := 0) (k := 0) (t2 := 0) rfl ?_
    refine addB (a := [dgt (v / 10)]) (b := dgt v :: r) (by simp at hrl ⊢; omega) ?_
    refine (hj3 (v / 10) (by omega) _ _).imp ?_
    refine Imp.exs (v / 10, dgt v :: r) (Imp.pur ⟨rfl, rfl, by dsimp only; omega, rfl, ?_⟩ (Imp.refl _))
    dsimp only
    rw [f5, dec_big (u := v) (by omega), List.append_assoc]; rfl
  · have hs : Lib.decDigits m = dgt v :: r := by rw [f5, dec_small (by omega)]; rfl
    refine Ent.condD (fun hneg => ?_) fun hpos => ?_
    · rw [if_pos hneg] at hI
      refine addB (a := [45]) (b := dgt v :: r) (by simp at hrl ⊢; omega) ?_
      rw [hI, hs] at h
      exact h
    · rw [if_neg hpos] at hI
      rw [hI, hs] at h
      exact h
theorem kind_spec {K : ByteArray → WP} {n : Int} (h : Ent e rest (K (ba (nameAt kindsL n)))) : Ent e rest (ref31_Kind n K) := by
  (refine Ent.fn ref31_Kind_ok ?_; unfold ref31_Kind_sh)
  refine Ent.opR (st_buildA (out := ss kindsL) rfl rfl rfl rfl).still ?_
  refine Ent.alloc' fun lb => ?_
  refine Ent.wstoA (l' := ss kindsL) ?_ (vs := ss kindsL) (hl := rfl) (hu := by (repeat (first | exact Upd.hd | apply Upd.tl)))
  unfold nameAt at h
  have hl : kindsL.length = 9 := rfl
  refine Ent.condD (fun h1 => ?_) fun h1 => ?_
  · rw [if_neg (by omega)] at h
    exact h.drop
  refine Ent.condD (fun h2 => ?_) fun h2 => ?_
  · rw [if_neg (by omega)] at h
    exact h.drop
  rw [if_pos (by omega)] at h
  have hv : (ss kindsL)[n.toNat]? = some (.string (ba (kindsL.getD n.toNat []))) := by
    have : kindsL[n.toNat]? = some (kindsL.getD n.toNat []) := by
      rw [List.getD_eq_getElem?_getD, List.getElem?_eq_getElem (by omega)]; rfl
    simp only [ss, List.getElem?_map, this, Option.map_some]
  refine Ent.wiSp ?_ (hv := by simpa using hv)
  exact h.drop
/-- the document's line of an event, without its end -/
def evD (k t n : Int) (b : Bs) : Bs × Bool :=
  if nameAt kindsL k = [] then ([], false) else if k = 8 then (joinB [nameAt kindsL k, Lib.itoa n], decide (t = 0) && decide (b = []))
  else if k = 2 ∨ k = 6 then (joinB [nameAt kindsL k, Lib.itoa t, Lib.itoa n, q b], true)
  else (joinB [nameAt kindsL k, Lib.itoa t, Lib.itoa n], decide (b = []))
theorem name_8 : nameAt kindsL 8 ≠ [] := by decide
theorem name_2 : nameAt kindsL 2 ≠ [] := by decide
theorem name_6 : nameAt kindsL 6 ≠ [] := by decide
theorem evD_ok (k t n : Int) (b : Bs) : (evD k t n b).2 = (evT k t n b).2 ∧ ((evD k t n b).2 = true → (evD k t n b).1 ++ [10] = (evT k t n b).1) := by
  unfold evD evT
  by_cases h0 : nameAt kindsL k = []
  · rw [if_pos h0]
    have h8 : k ≠ 8 := fun h => name_8 (h ▸ h0)
    have h26 : ¬ (k = 2 ∨ k = 6) := fun h => by
      rcases h with h | h
      · exact name_2 (h ▸ h0)
      · exact name_6 (h ▸ h0)
    rw [if_neg h8, if_neg h26, h0]
    exact ⟨rfl, fun h => by cases h⟩
  · rw [if_neg h0]
    split
    · exact ⟨rfl, fun _ => rfl⟩
    · split
      · exact ⟨rfl, fun _ => rfl⟩
      · rw [decide_eq_true h0, Bool.true_and]
        exact ⟨rfl, fun _ => rfl⟩
theorem refline_spec {K : ByteArray → Bool → WP} {x : Ev} (hx : EvR x) (hr : Rd rest x.a (u8 x.b)) (h : Ent e rest (K (ba (evD x.k x.t x.n x.b).1) (evD x.k x.t x.n x.b).2)) : Ent e rest (ref31_Line (.agg (evC x).toArray) K) := by
  have hnl := name_len x.k
  have hit := itoa_len x.t hx.t
  have hin := itoa_len x.n hx.n
  have hql : (q x.b).length ≤ 4194306 := by
    have := (encs_len x.b).2
    have := hx.b
    rw [q_len]; omega
  have hbl : decide (x.b = []) = decide (x.b.length = 0) := decide_eq_decide.2 List.length_eq_zero_iff.symm
  have padd : ∀ {c2 : List HProp} {t : Nat} {X Y : Operand} {a b : Bs} {C : ByteArray → WP}, a.length + b.length ≤ 9223372036854775807 → Ent e c2 (C (ba (a ++ b))) → Ent e c2 (qS (bS .add t X Y (.string (ba a)) (.string (ba b))) C) := fun {c2 t X Y a b C} hl hC => by
    refine Ent.puS (st_addS (by simp [ba, ByteArray.size]; omega)) ?_
    rw [ba_app]; exact hC
  (refine Ent.fn ref31_Line_ok ?_; unfold ref31_Line_sh)
  refine Ent.box' fun eb => ?_
  refine Ent.wfI ?_
  refine kind_spec ?_
  unfold evD at h
  refine Ent.opB (st_eqS).still ?_
  refine Ent.condD (fun h0 => ?_) fun h0 => ?_
  · have hn : nameAt kindsL x.k = [] := by simpa [ba] using congrArg (fun z : ByteArray => z.data.toList) h0
    rw [if_pos hn] at h
    exact h.drop
  have hn : nameAt kindsL x.k ≠ [] := fun hh => by rw [hh] at h0; exact h0 rfl
  rw [if_neg hn] at h
  refine Ent.wfI ?_
  refine Ent.condE (fun h8 => ?_) fun h8 => ?_
  · rw [if_pos h8] at h
    refine Ent.join ?_
    refine Ent.draw [pt eb (evC x)] (by (focus ((repeat ((with_reducible apply Imp.pick); (repeat (first | exact Pick.hd | apply Pick.tl)))); (repeat (first | exact Imp.refl _ | exact Imp.nil _ | apply Imp.drop)); done))) ?_
    refine padd (b := [32]) (by simp; omega) ?_
    refine Ent.wgI ?_
    refine Ent.wgI ?_
    refine refnum_spec hx.n ?_
    refine Ent.wand ?_
    refine padd (by simp; omega) ?_
    rw [show nameAt kindsL x.k ++ [32] ++ Lib.itoa x.n = joinB [nameAt kindsL x.k, Lib.itoa x.n] by rw [joinB_2]; simp]
    refine Ent.condE (fun ht => ?_) fun ht => ?_
    · rw [decide_eq_true ht, Bool.true_and] at h
      refine Ent.wgR ?_
      refine Ent.wsI ?_
      rw [len0, ← hbl]
      exact h.drop
    · rw [decide_eq_false ht, Bool.false_and] at h
      exact h.drop
  rw [if_neg h8] at h
  refine Ent.draw [pt eb (evC x)] (by (focus ((repeat ((with_reducible apply Imp.pick); (repeat (first | exact Pick.hd | apply Pick.tl)))); (repeat (first | exact Imp.refl _ | exact Imp.nil _ | apply Imp.drop)); done))) ?_
  refine padd (b := [32]) (by simp; omega) ?_
  refine Ent.wgI ?_
  refine Ent.wgI ?_
  refine refnum_spec hx.t ?_
  refine Ent.wand ?_
  refine padd (by simp; omega) ?_
  refine padd (b := [32]) (by simp; omega) ?_
  refine refnum_spec hx.n ?_
  refine Ent.wand ?_
  refine padd (by simp; omega) ?_
  rw [show nameAt kindsL x.k ++ [32] ++ Lib.itoa x.t ++ [32] ++ Lib.itoa x.n = joinB [nameAt kindsL x.k, Lib.itoa x.t, Lib.itoa x.n] by rw [joinB_3]; simp]
  refine Ent.join1 (kd := .bool) (fun t => pur (t = decide (x.k = 2 ∨ x.k = 6)) :: pt eb (evC x) :: rest) ?_ ?_
  rotate_left
  · intro j2 hj2
    refine Ent.wfI ?_
    refine Ent.condE (fun h2 => ?_) fun h2 => ?_
    · refine (hj2 _).imp (Imp.pur ?_ (Imp.refl _))
      rw [decide_eq_true (.inl h2)]
    · refine Ent.wfI ?_
      refine (hj2 _).imp (Imp.pur ?_ (Imp.refl _))
      by_cases h6 : x.k = 6
      · rw [h6]; rfl
      · rw [decide_eq_false (fun hh => hh.elim h2 h6)]
        exact beq_eq_false_iff_ne.2 h6
  intro t
  refine Ent.pur fun ht => ?_
  subst ht
  refine Ent.condD (fun h26 => ?_) fun h26 => ?_
  · rw [if_pos h26] at h
    refine addB (b := [32]) (by rw [joinB_3]; simp; omega) ?_
    refine Ent.wfR ?_
    refine ref_quote_spec (b := x.b) (by have := hx.b; omega) (hr.mono (by (focus (repeat (first | exact Imp.refl _ | exact Imp.nil _ | apply Imp.drop))))) ?_
    refine addB (by rw [joinB_3]; simp; omega) ?_
    rw [show joinB [nameAt kindsL x.k, Lib.itoa x.t, Lib.itoa x.n] ++ [32] ++ q x.b = joinB [nameAt kindsL x.k, Lib.itoa x.t, Lib.itoa x.n, q x.b] by rw [joinB_3, joinB_4]; simp]
    exact h.drop
  · rw [if_neg h26] at h
    refine Ent.draw [pt eb (evC x)] (by (focus ((repeat ((with_reducible apply Imp.pick); (repeat (first | exact Pick.hd | apply Pick.tl)))); (repeat (first | exact Imp.refl _ | exact Imp.nil _ | apply Imp.drop)); done))) ?_
    refine Ent.wgR ?_
    refine Ent.wsI ?_
    rw [len0, ← hbl]
    exact h.drop
end
end Go.Proofs.YtoneapgooihajaaGreatDoor.Qa
