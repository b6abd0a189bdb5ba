/-
  TEXTS OF EVENTS (layer 31): Text.
-/
import Derived.Test.YtoneapgooihajaaGreatDoorQk
set_option maxRecDepth 100000
set_option linter.unusedVariables false
set_option linter.unusedSectionVars false
set_option linter.unusedSimpArgs false
set_option maxHeartbeats 0
namespace Go.Proofs.YtoneapgooihajaaGreatDoor.Qa
open Go Sh Sl
open Go.RowKit
attribute [local irreducible] condK ArK NilK OpK FnK StK joinK loopK DrawK andK PuK NxK EnK vS uS bS callS invokeS
abbrev dE' := Int × Int × Int × Bs
/-- an event's line -/
abbrev evL (d : dE') : Bs × Bool := evT d.1 d.2.1 d.2.2.1 d.2.2.2
/-- the lines of events -/
def evTx (l : List dE') : Bs := l.flatMap fun d => (evL d).1
theorem evTx_snoc (l : List dE') (d : dE') : evTx (l ++ [d]) = evTx l ++ (evL d).1 := by simp [evTx]
theorem evL_len {x : Ev} (h : EvR x) : (evL (dEv x)).1.length ≤ 4195000 := by
  have h1 := name_len x.k
  have h2 := itoa_len x.t h.t
  have h3 := itoa_len x.n h.n
  have h4 := (encs_len x.b).2
  have h5 := h.b
  have h6 := q_len x.b
  unfold evL dEv evT
  dsimp only
  split
  · rw [joinB_2]; simp; omega
  · split
    · rw [joinB_4]; simp; omega
    · rw [joinB_3]; simp; omega
theorem evTx_len {l : List Ev} (h : ∀ x ∈ l, EvR x) : (evTx (l.map dEv)).length ≤ 4195000 * l.length := by
  induction l with
  | nil => simp [evTx]
  | cons x l ih =>
    have h1 := evL_len (h x (by simp))
    have h2 := ih fun y hy => h y (by simp [hy])
    have e1 : evTx ((x :: l).map dEv) = (evL (dEv x)).1 ++ evTx (l.map dEv) := by simp [evTx]
    rw [e1, List.length_append, List.length_cons, Nat.mul_add]
    omega
/-- what Text answers -/
def evText (l : List dE') : Bs × Int := if l.all (fun d => (evL d).2) then (if (evTx l).length > 131072 then ([], 3) else (evTx l, 0)) else ([], 1)
section
variable {e : Env} {ctx rest R : List HProp} {M : Hp}
theorem text_spec {K : ByteArray → Int → WP} {xs : List Ev} {a : Option Addr} {c : Nat} (hn : xs.length ≤ 16777216) (hr : Rd rest a (evcs xs)) (hxs : ∀ x ∈ xs, EvR x ∧ Rd rest x.a (u8 x.b)) (hG : GL e rest) (h : Ent e rest (K (ba (evText (xs.map dEv)).1) (evText (xs.map dEv)).2)) : Ent e rest (shell_Text (.slice a xs.length c) K) := by
  (refine Ent.fn shell_Text_ok ?_; unfold shell_Text_sh)
  (refine Ent.fn shell_written_Event_ok ?_; unfold shell_written_Event_sh)
  refine bld_new fun b => ?_
  refine Ent.wlen ?_
  refine Ent.rngL0 xs.length (fun k => pur (∀ x ∈ xs.take k, (evL (dEv x)).2 = true) :: Bld b (evTx ((xs.take k).map dEv)) :: rest) rfl ?_ ?_
  · exact Imp.pur (by simp) (Imp.refl _)
  intro k hk K' hK
  refine Ent.pur fun hok => ?_
  have hlen := evTx_len (l := xs.take k) fun x hx => (hxs x (List.mem_of_mem_take hx)).1
  have hlt : (xs.take k).length ≤ xs.length := List.length_take_le' k xs
  by_cases hl : k < xs.length
  · obtain ⟨x, hx⟩ : ∃ x, xs[k]? = some x := ⟨_, List.getElem?_eq_getElem hl⟩
    have hxm := hxs x (List.mem_of_getElem? hx)
    have hx' : xs[(k : Int).toNat]? = some x := hx
    have hel := evL_len hxm.1
    refine Ent.wT ?_
    refine Ent.wiAr (f := evC) (xs := xs) (y := x) (hr.mono (by (focus (repeat (first | exact Imp.refl _ | exact Imp.nil _ | apply Imp.drop))))) ?_ rfl rfl rfl (by omega) (by omega) (fun _ => rfl) (by decide) hx'
    refine Ent.alloc' fun xb => ?_
    refine Ent.wstoA (l' := evC x) ?_ (vs := evC x) (hl := rfl) (hu := by (repeat (first | exact Upd.hd | apply Upd.tl)))
    refine Ent.wlA (cs := evC x) ?_
    refine Ent.callF (by rfl) ?_
    show Ent e _ (shell_eventText (.agg (evC x).toArray) _)
    refine evtext_spec (x := x) hxm.1 (hxm.2.mono (by (focus (repeat (first | exact Imp.refl _ | exact Imp.nil _ | apply Imp.drop))))) (hG.mono (by (focus (repeat (first | exact Imp.refl _ | exact Imp.nil _ | apply Imp.drop))))) ?_
    refine Ent.cond (fun hc => ?_) fun hc => ?_
    · have hno : (evL (dEv x)).2 = false := by
        have h9 : (evT x.k x.t x.n x.b).2 = false := by simpa using hc
        exact h9
      have hall : (xs.map dEv).all (fun d => (evL d).2) = false := by
        rw [List.all_eq_false]
        exact ⟨dEv x, List.mem_map.2 ⟨x, List.mem_of_getElem? hx, rfl⟩, by rw [hno]; decide⟩
      unfold evText at h
      rw [hall] at h
      exact h.drop.drop
    · have hyes : (evL (dEv x)).2 = true := by
        have h9 : (evT x.k x.t x.n x.b).2 = true := by simpa using hc
        exact h9
      refine Ent.bring (A := Bld b (evTx ((xs.take k).map dEv))) ?_
      refine write_spec (by have : (evT x.k x.t x.n x.b).1.length ≤ 4195000 := hel; omega) ?_
      refine Ent.war ?_
      refine Ent.imp ?_ (hK hl)
      refine Imp.pur (fun y hy => ?_) ?_
      · rw [take_snoc hx] at hy
        rcases List.mem_append.1 hy with hy | hy
        · exact hok y hy
        · rw [List.mem_singleton.1 hy]; exact hyes
      · rw [take_snoc hx, List.map_append]
        show Imp _ (Bld b (evTx ((xs.take k).map dEv ++ [dEv x])) :: rest)
        rw [evTx_snoc]
        exact Imp.cons (Imp.drop (Imp.refl _))
  · have hke : k = xs.length := by omega
    rw [hke, List.take_length] at hok hlen ⊢
    have hall : (xs.map dEv).all (fun d => (evL d).2) = true := List.all_eq_true.2 fun d hd => by
      obtain ⟨x, hx, rfl⟩ := List.mem_map.1 hd
      exact hok x hx
    unfold evText at h
    rw [hall] at h
    refine Ent.wF ?_
    refine len_spec ?_
    refine Ent.condD (fun hc => ?_) fun hc => ?_
    · rw [if_pos (by rfl), if_pos (by omega)] at h
      exact h.drop
    · rw [if_pos (by rfl), if_neg (by omega)] at h
      refine string_spec (by omega) ?_
      exact h
end
end Go.Proofs.YtoneapgooihajaaGreatDoor.Qa
