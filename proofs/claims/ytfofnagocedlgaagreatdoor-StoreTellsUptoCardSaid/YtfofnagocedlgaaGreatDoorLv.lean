/-
  THE LRU LIST (layer 20): the document's own list; what the document's examples say.
-/
import Derived.Test.YtfofnagocedlgaaGreatDoorLs
set_option maxRecDepth 100000
set_option linter.unusedVariables false
set_option linter.unusedSectionVars false
set_option linter.unusedSimpArgs false
set_option maxHeartbeats 0
namespace Go.Proofs.YtfofnagocedlgaaGreatDoor.Lr
open Go Sh Sl Fl
attribute [local irreducible] condK ArK NilK OpK FnK StK joinK loopK DrawK andK PuK NxK EnK vS uS bS callS invokeS
section
variable {e : Env} {ctx rest : List HProp} {tr kp : List Int} {most n : Nat}
theorem has_spec {K : Bool → WP} {l : List Int} {a : Option Addr} {c : Nat} {id : Int} (hr : Rd rest a (ic l)) (hb : l.length ≤ 4611686018427387904) (h : Ent e rest (K (decide (id ∈ l)))) : Ent e rest (ref20_has (.slice a l.length c) id K) := by
  (refine Ent.fn ref20_has_ok ?_; unfold ref20_has_sh)
  refine Ent.rngL0 l.length (fun k => pur (id ∉ l.take k) :: rest) rfl (Imp.pur (by simp) (Imp.refl _)) ?_
  intro k hk K' hK
  refine Ent.pur fun hno => ?_
  by_cases hl : k < l.length
  · obtain ⟨x, hx⟩ : ∃ x, l[(k : Int).toNat]? = some x := ⟨_, List.getElem?_eq_getElem hl⟩
    (refine Ent.go ?_)
    refine Ent.condE (fun hx2 => ?_) (fun hx2 => ?_)
    · subst hx2
      rw [decide_eq_true (List.mem_of_getElem? hx)] at h
      exact h
    · (refine Ent.go ?_)
      refine Ent.imp (Imp.pur ?_ (Imp.refl _)) (hK hl)
      rw [List.take_succ_eq_append_getElem hl]
      have e1 : l[k] = x := by
        have := List.getElem?_eq_getElem hl
        rw [Int.toNat_natCast] at hx
        rw [hx] at this; exact (Option.some.inj this).symm
      simp [hno, e1, Ne.symm hx2]
  · (refine Ent.go ?_)
    rw [List.take_of_length_le (by omega)] at hno
    rw [decide_eq_false hno] at h
    exact h
theorem without_spec {K : Value → WP} {l : List Int} {a : Option Addr} {c : Nat} {id : Int} (hr : Rd rest a (ic l)) (hb : l.length ≤ 65536) (h : ∀ a' c', Ent e (SlO a' (out l id).length c' 1 (ic (out l id)) :: rest) (K (.slice a' (out l id).length c'))) :
    Ent e rest (ref20_without (.slice a l.length c) id K) := by
  (refine Ent.fn ref20_without_ok ?_; unfold ref20_without_sh)
  refine Ent.rngL1 (k0 := .raw) l.length (fun k v => exs (fun (x : Option Addr × Nat) => sepL [pur (v = .slice x.1 (out (l.take k) id).length x.2), SlO x.1 (out (l.take k) id).length x.2 1 (ic (out (l.take k) id))]) :: rest) rfl ?_ ?_
  · exact Imp.exs (none, 0) (Imp.g2 (Imp.pur (by simp) (by simpa using Imp.slN (Imp.refl _))))
  intro k hk K' hK v
  refine Ent.exs fun ⟨a', c'⟩ => Ent.g2 (Ent.pur fun hv => ?_)
  dsimp only at hv
  subst hv
  by_cases hl : k < l.length
  · obtain ⟨x, hx⟩ : ∃ x, l[(k : Int).toNat]? = some x := ⟨_, List.getElem?_eq_getElem hl⟩
    have e1 : l.take (k + 1) = l.take k ++ [x] := by
      rw [List.take_succ_eq_append_getElem hl]
      have := List.getElem?_eq_getElem hl
      rw [Int.toNat_natCast] at hx
      rw [hx] at this; rw [Option.some.inj this]
    have hle : (out (l.take k) id).length ≤ 65536 := Nat.le_trans (List.length_filter_le _ _) (by simp; omega)
    (refine Ent.go ?_)
    refine Ent.condN (fun hx2 => ?_) (fun hx2 => ?_)
    · have e2 : out (l.take (k + 1)) id = out (l.take k) id ++ [x] := by rw [e1]; simp [out, List.filter_append, hx2]
      (refine Ent.go ?_)
      refine Ent.app1 (fun a2 c2 => ?_)
      (refine Ent.go ?_)
      refine Ent.imp ?_ (hK hl _)
      refine Imp.exs (a2, c2) (Imp.g2 (Imp.pur (by simp [e2]) ?_))
      rw [e2]
      simpa using Imp.refl _
    · have e2 : out (l.take (k + 1)) id = out (l.take k) id := by rw [e1]; simp [out, List.filter_append, hx2]
      (refine Ent.go ?_)
      refine Ent.imp ?_ (hK hl _)
      refine Imp.exs (a', c') (Imp.g2 (Imp.pur (by rw [e2]) ?_))
      rw [e2]
      exact Imp.refl _
  · (refine Ent.go ?_)
    rw [List.take_of_length_le (by omega)]
    exact h a' c'
theorem ahead_spec {K : Value → WP} {l : List Int} {a : Option Addr} {c : Nat} {id : Int} (hr : Rd rest a (ic l)) (hb : l.length ≤ 65536) (h : ∀ a' c', Ent e (SlO a' (id :: l).length c' 1 (ic (id :: l)) :: rest) (K (.slice a' (id :: l).length c'))) :
    Ent e rest (ref20_ahead (.slice a l.length c) id K) := by
  (refine Ent.fn ref20_ahead_ok ?_; unfold ref20_ahead_sh)
  refine Ent.slN (sz := 1) ?_
  refine Ent.app1 (fun a2 c2 => ?_)
  refine Ent.appN (hr.mono (by (focus (repeat (first | exact Imp.refl _ | exact Imp.nil _ | apply Imp.drop))))) (fun a3 c3 => ?_)
  have := h a3 c3
  simp only [List.length_cons, List.map_cons] at this
  simp only [List.nil_append, List.singleton_append, Nat.zero_add]
  rw [Nat.add_comm] 
  exact this
end
end Go.Proofs.YtfofnagocedlgaaGreatDoor.Lr
