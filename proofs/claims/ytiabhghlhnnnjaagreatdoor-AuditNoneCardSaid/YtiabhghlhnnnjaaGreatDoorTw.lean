/-
  TEXT (layer 2): lower-case letters.
-/
import Derived.Test.YtiabhghlhnnnjaaGreatDoorOm
import Derived.Test.YtiabhghlhnnnjaaGreatDoorRf
import Derived.Test.YtiabhghlhnnnjaaGreatDoorFL
set_option maxRecDepth 100000
set_option linter.unusedVariables false
set_option linter.unusedSectionVars false
set_option linter.unusedSimpArgs false
set_option maxHeartbeats 0
namespace Go.Proofs.YtiabhghlhnnnjaaGreatDoor.Tx
open Go Sh Sl
attribute [local irreducible] condK ArK NilK OpK FnK StK joinK loopK DrawK andK PuK NxK EnK vS uS bS callS invokeS
abbrev Bs := List UInt8
def lo (c : UInt8) : UInt8 := if 65 ≤ c.toNat ∧ c.toNat ≤ 90 then c + 32 else c
def lower (l : Bs) : Bs := l.map lo
@[simp] theorem lower_len (l : Bs) : (lower l).length = l.length := by simp [lower]
theorem lo_nat (c : UInt8) : (lo c).toNat = if 65 ≤ c.toNat ∧ c.toNat ≤ 90 then c.toNat + 32 else c.toNat := by
  unfold lo
  split
  · rename_i h
    rw [UInt8.toNat_add]
    have : (32 : UInt8).toNat = 32 := rfl
    omega
  · rfl
section
variable {e : Env} {ctx rest : List HProp}
theorem ixB {t : Nat} {k : IntKind} {i : Int} {l : Bs} {c : UInt8} {K : Int → WP} (h0 : 0 ≤ i) (hv : l[i.toNat]? = some c) (h : Ent e ctx (K c.toNat)) : Ent e ctx (OpK P (.one (.int .u8)) (vS (Instr.index 9 (.string (ba l)) (.int k i))) K) := by
  have hlt := (List.getElem?_eq_some_iff.1 hv).1
  have hsz : (ba l).size = l.length := by simp [ba, ByteArray.size]
  refine Ent.opI (st_ixS rfl h0 (by rw [hsz]; exact hlt)).still ?_
  have e1 : ((ba l)[i.toNat]'(by rw [hsz]; exact hlt)) = c := by
    have h1 : l[i.toNat]'hlt = c := (List.getElem?_eq_some_iff.1 hv).2
    rw [← h1]
    show (l.toArray)[i.toNat]'_ = _
    simp
  rw [e1]; exact h
theorem set_self {α : Type} {l : List α} {i : Nat} {v : α} (h : l[i]? = some v) : l.set i v = l := by
  apply List.ext_getElem?
  intro j
  rw [List.getElem?_set]
  split
  · rename_i he; subst he
    rw [h]; simp [(List.getElem?_eq_some_iff.1 h).1]
  · rfl
theorem u8_at {l : Bs} {i : Nat} {c : UInt8} (h : l[i]? = some c) : (u8 l)[i]? = some (.int .u8 c.toNat) := by simp [u8, h]
theorem lower_spec {K : ByteArray → WP} {l : Bs} (hl : l.length ≤ 1099511627776) (h : Ent e rest (K (ba (lower l)))) : Ent e rest (text_Lower (ba l) K) := by
  (refine Ent.fn text_Lower_ok ?_; unfold text_Lower_sh)
  refine Ent.s2b rfl rfl rfl (by omega) fun a c => ?_
  unfold BS
  (refine Ent.go ?_)
  refine Ent.rngL0 l.length (fun k => SlO a l.length c 1 (u8 ((l.take k).map lo ++ l.drop k)) :: rest) rfl ?_ ?_
  · simp only [List.take_zero, List.map_nil, List.nil_append, List.drop_zero]; exact Imp.refl _
  intro k hk K' hK
  by_cases hkn : k < l.length
  · obtain ⟨x, hx⟩ : ∃ x, l[k]? = some x := ⟨_, List.getElem?_eq_getElem hkn⟩
    have hd : l.drop k = x :: l.drop (k + 1) := by
      have hg := List.getElem?_eq_getElem hkn
      rw [hx] at hg
      rw [Option.some.inj hg, List.getElem_cons_drop]
    have ht : l.take (k + 1) = l.take k ++ [x] := by rw [List.take_add_one, hx]; rfl
    have hv : (u8 ((l.take k).map lo ++ l.drop k))[(k : Int).toNat]? = some (.int .u8 x.toNat) := by
      rw [Int.toNat_natCast]
      refine u8_at ?_
      rw [List.getElem?_append_right (by simp; omega), hd]
      have : k - ((l.take k).map lo).length = 0 := by simp; omega
      rw [this]; rfl
    refine Ent.wT ?_ (by simpa using hkn)
    refine Ent.rdS fun hrd _ => ?_
    refine Ent.wiIr (hrd _ (by (repeat (first | exact Has.hd | apply Has.tl)))) ?_ rfl rfl rfl (by omega) (by omega) hv
    have hxb := x.toNat_lt
    have hset : ∀ v : UInt8, v = lo x → ((u8 ((l.take k).map lo ++ l.drop k)).set (k : Int).toNat (.int .u8 v.toNat)) = u8 ((l.take (k + 1)).map lo ++ l.drop (k + 1)) := by
      intro v hvl
      rw [Int.toNat_natCast, hd, ht, hvl]
      simp only [u8, List.map_append, List.map_cons, List.map_nil, List.append_assoc, List.cons_append, List.nil_append]
      rw [List.set_append_right _ _ (by simp; omega)]
      have : k - ((List.map lo (l.take k)).map fun b => Value.int IntKind.u8 b.toNat).length = 0 := by simp; omega
      rw [this]; rfl
    refine Ent.join ?_
    by_cases h1 : 65 ≤ x.toNat
    · by_cases h2 : x.toNat ≤ 90
      · refine Ent.wT ?_ (decide_eq_true (by omega))
        refine Ent.wT ?_ (decide_eq_true (by omega))
        refine Ent.arw ?_
        refine Ent.arw ?_
        have e1 : (IntKind.u8.wrap (IntKind.u8.wrap ((x.toNat : Int) + 97) - 65) : Int) = ((lo x).toNat : Int) := by
          rw [lo_nat, if_pos ⟨h1, h2⟩]
          rw [wrap_in (show inR .u8 ((x.toNat : Int) + 97) from in_u8 (by omega) (by omega)), wrap_in (show inR .u8 ((x.toNat : Int) + 97 - 65) from in_u8 (by omega) (by omega))]
          omega
        rw [e1]
        refine Ent.wiWo ?_
        rw [hset _ rfl]
        (refine Ent.go ?_)
        exact hK hkn
      · (refine Ent.go ?_)
        have := hset x (by unfold lo; rw [if_neg (by omega)])
        have hself : (u8 ((l.take k).map lo ++ l.drop k)).set (k : Int).toNat (.int .u8 x.toNat) = u8 ((l.take k).map lo ++ l.drop k) := by
          exact set_self hv
        rw [hself] at this
        rw [this]
        exact hK hkn
    · (refine Ent.go ?_)
      have := hset x (by unfold lo; rw [if_neg (by omega)])
      have hself : (u8 ((l.take k).map lo ++ l.drop k)).set (k : Int).toNat (.int .u8 x.toNat) = u8 ((l.take k).map lo ++ l.drop k) := by
        exact set_self hv
      rw [hself] at this
      rw [this]
      exact hK hkn
  · have hkl : k = l.length := by omega
    subst hkl
    refine Ent.wF ?_ (by simp)
    rw [List.take_of_length_le (Nat.le_refl _), List.drop_eq_nil_of_le (Nat.le_refl _), List.append_nil]
    refine Ent.rdS fun hrd _ => ?_
    have e1 : (lower l).length = l.length := lower_len l
    have hst := st_b2s (e := e) (l := lower l) (c := c) (hrd (SlO a l.length c 1 (u8 (l.map lo)) :: rest) Has.hd) (s := 42) (x := 5) (d := 9) rfl rfl rfl
    rw [e1] at hst
    refine Ent.opS hst ?_
    exact Ent.imp (by (focus ((repeat ((with_reducible apply Imp.pick); (repeat (first | exact Pick.hd | apply Pick.tl)))); (repeat (first | exact Imp.refl _ | exact Imp.nil _ | apply Imp.drop)); done))) h
end
end Go.Proofs.YtiabhghlhnnnjaaGreatDoor.Tx
