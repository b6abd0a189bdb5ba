/-
  TEXTS OF EVENTS (layer 31): lines, Parse.
-/
import Derived.Test.YtoneapgooihajaaGreatDoorQi
import Derived.Test.YtoneapgooihajaaGreatDoorRf
set_option maxRecDepth 100000
set_option linter.unusedVariables false
set_option linter.unusedSectionVars false
set_option linter.unusedSimpArgs false
set_option maxHeartbeats 0
namespace Go.Proofs.YtoneapgooihajaaGreatDoor.Qa
open Go Sh Sl
open Go.RowKit
attribute [local irreducible] condK ArK NilK OpK FnK StK joinK loopK DrawK andK PuK NxK EnK vS uS bS callS invokeS
def lnsA : Bs → Bs → List Bs
  | cur, [] => if cur = [] then [] else [cur]
  | cur, c :: r => if c = 10 then (cur ++ [10]) :: lnsA [] r else lnsA (cur ++ [c]) r
/-- a text's lines, each with its end -/
def lns (s : Bs) : List Bs := lnsA [] s
theorem lnsA_none : ∀ (s cur : Bs), Lib.indexByte s 10 = -1 → lnsA cur s = if cur ++ s = [] then [] else [cur ++ s]
  | [], cur, _ => by simp [lnsA]
  | c :: s, cur, h => by
    unfold Lib.indexByte at h
    split at h
    · cases h
    · rename_i hc
      split at h
      · rename_i h2
        unfold lnsA
        rw [if_neg (by simpa using hc), lnsA_none s _ (beq_iff_eq.1 h2)]
        simp
      · rename_i h2
        have := Lib.indexByte_ge s 10
        have h3 : Lib.indexByte s 10 ≠ -1 := fun hh => h2 (beq_iff_eq.2 hh)
        omega
theorem lnsA_some : ∀ (s cur : Bs) (n : Nat), Lib.indexByte s 10 = (n : Int) → n < s.length ∧ lnsA cur s = (cur ++ s.take (n + 1)) :: lns (s.drop (n + 1))
  | [], cur, n, h => by simp [Lib.indexByte] at h
  | c :: s, cur, n, h => by
    unfold Lib.indexByte at h
    split at h
    · rename_i hc
      have hc' : c = 10 := beq_iff_eq.1 hc
      subst hc'
      obtain rfl : n = 0 := by omega
      unfold lnsA
      rw [if_pos rfl]
      exact ⟨by simp, by simp [lns]⟩
    · rename_i hc
      split at h
      · omega
      · rename_i h2
        have hg := Lib.indexByte_ge s 10
        have h3 : Lib.indexByte s 10 ≠ -1 := fun hh => h2 (beq_iff_eq.2 hh)
        obtain ⟨m, hm⟩ : ∃ m : Nat, n = m + 1 := ⟨n - 1, by omega⟩
        subst hm
        obtain ⟨h1, h2⟩ := lnsA_some s (cur ++ [c]) m (by omega)
        unfold lnsA
        rw [if_neg (by simpa using hc), h2]
        exact ⟨by simp; omega, by simp⟩
theorem lns_len : ∀ (s cur : Bs), (lnsA cur s).length ≤ s.length + 1
  | [], cur => by unfold lnsA; split <;> simp
  | c :: s, cur => by
    unfold lnsA
    split
    · have := lns_len s []
      simp; omega
    · have := lns_len s (cur ++ [c])
      simp; omega
theorem lns_piece : ∀ (s cur : Bs), ∀ x ∈ lnsA cur s, x.length ≤ cur.length + s.length
  | [], cur, x, h => by
    unfold lnsA at h
    split at h
    · cases h
    · rw [List.mem_singleton.1 h]; simp
  | c :: s, cur, x, h => by
    unfold lnsA at h
    split at h
    · rcases List.mem_cons.1 h with rfl | h
      · simp
      · have := lns_piece s [] x h
        simp at this ⊢
        omega
    · have := lns_piece s (cur ++ [c]) x h
      simp at this ⊢
      omega
section
variable {e : Env} {ctx rest R : List HProp}
theorem lines_iter {K : Value → WP} {q sb : Nat} {r0 : Loop} {s : Bs} (hs : s.length ≤ 1048576) (I : Nat → List HProp) (Jr : List HProp)
    (hy : ∀ (k : Nat) (x s' : Bs) (c : Bool → WP), (lns s)[k]? = some x → Ent e (Sl.ob (q + 1) (lp r0 .ready none) :: pt sb [.string (ba s')] :: I (k + 1)) (c true) → Ent e (Sl.ob (q + 1) (lp r0 .done (some .ret)) :: Jr) (c false) →
      Ent e (Sl.ob (q + 1) (lp r0 .ready none) :: pt sb [.string (ba s')] :: I k) (OpK P (.one .bool) (callS (.func (.yield (q + 1)) #[] #[]) #[.string (ba x)]) c))
    (h : Ent e (Sl.ob (q + 1) (lp r0 .ready none) :: I (lns s).length) (K (.tuple #[]))) (hr : Ent e (Sl.ob (q + 1) (lp r0 .done (some .ret)) :: Jr) (K (.tuple #[]))) :
    Ent e (Sl.ob (q + 1) (lp r0 .ready none) :: pt sb [.string (ba s)] :: I 0) (strings_Lines_c1 (.func (.yield (q + 1)) #[] #[]) (ptr sb) K) := by
  (refine Ent.fn strings_Lines_c1_ok ?_; unfold strings_Lines_c1_sh)
  refine Ent.loop0 (fun N => (exs fun (p : Nat × Bs) => sepL (pur (lns p.2 = (lns s).drop p.1 ∧ p.1 ≤ (lns s).length ∧ N = p.2.length ∧ p.2.length ≤ 1048576) :: Sl.ob (q + 1) (lp r0 .ready none) :: pt sb [.string (ba p.2)] :: I p.1)) :: []) s.length ?_ ?_
  · refine Imp.exs (0, s) (Imp.grp ?_)
    rw [List.append_nil]
    exact Imp.pur ⟨rfl, Nat.zero_le _, rfl, hs⟩ (Imp.refl _)
  intro N K' hK
  refine Ent.exs fun ⟨k, s'⟩ => Ent.grp ?_
  rw [List.append_nil]
  refine Ent.pur fun ⟨f1, f2, f3, f4⟩ => ?_
  dsimp only at f1 f2 f3 f4
  dsimp only
  have hsz : ((ba s').size : Int) = (s'.length : Int) := by simp [ByteArray.size]
  refine Ent.wlS ?_
  refine Ent.wlenS ?_
  rw [hsz]
  by_cases h0 : s' = []
  · subst h0
    have hk : k = (lns s).length := by
      have h2 : (lns ([] : Bs)) = [] := rfl
      rw [h2] at f1
      have := congrArg List.length f1
      rw [List.length_drop] at this
      simp at this
      omega
    refine Ent.wF ?_
    rw [hk]
    refine Ent.imp ?_ h
    exact Imp.cons (Imp.drop (Imp.refl _))
  have hpos : 0 < s'.length := List.length_pos_iff.2 h0
  refine Ent.wT ?_
  refine Ent.wlS ?_
  refine indexByte_spec (s := s') (c := 10) ?_
  have hge := Lib.indexByte_ge s' 10
  rcases Int.lt_or_le (Lib.indexByte s' 10) 0 with h1 | h1
  · have hno : Lib.indexByte s' 10 = -1 := by omega
    have hl : lns s' = [s'] := by
      unfold lns
      rw [lnsA_none s' [] hno]; simp [h0]
    have hat : (lns s)[k]? = some s' := by
      have := congrArg (fun l => l[0]?) f1
      rw [hl] at this
      simpa using this.symm
    refine Ent.wF ?_
    refine Ent.wlS ?_
    refine Ent.wsto (l' := [.string (ba [])]) ?_ (hl := rfl) (hu := by (repeat (first | exact Upd.hd | apply Upd.tl)))
    refine hy k s' [] _ hat ?_ ?_
    · refine Ent.wF ?_
      refine Ent.imp ?_ (hK 0 (by omega))
      refine Imp.exs (k + 1, []) (Imp.grp ?_)
      rw [List.append_nil]
      have hkl := (List.getElem?_eq_some_iff.1 hat).1
      refine Imp.pur ⟨?_, by omega, rfl, by simp⟩ (Imp.refl _)
      show ([] : List Bs) = _
      have := congrArg (List.drop 1) f1
      rw [hl, List.drop_drop] at this
      simpa using this
    · refine Ent.wT ?_
      exact hr
  · obtain ⟨n, hn⟩ := Int.eq_ofNat_of_zero_le h1
    obtain ⟨g1, g2⟩ := lnsA_some s' [] n hn
    have hl : lns s' = s'.take (n + 1) :: lns (s'.drop (n + 1)) := g2
    have hat : (lns s)[k]? = some (s'.take (n + 1)) := by
      have := congrArg (fun l => l[0]?) f1
      rw [hl] at this
      simpa using this.symm
    rw [hn]
    refine Ent.wT ?_ (decide_eq_true (by omega))
    refine Ent.draw [pt sb [.string (ba s')]] (by show Imp (_ :: pt sb _ :: _) _; exact .pick (.tl .hd) (Imp.nil _)) ?_
    refine Ent.wsS ?_
    refine Ent.war ?_
    refine Ent.puS (st_slSH rfl (by omega) (by omega)) ?_
    refine Ent.wsS ?_
    refine Ent.war ?_
    refine Ent.puS (st_slSL rfl (by omega) (by omega)) ?_
    rw [show ((n : Int) + 1).toNat = n + 1 by omega]
    refine Ent.wsto (l' := [.string (ba (s'.drop (n + 1)))]) ?_ (hl := rfl) (hu := by (repeat (first | exact Upd.hd | apply Upd.tl)))
    refine hy k (s'.take (n + 1)) (s'.drop (n + 1)) _ hat ?_ ?_
    · refine Ent.wF ?_
      refine Ent.imp ?_ (hK (s'.drop (n + 1)).length (by rw [List.length_drop]; omega))
      refine Imp.exs (k + 1, s'.drop (n + 1)) (Imp.grp ?_)
      rw [List.append_nil]
      have hkl := (List.getElem?_eq_some_iff.1 hat).1
      refine Imp.pur ⟨?_, by omega, rfl, by rw [List.length_drop]; omega⟩ (Imp.refl _)
      have := congrArg (List.drop 1) f1
      rw [hl, List.drop_drop] at this
      simpa using this
    · refine Ent.wT ?_
      exact hr
end
end Go.Proofs.YtoneapgooihajaaGreatDoor.Qa
