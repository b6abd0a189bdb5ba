/-
  COLLAPSE (layer 24): Join, Waiting, Spoil, End.
-/
import Derived.Test.YtgbihlbgkkpciaaCu
set_option maxRecDepth 100000
set_option linter.unusedVariables false
set_option linter.unusedSectionVars false
set_option linter.unusedSimpArgs false
set_option maxHeartbeats 0
namespace Go.Proofs.Ytgbihlbgkkpciaa.Co
open Go Sh Sl
attribute [local irreducible] condK ArK NilK OpK FnK StK joinK loopK DrawK andK PuK NxK EnK vS uS bS callS invokeS
section
variable {e : Env} {ctx rest : List HProp} {most b : Nat} {X : List Ent1}
theorem len_wsum {x : Ent1} (h : x ∈ X) : x.2.2.ws.length ≤ wsum X := le_sum (List.mem_map.2 ⟨_, h, rfl⟩)
theorem own_mem {x : Ent1} (h : x ∈ X) : ∃ Y, X.Perm (x :: Y) := by
  obtain ⟨l1, l2, rfl⟩ := List.append_of_mem h
  exact ⟨l1 ++ l2, List.perm_middle⟩
theorem waiting_spec' {K : Int → WP} {r : Nat} (hk : TOk X most) (h : Ent e (pt b [.map (some r), .int .i64 most] :: Mp (intK .i64) jv r X :: Own JR X :: rest) (K (wsum X))) :
    Ent e (pt b [.map (some r), .int .i64 most] :: Mp (intK .i64) jv r X :: Own JR X :: rest) (collapse_Table_Waiting (tv b) K) := by
  (refine Ent.fn collapse_Table_Waiting_ok ?_; unfold collapse_Table_Waiting_sh)
  have hlen := hk.len
  have hwt := hk.wt
  have hmx := hk.mx
  (refine Ent.go ?_)
  refine Ent.mrange (K := intK .i64) (vf := jv) (by (repeat (first | exact Pick.hd | apply Pick.tl))) rfl fun i => ?_
  refine Ent.loop1 (k0 := .int .i64) (fun N v => exs (fun (y : List Ent1 × List Ent1) => sepL [pur ((y.1 ++ y.2).Perm X ∧ v = (wsum y.1 : Int) ∧ N = y.2.length), MpI (intK .i64) jv r i X (y.1.map (·.1))]) :: pt b [.map (some r), .int .i64 most] :: Own JR X :: rest) X.length ?_ ?_
  · refine Imp.exs ([], X) (Imp.g2 (Imp.pur ⟨.refl _, rfl, rfl⟩ ?_))
    (focus ((repeat ((with_reducible apply Imp.pick); (repeat (first | exact Pick.hd | apply Pick.tl)))); (repeat (first | exact Imp.refl _ | exact Imp.nil _ | apply Imp.drop)); done))
  intro N K' hK v
  refine Ent.exs fun ⟨dn, rm⟩ => Ent.g2 (Ent.pur fun ⟨f1, f2, f3⟩ => ?_)
  dsimp only at f1 f2 f3
  dsimp only
  subst f2 f3
  refine Ent.mnextP (by (repeat (first | exact Pick.hd | apply Pick.tl))) f1 hk.nd (fun hrm => ?_) (fun a q rm' hp hm f4 => ?_)
  · subst hrm
    rw [List.append_nil] at f1
    rw [wsum_perm f1]
    refine Ent.imp ?_ h
    exact (MpI.imp).trans (by (focus ((repeat ((with_reducible apply Imp.pick); (repeat (first | exact Pick.hd | apply Pick.tl)))); (repeat (first | exact Imp.refl _ | exact Imp.nil _ | apply Imp.drop)); done)))
  · refine Ent.mentry (K := intK .i64) (x := (.int .i64 a : Value)) (k1 := .raw) (k2 := .raw) (by (repeat (first | exact Has.hd | apply Has.tl))) hm rfl rfl ?_
    refine Ent.bring (A := Own JR X) ?_
    obtain ⟨Y, hY⟩ := own_mem hm
    refine Ent.imp ((Own.perm hY).trans Own.cons) ?_
    refine JR.open fun a2 c2 => ?_
    have h9 : q.2.ws.length ≤ wsum X := len_wsum hm
    have h8 : wsum (dn ++ [(a, q)] ++ rm') = wsum X := wsum_perm f4
    have h7 : wsum (dn ++ [(a, q)]) = wsum dn + q.2.ws.length := by simp [wsum]
    have h6 : wsum (dn ++ [(a, q)] ++ rm') = wsum (dn ++ [(a, q)]) + wsum rm' := by simp [wsum, Nat.add_assoc]
    unfold jc
    dsimp only
    (refine Ent.go ?_)
    refine Ent.imp ?_ (hK rm'.length (by have := hp.length_eq; simp at this; omega) _)
    refine Imp.trans (JR.shut (k := a) (p := q.1) (j := q.2)) ?_
    refine Imp.trans (b := JR (a, q) :: Own JR Y :: MpI (intK .i64) jv r i X (dn.map (·.1) ++ [a]) :: pt b [.map (some r), .int .i64 most] :: rest) (by (focus ((repeat ((with_reducible apply Imp.pick); (repeat (first | exact Pick.hd | apply Pick.tl)))); (repeat (first | exact Imp.refl _ | exact Imp.nil _ | apply Imp.drop)); done))) ?_
    refine (Own.uncons.trans (Own.perm hY.symm)).trans ?_
    refine Imp.exs (dn ++ [(a, q)], rm') (Imp.g2 (Imp.pur ⟨f4, by rw [h7]; simp, rfl⟩ ?_))
    rw [dn_snoc]
    (focus ((repeat ((with_reducible apply Imp.pick); (repeat (first | exact Pick.hd | apply Pick.tl)))); (repeat (first | exact Imp.refl _ | exact Imp.nil _ | apply Imp.drop)); done))
theorem waiting_spec {K : Int → WP} (h : Ent e (TR b X most :: rest) (K (wsum X))) : Ent e (TR b X most :: rest) (collapse_Table_Waiting (tv b) K) := by
  refine TR.open fun r hk => ?_
  exact waiting_spec' hk (Ent.imp (TR.shut hk) h)
/-- a job that is spoilt when it is of the URL -/
def spo (url : ByteArray) (x : Ent1) : Ent1 := if x.2.2.url = url then (x.1, x.2.1, { x.2.2 with sp := true }) else x
theorem spo_1 (url : ByteArray) (x : Ent1) : (spo url x).1 = x.1 := by unfold spo; split <;> rfl
theorem spo_2 (url : ByteArray) (x : Ent1) : (spo url x).2.1 = x.2.1 := by unfold spo; split <;> rfl
theorem spo_w (url : ByteArray) (x : Ent1) : (spo url x).2.2.ws = x.2.2.ws := by unfold spo; split <;> rfl
theorem spo_keys (url : ByteArray) (X : List Ent1) : (X.map (spo url)).map (·.1) = X.map (·.1) := by rw [List.map_map]; exact List.map_congr_left fun x _ => spo_1 url x
theorem spo_wsum (url : ByteArray) (X : List Ent1) : wsum (X.map (spo url)) = wsum X := by
  unfold wsum; rw [List.map_map]
  congr 1
  exact List.map_congr_left fun x _ => by simp only [Function.comp, spo_w]
def cntU (url : ByteArray) (X : List Ent1) : Nat := (X.filter fun x => decide (x.2.2.url = url)).length
theorem spoil_spec {K : Int → WP} {url : ByteArray} (h : Ent e (TR b (X.map (spo url)) most :: rest) (K (cntU url X))) : Ent e (TR b X most :: rest) (collapse_Table_Spoil (tv b) url K) := by
  (refine Ent.fn collapse_Table_Spoil_ok ?_; unfold collapse_Table_Spoil_sh)
  refine TR.open fun r hk => ?_
  have hlen := hk.len
  (refine Ent.go ?_)
  refine Ent.mrange (K := intK .i64) (vf := jv) (by (repeat (first | exact Pick.hd | apply Pick.tl))) rfl fun i => ?_
  refine Ent.loop1 (k0 := .int .i64) (fun N v => exs (fun (y : List Ent1 × List Ent1) => sepL [pur ((y.1 ++ y.2).Perm X ∧ v = (cntU url y.1 : Int) ∧ N = y.2.length), MpI (intK .i64) jv r i X (y.1.map (·.1)), Own JR (y.1.map (spo url)), Own JR y.2]) :: pt b [.map (some r), .int .i64 most] :: rest) X.length ?_ ?_
  · refine Imp.exs ([], X) (Imp.g4 (Imp.pur ⟨.refl _, rfl, rfl⟩ ?_))
    refine Imp.trans (b := MpI (intK .i64) jv r i X [] :: Own JR X :: pt b [.map (some r), .int .i64 most] :: rest) (by (focus ((repeat ((with_reducible apply Imp.pick); (repeat (first | exact Pick.hd | apply Pick.tl)))); (repeat (first | exact Imp.refl _ | exact Imp.nil _ | apply Imp.drop)); done))) ?_
    refine Imp.cons ?_
    exact Own.nil (Imp.refl _)
  intro N K' hK v
  refine Ent.exs fun ⟨dn, rm⟩ => Ent.g4 (Ent.pur fun ⟨f1, f2, f3⟩ => ?_)
  dsimp only at f1 f2 f3
  dsimp only
  subst f2 f3
  refine Ent.mnextP (by (repeat (first | exact Pick.hd | apply Pick.tl))) f1 hk.nd (fun hrm => ?_) (fun a q rm' hp hm f4 => ?_)
  · subst hrm
    rw [List.append_nil] at f1
    have e1 : cntU url dn = cntU url X := (f1.filter _).length_eq
    rw [e1]
    refine Ent.imp ?_ h
    refine MpI.imp.trans ?_
    refine Imp.trans (Mp.congr (vf' := jv) (m' := X.map (spo url)) ?_) ?_
    · rw [List.map_map]
      refine List.map_congr_left fun x _ => ?_
      simp only [Function.comp, spo_1, jv, spo_2]
    refine Imp.trans (b := Own JR (dn.map (spo url)) :: pt b [.map (some r), .int .i64 most] :: Mp (intK .i64) jv r (X.map (spo url)) :: rest) (by (focus ((repeat ((with_reducible apply Imp.pick); (repeat (first | exact Pick.hd | apply Pick.tl)))); (repeat (first | exact Imp.refl _ | exact Imp.nil _ | apply Imp.drop)); done))) ?_
    refine (Own.perm (f1.map _)).trans ?_
    refine Imp.trans (by (focus ((repeat ((with_reducible apply Imp.pick); (repeat (first | exact Pick.hd | apply Pick.tl)))); (repeat (first | exact Imp.refl _ | exact Imp.nil _ | apply Imp.drop)); done))) (TR.shut (r := r) ⟨by rw [spo_keys]; exact hk.nd, by rw [spo_keys]; exact hk.kb, by rw [spo_wsum]; exact hk.wt, hk.mx⟩)
  · refine Ent.mentry (K := intK .i64) (x := (.int .i64 a : Value)) (k1 := .raw) (k2 := .raw) (by (repeat (first | exact Has.hd | apply Has.tl))) hm rfl rfl ?_
    refine Ent.bring (A := Own JR rm) ?_
    refine Ent.imp ((Own.perm hp).trans Own.cons) ?_
    have hl : dn.length + 1 + rm'.length = X.length := by have := f4.length_eq; simp at this; omega
    have hc : cntU url dn ≤ dn.length := List.length_filter_le _ _
    have next : ∀ j' : Jb, (a, q.1, j') = spo url (a, q) → Imp (JR (a, q.1, j') :: Own JR rm' :: MpI (intK .i64) jv r i X (dn.map (·.1) ++ [a]) :: Own JR (dn.map (spo url)) :: pt b [.map (some r), .int .i64 most] :: rest)
        (exs (fun (y : List Ent1 × List Ent1) => sepL [pur ((y.1 ++ y.2).Perm X ∧ (cntU url (dn ++ [(a, q)]) : Int) = (cntU url y.1 : Int) ∧ rm'.length = y.2.length), MpI (intK .i64) jv r i X (y.1.map (·.1)), Own JR (y.1.map (spo url)), Own JR y.2]) :: pt b [.map (some r), .int .i64 most] :: rest) := by
      intro j' hj'
      refine Imp.exs (dn ++ [(a, q)], rm') (Imp.g4 (Imp.pur ⟨f4, rfl, rfl⟩ ?_))
      rw [dn_snoc, hj']
      have e2 : ((dn ++ [(a, q)]).map (spo url)).Perm (spo url (a, q) :: dn.map (spo url)) := by
        rw [List.map_append]; exact (List.perm_append_comm)
      refine Imp.trans (b := JR (spo url (a, q)) :: Own JR (dn.map (spo url)) :: MpI (intK .i64) jv r i X (dn.map (·.1) ++ [a]) :: Own JR rm' :: pt b [.map (some r), .int .i64 most] :: rest) (by (focus ((repeat ((with_reducible apply Imp.pick); (repeat (first | exact Pick.hd | apply Pick.tl)))); (repeat (first | exact Imp.refl _ | exact Imp.nil _ | apply Imp.drop)); done))) ?_
      refine (Own.uncons.trans (Own.perm e2.symm)).trans ?_
      (focus ((repeat ((with_reducible apply Imp.pick); (repeat (first | exact Pick.hd | apply Pick.tl)))); (repeat (first | exact Imp.refl _ | exact Imp.nil _ | apply Imp.drop)); done))
    refine JR.open fun a2 c2 => ?_
    have hrl : rm'.length < rm.length := by have := hp.length_eq; simp at this; omega
    unfold jc
    (refine Ent.go ?_)
    refine Ent.cond (fun hu => ?_) fun hu => ?_
    · have hu' : q.2.url = url := of_decide_eq_true hu
      (refine Ent.go ?_)
      have e3 : (cntU url (dn ++ [(a, q)]) : Int) = (cntU url dn : Int) + 1 := by simp [cntU, hu']
      rw [← e3]
      refine Ent.imp ?_ (hK rm'.length hrl _)
      refine Imp.trans (JR.shut (k := a) (p := q.1) (j := { q.2 with sp := true }) (a := a2) (c := c2)) ?_
      refine Imp.trans (by (focus ((repeat ((with_reducible apply Imp.pick); (repeat (first | exact Pick.hd | apply Pick.tl)))); (repeat (first | exact Imp.refl _ | exact Imp.nil _ | apply Imp.drop)); done))) (next { q.2 with sp := true } (by unfold spo; rw [if_pos hu']))
    · have hu' : q.2.url ≠ url := of_decide_eq_false hu
      have e3 : (cntU url (dn ++ [(a, q)]) : Int) = (cntU url dn : Int) := by simp [cntU, hu']
      rw [← e3]
      refine Ent.imp ?_ (hK rm'.length hrl _)
      refine Imp.trans (JR.shut (k := a) (p := q.1) (j := q.2) (a := a2) (c := c2)) ?_
      refine Imp.trans (by (focus ((repeat ((with_reducible apply Imp.pick); (repeat (first | exact Pick.hd | apply Pick.tl)))); (repeat (first | exact Imp.refl _ | exact Imp.nil _ | apply Imp.drop)); done))) (next q.2 (by unfold spo; rw [if_neg hu']))
end
end Go.Proofs.Ytgbihlbgkkpciaa.Co
