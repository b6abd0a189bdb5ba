/-
  COLLAPSE (layer 24): Leave; the awake test; Same.
-/
import Derived.Test.YtgbihlbgkkpciaaCq
set_option maxRecDepth 100000
set_option linter.unusedVariables false
set_option linter.unusedSectionVars false
set_option linter.unusedSimpArgs false
set_option maxHeartbeats 0
namespace Go.Proofs.Ytgbihlbgkkpciaa.Co
open Go Sh Sl
attribute [local irreducible] condK ArK NilK OpK FnK StK joinK loopK DrawK andK PuK NxK EnK vS uS bS callS invokeS
section
variable {e : Env} {ctx rest : List HProp} {most b : Nat} {X : List Ent1}
def lv (j : Jb) (s : Int) : Jb := { j with ld := if j.ld = s then -1 else j.ld, ws := wo j.ws s }
theorem wo_len (l : List Int) (v : Int) : (wo l v).length ≤ l.length := List.length_filter_le _ _
theorem leave_spec {K : Bool → WP} {slot : Int} (h0 : (∀ x ∈ X, hasB x.2.2 slot = false) → Ent e (TR b X most :: rest) (K false))
    (h1 : ∀ c p j, mfind c X = some (p, j) → hasB j slot = true → Ent e (TR b (mset c (p, lv j slot) X) most :: rest) (K true)) :
    Ent e (TR b X most :: rest) (collapse_Table_Leave (tv b) slot K) := by
  (refine Ent.fn collapse_Table_Leave_ok ?_; unfold collapse_Table_Leave_sh)
  refine Ent.box' fun bs => ?_
  (refine Ent.go ?_)
  refine Ent.bring (A := TR b X most) ?_
  refine of_spec (fun c q hf hp => ?_) (fun hall => ?_)
  rotate_left
  · (refine Ent.go ?_)
    exact Ent.imp (by (focus ((repeat ((with_reducible apply Imp.pick); (repeat (first | exact Pick.hd | apply Pick.tl)))); (repeat (first | exact Imp.refl _ | exact Imp.nil _ | apply Imp.drop)); done))) (h0 hall)
  obtain ⟨p, j⟩ := q
  dsimp only at hp
  refine Ent.wF ?_
  refine TR.open fun r hk => ?_
  have hfm := mfind_mem hf
  have hlw : j.ws.length ≤ wsum X := len_wsum hfm
  have hmx := hk.mx
  have hwt := hk.wt
  (refine Ent.go ?_)
  refine Ent.opR (st_mgetT (K := intK .i64) (vf := jv) (a := c) (b := (p, j)) (by (repeat (first | exact Has.hd | apply Has.tl))) rfl rfl hf) ?_
  refine Ent.bring (A := Own JR X) ?_
  refine Ent.imp (Own.take hf) ?_
  refine JR.open fun a c2 => ?_
  dsimp only
  obtain ⟨l2, hl2⟩ : ∃ l2, l2 = if j.ld = slot then -1 else j.ld := ⟨_, rfl⟩
  refine Ent.join0 (pt p [.string j.url, .bool j.sh, .bool j.sp, .int .i64 l2, .slice a j.ws.length c2] :: SlO a j.ws.length c2 1 (ii j.ws) :: Own JR (mdel c X) :: pt b [.map (some r), .int .i64 most] :: Mp (intK .i64) jv r X :: pt bs [.int .i64 slot] :: rest) ?_ ?_
  rotate_left
  · intro k' hk'
    unfold jc
    by_cases he : j.ld = slot
    · rw [if_pos he] at hl2
      subst hl2
      (refine Ent.go ?_)
      exact hk'
    · rw [if_neg he] at hl2
      subst hl2
      (refine Ent.go ?_)
      exact hk'
  (refine Ent.go ?_)
  refine Ent.imp (ctx' := SlO a j.ws.length c2 1 (ii j.ws) :: pt bs [.int .i64 slot] :: pt p [.string j.url, .bool j.sh, .bool j.sp, .int .i64 l2, .slice a j.ws.length c2] :: Own JR (mdel c X) :: pt b [.map (some r), .int .i64 most] :: Mp (intK .i64) jv r X :: rest) (by (focus ((repeat ((with_reducible apply Imp.pick); (repeat (first | exact Pick.hd | apply Pick.tl)))); (repeat (first | exact Imp.refl _ | exact Imp.nil _ | apply Imp.drop)); done))) ?_
  refine deletef_spec rfl (by omega) fun a2 => ?_
  (refine Ent.go ?_)
  refine Ent.imp ?_ (h1 c p j hf hp)
  have hlv : lv j slot = ⟨j.url, j.sh, j.sp, l2, wo j.ws slot⟩ := by rw [hl2]; rfl
  rw [hlv]
  have hw3 := wo_len j.ws slot
  refine Imp.trans (b := JR (c, p, ⟨j.url, j.sh, j.sp, l2, wo j.ws slot⟩) :: Own JR (mdel c X) :: pt b [.map (some r), .int .i64 most] :: Mp (intK .i64) jv r X :: rest) ?_ ?_
  · refine Imp.trans ?_ (JR.shut (k := c) (p := p) (j := ⟨j.url, j.sh, j.sp, l2, wo j.ws slot⟩) (a := a2) (c := c2))
    unfold jc
    (focus ((repeat ((with_reducible apply Imp.pick); (repeat (first | exact Pick.hd | apply Pick.tl)))); (repeat (first | exact Imp.refl _ | exact Imp.nil _ | apply Imp.drop)); done))
  · refine Own.put.trans ?_
    refine Imp.trans (b := Mp (intK .i64) jv r X :: Own JR (mset c (p, ⟨j.url, j.sh, j.sp, l2, wo j.ws slot⟩) X) :: pt b [.map (some r), .int .i64 most] :: rest) (by (focus ((repeat ((with_reducible apply Imp.pick); (repeat (first | exact Pick.hd | apply Pick.tl)))); (repeat (first | exact Imp.refl _ | exact Imp.nil _ | apply Imp.drop)); done))) ?_
    refine (Mp.set_same (j' := ⟨j.url, j.sh, j.sp, l2, wo j.ws slot⟩) hf).trans ?_
    refine Imp.trans (by (focus ((repeat ((with_reducible apply Imp.pick); (repeat (first | exact Pick.hd | apply Pick.tl)))); (repeat (first | exact Imp.refl _ | exact Imp.nil _ | apply Imp.drop)); done))) (TR.shut (r := r) (hk.set hf ?_))
    dsimp only; omega
theorem same_spec {K : Bool → WP} {a a' : Option Addr} {n c c' : Nat} {l : List Int} (hn : l.length = n) (hb : n ≤ 65536) (hr : Rd rest a (ii l)) (hr' : Rd rest a' (ii l)) (h : Ent e rest (K true)) :
    Ent e rest (ref20_Same (.slice a n c) (.slice a' n c') K) := by
  (refine Ent.fn ref20_Same_ok ?_; unfold ref20_Same_sh)
  (refine Ent.go ?_)
  refine Ent.rngL0 n (fun k => rest) rfl (Imp.refl _) ?_
  intro k hk K' hK
  (refine Ent.go ?_)
  by_cases hkn : k < n
  · obtain ⟨x, hx⟩ : ∃ x, l[(k : Int).toNat]? = some x := ⟨_, List.getElem?_eq_getElem (by simpa [hn] using hkn)⟩
    have hx2 : (ii l)[(k : Int).toNat]? = some (.int .i64 x) := by simp only [ii, List.getElem?_map, hx]; rfl
    refine Ent.wT ?_ (by simpa using hkn)
    refine Ent.draw rest (Imp.refl _) ?_
    refine Ent.wjIr (n := n) hr ?_ rfl rfl rfl (by omega) (by omega) hx2
    refine Ent.wjIr (n := n) hr' ?_ rfl rfl rfl (by omega) (by omega) hx2
    refine Ent.wF ?_ (by simp)
    (refine Ent.go ?_)
    exact hK hkn
  · (refine Ent.go ?_)
    exact h
end
end Go.Proofs.Ytgbihlbgkkpciaa.Co
