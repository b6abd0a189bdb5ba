/-
  THE STORE (layer 21): New, Used, Drop, find, Look, Get.
-/
import Derived.Test.YtfofnagocedlgaaGreatDoorSc
set_option maxRecDepth 100000
set_option linter.unusedVariables false
set_option linter.unusedSectionVars false
set_option linter.unusedSimpArgs false
set_option maxHeartbeats 0
namespace Go.Proofs.YtfofnagocedlgaaGreatDoor.Tx
open Go Sh Sl
open Go.RowKit
attribute [local irreducible] condK ArK NilK OpK FnK StK joinK loopK DrawK andK PuK NxK EnK vS uS bS callS invokeS
theorem SC_came {X : List (Option Et)} {lb : Nat} {bytes most used : Int} {i : Nat} {x : Et} (h : X[i]? = some (some x)) : (SC X lb bytes most used)[i * 10 + 2]? = some (.int .u64 x.came) := by
  have h1 := SC_entry (lb := lb) (bytes := bytes) (most := most) (used := used) h
  have h2 : (((SC X lb bytes most used).drop (i * 10)).take 9)[2]? = some (.int .u64 x.came) := by rw [h1]; rfl
  rw [List.getElem?_take, if_pos (by omega), List.getElem?_drop] at h2
  exact h2
/-- the slot of the entry that is told -/
def cameOf (X : List (Option Et)) (j : Nat) : Int := match (X[j]?).join with
  | some y => y.came
  | none => 0
def better (X : List (Option Et)) (best : Option Nat) (x : Et) : Bool := match best with
  | none => true
  | some j => decide (x.came ≥ cameOf X j)
def fdS (url : Bs) (l : List Fd) (X : List (Option Et)) (best : Option Nat) (k : Nat) : Option Nat := match (X[k]?).join with
  | some x => if decide (x.url = url) && (forE x l && better X best x) then some k else best
  | none => best
def fdk (url : Bs) (l : List Fd) (X : List (Option Et)) : Nat → Option Nat
  | 0 => none
  | k + 1 => fdS url l X (fdk url l X k) k
theorem fdk_some {url : Bs} {l : List Fd} {X : List (Option Et)} {j : Nat} : ∀ {k : Nat}, fdk url l X k = some j → ∃ x, X[j]? = some (some x) ∧ x.url = url ∧ forE x l = true
  | 0, h => by cases h
  | k + 1, h => by
    simp only [fdk, fdS] at h
    cases ho : (X[k]?).join with
    | none => rw [ho] at h; exact fdk_some h
    | some x =>
      rw [ho] at h
      simp only at h
      split at h
      · rename_i hc
        cases h
        simp only [Bool.and_eq_true, decide_eq_true_eq] at hc
        refine ⟨x, ?_, hc.1, hc.2.1⟩
        rw [Option.join_eq_some_iff] at ho
        exact ho
      · exact fdk_some h
section
variable {e : Env} {ctx ctx' rest R : List HProp} {M : Hp} {b : Nat} {X : List (Option Et)} {tr kp : List Int} {bytes most n : Nat}
theorem find_spec {K : Int → Bool → WP} {lb : Nat} {by_ ms us : Int} {url : Bs} {a : Option Addr} {c : Nat} {l : List Fd} (hX : X.length = 64) (hh : Has rest (pt b (SC X lb by_ ms us))) (hM : Has rest (Sl.ro M)) (hrd : ∀ x, some x ∈ X → RdEM M x ∧ EB x) (hl : Rd rest a (fc l)) (hlb : fsz l ≤ 268435456)
    (h : Ent e rest (K (((fdk url l X 64).getD 0 : Nat) : Int) (fdk url l X 64).isSome)) : Ent e rest (store_Store_find (ptr b) (ba url) (.slice a l.length c) K) := by
  (refine Ent.fn store_Store_find_ok ?_; unfold store_Store_find_sh)
  refine Ent.box' fun s1 => ?_
  refine Ent.box' fun u1 => ?_
  refine Ent.box' fun l1 => ?_
  refine Ent.alloc' fun bb => ?_
  refine Ent.alloc' fun ib => ?_
  (refine Ent.go ?_)
  (refine Ent.fn store_Store_all_ok ?_; unfold store_Store_all_sh)
  refine Ent.box' fun sb => ?_
  refine Ent.rf callable_all (args := fun q => [.func (.yield (q + 1)) #[] #[], ptr sb]) (fun q => rfl) fun q r0 hr => ?_
  refine Ent.imp (ctx' := Sl.ob (q + 1) (lp r0 .ready none) :: pt sb [ptr b] :: pt bb [.int .i64 0] :: pt ib [.bool false] :: pt s1 [ptr b] :: pt u1 [.string (ba url)] :: pt l1 [.slice a l.length c] :: Sl.ob q (.deferred (some [])) :: rest) (by (focus ((repeat ((with_reducible apply Imp.pick); (repeat (first | exact Pick.hd | apply Pick.tl)))); (repeat (first | exact Imp.refl _ | exact Imp.nil _ | apply Imp.drop)); done))) ?_
  refine all_iter hX _ (fun k => pt bb [.int .i64 (((fdk url l X k).getD 0 : Nat) : Int)] :: pt ib [.bool (fdk url l X k).isSome] :: pt s1 [ptr b] :: pt u1 [.string (ba url)] :: pt l1 [.slice a l.length c] :: Sl.ob q (.deferred (some [])) :: rest) (.tl (.tl (.tl (.tl (.tl (.tl hh)))))) (Imp.refl _) (fun k x cc hx hk64 hnext => ?_) (fun k hkn => ?_) ?_
  · obtain ⟨hrx, hbx⟩ := hrd x (List.mem_of_getElem? hx)
    have hjoin : (X[k]?).join = some x := by rw [hx]; rfl
    have hs : fdk url l X (k + 1) = if decide (x.url = url) && (forE x l && better X (fdk url l X k) x) then some k else fdk url l X k := by
      simp only [fdk, fdS, hjoin]
    refine Ent.yield hr (by (repeat (first | exact Has.hd | apply Has.tl))) ?_
    show Ent e _ (oR _ _)
    refine Ent.alloc' fun eb => ?_
    (refine Ent.go ?_)
    refine Ent.bg (by (repeat (first | exact Upd.hd | apply Upd.tl))) ?_
    refine Ent.join1 (kd := .bool) (fun v => pur (v = (decide (x.url = url) && (forE x l && better X (fdk url l X k) x))) :: Sl.ob (q + 1) (lp r0 .busy none) :: pt bb [.int .i64 (((fdk url l X k).getD 0 : Nat) : Int)] :: pt ib [.bool (fdk url l X k).isSome] :: pt s1 [ptr b] :: pt u1 [.string (ba url)] :: pt l1 [.slice a l.length c] :: Sl.ob q (.deferred (some [])) :: rest) ?_ ?_
    rotate_left
    · intro k' hk'
      have fin : ∀ v, v = (decide (x.url = url) && (forE x l && better X (fdk url l X k) x)) → Ent e (pt eb (ec x) :: Sl.ob (q + 1) (lp r0 .busy none) :: pt bb [.int .i64 (((fdk url l X k).getD 0 : Nat) : Int)] :: pt ib [.bool (fdk url l X k).isSome] :: pt s1 [ptr b] :: pt u1 [.string (ba url)] :: pt l1 [.slice a l.length c] :: Sl.ob q (.deferred (some [])) :: rest) (k' v) := fun v hv =>
        Ent.imp (Imp.pur hv (Imp.drop (Imp.refl _))) (hk' v)
      (refine Ent.go ?_)
      by_cases h1 : x.url = url
      rotate_left
      · refine Ent.wF ?_ (decide_eq_false fun hh => h1 (ba_inj.1 hh))
        exact fin false (by rw [decide_eq_false h1]; rfl)
      refine Ent.wT ?_ (decide_eq_true (by rw [h1]))
      refine Ent.stR (v := .agg (ec x).toArray) (st_loadA (n := 9) .hd rfl rfl rfl) ?_
      (refine Ent.go ?_)
      refine for_spec (hrx.rd (.tl (.tl (.tl (.tl (.tl (.tl (.tl (.tl hM))))))))) hbx (hl.mono (Imp.drop (Imp.drop (Imp.drop (Imp.drop (Imp.drop (Imp.drop (Imp.drop (Imp.drop (Imp.refl _)))))))))) hlb ?_
      (refine Ent.go ?_)
      cases h2 : forE x l with
      | false =>
        refine Ent.wF ?_
        exact fin false (by rw [h2, decide_eq_true h1]; rfl)
      | true =>
        refine Ent.wT ?_
        (refine Ent.go ?_)
        cases h3 : fdk url l X k with
        | none =>
          refine Ent.wT ?_ rfl
          rw [h3] at fin
          exact fin true (by rw [h2, decide_eq_true h1]; rfl)
        | some j =>
          obtain ⟨y, hy, _⟩ := fdk_some h3
          have hj : j < 64 := by have := (List.getElem?_eq_some_iff.1 hy).1; omega
          refine Ent.wF ?_ rfl
          rw [h3] at fin
          (refine Ent.go ?_)
          refine Ent.puR (st_ixA (m := 64) (sz := 10) rfl rfl (by show (0 : Int) ≤ ((j : Nat) : Int); omega) (by show ((j : Nat) : Int) < _; omega)) ?_
          refine Ent.puR (st_field (off := 0) rfl) ?_
          refine Ent.puR (st_field (off := 2) rfl) ?_
          refine Ent.stI (k := .u64) (n := y.came) (st_load (.tl (.tl (.tl (.tl (.tl (.tl (.tl (.tl hh)))))))) rfl ?_) ?_
          · show (SC X lb by_ ms us)[0 + 0 + ((j : Nat) : Int).toNat * 10 + 0 + 2]? = _
            rw [Int.toNat_natCast, show 0 + 0 + j * 10 + 0 + 2 = j * 10 + 2 by omega]
            exact SC_came hy
          refine fin _ ?_
          have : cameOf X j = y.came := by unfold cameOf; rw [hy]; rfl
          rw [h2, decide_eq_true h1]
          simp only [better, this, Bool.true_and]
    intro v
    refine Ent.pur fun hv => ?_
    subst hv
    cases hc : (decide (x.url = url) && (forE x l && better X (fdk url l X k) x)) with
    | true =>
      rw [hc, if_pos rfl] at hs
      refine Ent.wT ?_
      (refine Ent.go ?_)
      refine Ent.dn (by (repeat (first | exact Upd.hd | apply Upd.tl))) ?_
      refine Ent.imp ?_ hnext
      rw [hs]
      exact Imp.refl _
    | false =>
      rw [hc, if_neg (by decide)] at hs
      refine Ent.wF ?_
      refine Ent.dn (by (repeat (first | exact Upd.hd | apply Upd.tl))) ?_
      refine Ent.imp ?_ hnext
      rw [hs]
      exact Imp.refl _
  · have hs : fdk url l X (k + 1) = fdk url l X k := by simp only [fdk, fdS, hkn]; rfl
    rw [hs]
    exact Imp.refl _
  · refine Ent.ed (st := .ready) (fun h => by cases h) (by (repeat (first | exact Upd.hd | apply Upd.tl))) ?_
    show Ent e _ (JmK _ _ _ none)
    unfold JmK
    dsimp only
    (refine Ent.go ?_)
    refine Ent.tk (by (repeat (first | exact Upd.hd | apply Upd.tl))) ?_
    refine Ent.imp ?_ h
    (focus ((repeat ((with_reducible apply Imp.pick); (repeat (first | exact Pick.hd | apply Pick.tl)))); (repeat (first | exact Imp.refl _ | exact Imp.nil _ | apply Imp.drop)); done))
end
end Go.Proofs.YtfofnagocedlgaaGreatDoor.Tx
