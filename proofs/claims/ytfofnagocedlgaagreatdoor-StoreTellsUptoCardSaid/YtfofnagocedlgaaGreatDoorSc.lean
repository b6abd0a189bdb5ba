/-
  THE STORE (layer 21): those entries go of which a question says so.
-/
import Derived.Test.YtfofnagocedlgaaGreatDoorSb
set_option maxRecDepth 100000
set_option linter.unusedVariables false
set_option linter.unusedSectionVars false
set_option linter.unusedSimpArgs false
set_option maxHeartbeats 0
namespace Go.Proofs.YtfofnagocedlgaaGreatDoor.Tx
open Go Sh Sl
open Go.RowKit
attribute [local irreducible] condK ArK NilK OpK FnK StK joinK loopK DrawK andK PuK NxK EnK vS uS bS callS invokeS
/-- what a slot holds behind it -/
def gq (pd : Et → Bool) (o : Option Et) : Option Et := match o with
  | some x => if pd x then none else some x
  | none => none
def gX (pd : Et → Bool) (X : List (Option Et)) (k : Nat) : List (Option Et) := (X.take k).map (gq pd) ++ X.drop k
def qo (pd : Et → Bool) (o : Option Et) : Bool := match o with
  | some x => pd x
  | none => false
def gA (pd : Et → Bool) (X : List (Option Et)) (k : Nat) (y : Int) : Bool := decide (0 ≤ y) && (decide (y < (k : Int)) && qo pd (X[y.toNat]?).join)
def gL (pd : Et → Bool) (X : List (Option Et)) (k : Nat) (l : List Int) : List Int := l.filter fun y => !gA pd X k y
def gN (pd : Et → Bool) (X : List (Option Et)) (k : Nat) : Nat := ((X.take k).filter (qo pd)).length
section
variable {pd : Et → Bool} {X : List (Option Et)} {k : Nat}
theorem gX_0 : gX pd X 0 = X := by simp [gX]
theorem gX_at {o : Option Et} (h : X[k]? = some o) : (gX pd X k)[k]? = some o := by
  have hk := (List.getElem?_eq_some_iff.1 h).1
  unfold gX
  rw [List.getElem?_append_right (by simp; omega), List.getElem?_drop]
  have : k + (k - ((X.take k).map (gq pd)).length) = k := by simp; omega
  rw [this]; exact h
theorem gX_next {o : Option Et} (h : X[k]? = some o) : gX pd X (k + 1) = (gX pd X k).set k (gq pd o) := by
  have hk := (List.getElem?_eq_some_iff.1 h).1
  have hd : X.drop k = o :: X.drop (k + 1) := by
    have hg := List.getElem?_eq_getElem hk
    rw [h] at hg
    rw [Option.some.inj hg, List.getElem_cons_drop]
  unfold gX
  rw [List.set_append_right _ _ (by simp; omega)]
  have : k - ((X.take k).map (gq pd)).length = 0 := by simp; omega
  rw [this, hd, take_snoc h]
  simp
theorem gX_same {o : Option Et} (h : X[k]? = some o) (hg : gq pd o = o) : gX pd X (k + 1) = gX pd X k := by
  rw [gX_next h, hg]
  exact set_self (gX_at h)
theorem gL_0 {l : List Int} : gL pd X 0 l = l := by
  unfold gL
  refine List.filter_eq_self.2 fun y _ => ?_
  unfold gA
  by_cases h : 0 ≤ y
  · rw [decide_eq_false (by omega : ¬ y < ((0 : Nat) : Int))]
    simp
  · rw [decide_eq_false h]; rfl
theorem gA_next {o : Option Et} (h : X[k]? = some o) (y : Int) : gA pd X (k + 1) y = (gA pd X k y || (decide (y = (k : Int)) && qo pd o)) := by
  unfold gA
  by_cases h1 : y = (k : Int)
  · subst h1
    rw [Int.toNat_natCast, h]
    rw [decide_eq_true (by omega : (0 : Int) ≤ (k : Int)), decide_eq_true (by omega : (k : Int) < ((k + 1 : Nat) : Int)), decide_eq_false (by omega : ¬ (k : Int) < (k : Int))]
    simp
  · rw [decide_eq_false h1]
    have : decide (y < ((k + 1 : Nat) : Int)) = decide (y < (k : Int)) := decide_eq_decide.2 (by omega)
    rw [this]
    simp
theorem gL_out {x : Et} {l : List Int} (h : X[k]? = some (some x)) (hp : pd x = true) : gL pd X (k + 1) l = Lr.out (gL pd X k l) k := by
  unfold gL Lr.out
  rw [List.filter_filter]
  refine List.filter_congr fun y _ => ?_
  rw [gA_next h y]
  have : qo pd (some x) = true := hp
  rw [this, Bool.and_true]
  by_cases h1 : y = (k : Int) <;> simp [h1]
theorem gL_same {o : Option Et} {l : List Int} (h : X[k]? = some o) (hg : qo pd o = false) : gL pd X (k + 1) l = gL pd X k l := by
  unfold gL
  refine List.filter_congr fun y _ => ?_
  rw [gA_next h y, hg, Bool.and_false, Bool.or_false]
theorem gN_next {o : Option Et} (h : X[k]? = some o) : gN pd X (k + 1) = gN pd X k + (if qo pd o then 1 else 0) := by
  unfold gN
  rw [take_snoc h, List.filter_append, List.length_append]
  congr 1
  cases hp : qo pd o <;> simp [hp]
end
section
variable {e : Env} {ctx ctx' rest R : List HProp} {M : Hp} {b : Nat} {X : List (Option Et)} {tr kp : List Int} {bytes most n : Nat}
theorem gone_spec {K : Int → WP} {f : Nat} {cap : List Value} {CB : List HProp} (pd : Et → Bool) (hf : memN cll f = true)
    (hw : ∀ (R : List HProp) (x : Et) (k : Bool → WP), Has R (Sl.ro M) → Imp R rest → RdEM M x → EB x → Ent e (CB ++ R) (k (pd x)) → Ent e (CB ++ R) (FnK P (.one .bool) f (#[.agg (ec x).toArray] ++ cap.toArray) k))
    (h : Ent e (SRep M b (gX pd X 64) (gL pd X 64 tr) (gL pd X 64 kp) bytes most n :: Sl.ro M :: (CB ++ rest)) (K (gN pd X 64 : Int))) :
    Ent e (SRep M b X tr kp bytes most n :: Sl.ro M :: (CB ++ rest)) (store_Store_gone (ptr b) (.func (.func f) #[] cap.toArray) K) := by
  (refine Ent.fn store_Store_gone_ok ?_; unfold store_Store_gone_sh)
  refine SRep.open fun lb hk => ?_
  have hX := hk.len
  refine Ent.box' fun s1 => ?_
  refine Ent.box' (l := [.func (.func f) #[] cap.toArray]) (fun i1 => ?_) rfl
  refine Ent.alloc' fun nb => ?_
  (refine Ent.go ?_)
  (refine Ent.fn store_Store_all_ok ?_; unfold store_Store_all_sh)
  refine Ent.box' fun sb => ?_
  refine Ent.rf callable_all (args := fun q => [.func (.yield (q + 1)) #[] #[], ptr sb]) (fun q => rfl) fun q r0 hr => ?_
  have hcl : ∀ k, gN pd X k ≤ 64 := fun k => by
    unfold gN
    refine Nat.le_trans (List.length_filter_le _ _) ?_
    simp; omega
  refine Ent.imp (ctx' := Sl.ob (q + 1) (lp r0 .ready none) :: pt sb [ptr b] :: pt b (SC X lb bytes most (used X)) :: Lr.LRep lb tr kp (most * 2 / 3) n :: pt nb [.int .i64 0] :: pt s1 [ptr b] :: pt i1 [.func (.func f) #[] cap.toArray] :: Sl.ob q (.deferred (some [])) :: Sl.ro M :: (CB ++ rest)) (by (focus ((repeat ((with_reducible apply Imp.pick); (repeat (first | exact Pick.hd | apply Pick.tl)))); (repeat (first | exact Imp.refl _ | exact Imp.nil _ | apply Imp.drop)); done))) ?_
  refine all_iter hX _ (fun k => SRep M b (gX pd X k) (gL pd X k tr) (gL pd X k kp) bytes most n :: pt nb [.int .i64 (gN pd X k : Int)] :: pt s1 [ptr b] :: pt i1 [.func (.func f) #[] cap.toArray] :: Sl.ob q (.deferred (some [])) :: Sl.ro M :: (CB ++ rest)) .hd ?_ (fun k x c hx hk64 hnext => ?_) (fun k hkn => ?_) ?_
  · rw [gX_0, gL_0, gL_0]
    exact SRep.shut hk
  · obtain ⟨hrx, hbx⟩ := hk.rd x (List.mem_of_getElem? hx)
    have h1 := gN_next (pd := pd) hx
    have h2 := hcl k
    refine Ent.yield hr (by (repeat (first | exact Has.hd | apply Has.tl))) ?_
    show Ent e _ (oR _ _)
    refine Ent.alloc' fun eb => ?_
    (refine Ent.go ?_)
    refine Ent.bg (by (repeat (first | exact Upd.hd | apply Upd.tl))) ?_
    (refine Ent.go ?_)
    refine Ent.callF hf ?_
    refine Ent.imp (ctx' := CB ++ (pt eb (ec x) :: Sl.ob (q + 1) (lp r0 .busy none) :: SRep M b (gX pd X k) (gL pd X k tr) (gL pd X k kp) bytes most n :: pt nb [.int .i64 (gN pd X k : Int)] :: pt s1 [ptr b] :: pt i1 [.func (.func f) #[] cap.toArray] :: Sl.ob q (.deferred (some [])) :: Sl.ro M :: rest)) ?_ (hw _ x _ (by (repeat (first | exact Has.hd | apply Has.tl))) (by (focus (repeat (first | exact Imp.refl _ | exact Imp.nil _ | apply Imp.drop)))) hrx hbx ?_)
    · exact Imp.perm (by
        have := (List.perm_append_comm (l₁ := CB) (l₂ := [pt eb (ec x), Sl.ob (q + 1) (lp r0 .busy none), SRep M b (gX pd X k) (gL pd X k tr) (gL pd X k kp) bytes most n, pt nb [.int .i64 (gN pd X k : Int)], pt s1 [ptr b], pt i1 [.func (.func f) #[] cap.toArray], Sl.ob q (.deferred (some [])), Sl.ro M])).append_right rest
        simpa using this.symm)
    refine Ent.imp (ctx' := SRep M b (gX pd X k) (gL pd X k tr) (gL pd X k kp) bytes most n :: Sl.ro M :: pt eb (ec x) :: Sl.ob (q + 1) (lp r0 .busy none) :: pt nb [.int .i64 (gN pd X k : Int)] :: pt s1 [ptr b] :: pt i1 [.func (.func f) #[] cap.toArray] :: Sl.ob q (.deferred (some [])) :: (CB ++ rest)) ?_ ?_
    · refine Imp.trans (b := pt eb (ec x) :: Sl.ob (q + 1) (lp r0 .busy none) :: SRep M b (gX pd X k) (gL pd X k tr) (gL pd X k kp) bytes most n :: pt nb [.int .i64 (gN pd X k : Int)] :: pt s1 [ptr b] :: pt i1 [.func (.func f) #[] cap.toArray] :: Sl.ob q (.deferred (some [])) :: Sl.ro M :: (CB ++ rest)) (Imp.perm (by
        have := (List.perm_append_comm (l₁ := CB) (l₂ := [pt eb (ec x), Sl.ob (q + 1) (lp r0 .busy none), SRep M b (gX pd X k) (gL pd X k tr) (gL pd X k kp) bytes most n, pt nb [.int .i64 (gN pd X k : Int)], pt s1 [ptr b], pt i1 [.func (.func f) #[] cap.toArray], Sl.ob q (.deferred (some [])), Sl.ro M])).append_right rest
        simpa using this)) (by (focus ((repeat ((with_reducible apply Imp.pick); (repeat (first | exact Pick.hd | apply Pick.tl)))); (repeat (first | exact Imp.refl _ | exact Imp.nil _ | apply Imp.drop)); done)))
    cases hp : pd x with
    | true =>
      have g1 : gX pd X (k + 1) = (gX pd X k).set k none := by rw [gX_next hx]; simp [gq, hp]
      rw [g1, gL_out hx hp, gL_out hx hp] at hnext
      refine Ent.wT ?_
      (refine Ent.go ?_)
      refine out_spec (x := x) (gX_at hx) ?_
      (refine Ent.go ?_)
      refine Ent.dn (by (repeat (first | exact Upd.hd | apply Upd.tl))) ?_
      refine Ent.imp ?_ hnext
      rw [h1]
      rw [show qo pd (some x) = true from hp]
      (focus ((repeat ((with_reducible apply Imp.pick); (repeat (first | exact Pick.hd | apply Pick.tl)))); (repeat (first | exact Imp.refl _ | exact Imp.nil _ | apply Imp.drop)); done))
    | false =>
      have g1 : gX pd X (k + 1) = gX pd X k := gX_same hx (by simp [gq, hp])
      rw [g1, gL_same hx hp, gL_same hx hp] at hnext
      refine Ent.wF ?_
      refine Ent.dn (by (repeat (first | exact Upd.hd | apply Upd.tl))) ?_
      refine Ent.imp ?_ hnext
      rw [h1, show qo pd (some x) = false from hp]
      (focus ((repeat ((with_reducible apply Imp.pick); (repeat (first | exact Pick.hd | apply Pick.tl)))); (repeat (first | exact Imp.refl _ | exact Imp.nil _ | apply Imp.drop)); done))
  · rw [gX_same hkn rfl, gL_same hkn rfl, gL_same hkn rfl, gN_next hkn]
    exact Imp.refl _
  · refine Ent.ed (st := .ready) (fun h => by cases h) (by (repeat (first | exact Upd.hd | apply Upd.tl))) ?_
    show Ent e _ (JmK _ _ _ none)
    unfold JmK
    dsimp only
    (refine Ent.go ?_)
    refine Ent.tk (by (repeat (first | exact Upd.hd | apply Upd.tl))) ?_
    refine Ent.imp ?_ h
    (focus ((repeat ((with_reducible apply Imp.pick); (repeat (first | exact Pick.hd | apply Pick.tl)))); (repeat (first | exact Imp.refl _ | exact Imp.nil _ | apply Imp.drop)); done))
end
end Go.Proofs.YtfofnagocedlgaaGreatDoor.Tx
