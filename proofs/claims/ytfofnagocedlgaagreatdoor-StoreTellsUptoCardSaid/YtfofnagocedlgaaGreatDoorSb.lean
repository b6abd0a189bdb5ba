/-
  THE STORE (layer 21): an entry goes; how many there are; those go of which a question says so.
-/
import Derived.Test.YtfofnagocedlgaaGreatDoorSa
set_option maxRecDepth 100000
set_option linter.unusedVariables false
set_option linter.unusedSectionVars false
set_option linter.unusedSimpArgs false
set_option maxHeartbeats 0
namespace Go.Proofs.YtfofnagocedlgaaGreatDoor.Tx
open Go Sh Sl
open Go.RowKit
attribute [local irreducible] condK ArK NilK OpK FnK StK joinK loopK DrawK andK PuK NxK EnK vS uS bS callS invokeS
theorem used_set {X : List (Option Et)} {i : Nat} {x : Et} (h : X[i]? = some (some x)) : used (X.set i none) + size x = used X := by
  induction X generalizing i with
  | nil => simp at h
  | cons o X ih =>
    cases i with
    | zero =>
      simp only [List.getElem?_cons_zero, Option.some.injEq] at h
      subst h
      simp [used]; omega
    | succ i =>
      simp only [List.getElem?_cons_succ] at h
      have := ih h
      simp [used] at this ⊢
      omega
theorem used_ge {X : List (Option Et)} {i : Nat} {x : Et} (h : X[i]? = some (some x)) : size x ≤ used X := by
  have := used_set h
  omega
theorem size_b {x : Et} (hb : EB x) : size x ≤ 2147483648 := by
  have h1 := hb.u
  have h2 := hb.r
  have h3 := hb.b
  have h4 := hb.w
  have h5 := hb.f
  have hw := fzn_le x.wl
  have hf := fzn_le x.fl
  unfold size
  omega
theorem SOk.out {M : Hp} {X : List (Option Et)} {tr kp : List Int} {bytes most i : Nat} {x : Et} (hk : SOk M X tr kp bytes most) (hx : X[i]? = some (some x)) : SOk M (X.set i none) (Lr.out tr i) (Lr.out kp i) bytes most := by
  have hi := (List.getElem?_eq_some_iff.1 hx).1
  refine ⟨by rw [List.length_set]; exact hk.len, fun y hy => ?_, fun j => ?_, ?_, hk.by_, hk.ms, fun j hj y hy => ?_⟩
  · rcases List.mem_or_eq_of_mem_set hy with h | h
    · exact hk.rd y h
    · cases h
  · have := hk.mem j
    simp only [List.mem_append, Lr.mem_out] at this ⊢
    rw [List.getElem?_set]
    by_cases hij : i = j
    · subst hij
      simp [hi]
    · rw [if_neg hij, this]
      have : ¬ (j : Int) = (i : Int) := by omega
      simp [this]
  · have := used_set hx
    have := hk.us
    omega
  · rw [List.getElem?_set] at hy
    split at hy
    · cases hy
    · exact hk.lt j hj y hy
section
variable {e : Env} {ctx ctx' rest R : List HProp} {M : Hp} {b : Nat} {X : List (Option Et)} {tr kp : List Int} {bytes most n : Nat}
/-- a whole number that lies in a field -/
theorem nIat {t i off b : Nat} {l : List Value} {v : Int} {c : Int → WP} (hf : fld t i = some off) (hh : Has ctx (pt b l)) (hv : l[0 + off]? = some (.int .i64 v)) (h : Ent e ctx (c v)) : Ent e ctx (nI t (ptr b) i 3 .i64 c) :=
  Ent.nil (Ent.opR (st_field hf).still (Ent.opI (st_load hh rfl hv) h))
theorem hIat {t i off b : Nat} {l : List Value} {v : Int} {c : Int → WP} (hf : fld t i = some off) (hh : Has R (pt b l)) (hv : l[0 + off]? = some (.int .i64 v)) (h : Ent e ctx (c v)) : Ent e ctx (hI (Sat e (sepL R)) t (ptr b) i 3 .i64 c) :=
  Ent.nil (Ent.puR (st_field hf) (Ent.stI (st_load hh rfl hv) h))
theorem nRat {t i off b u : Nat} {l : List Value} {v : Value} {c : Value → WP} (hf : fld t i = some off) (hu : sc u = true) (hh : Has ctx (pt b l)) (hv : l[0 + off]? = some v) (h : Ent e ctx (c v)) : Ent e ctx (nR t (ptr b) i u c) :=
  Ent.nil (Ent.opR (st_field hf).still (Ent.opR (st_load hh hu hv) h))
theorem out_spec {K : Value → WP} {i : Nat} {x : Et} (hx : X[i]? = some (some x)) (h : Ent e (SRep M b (X.set i none) (Lr.out tr i) (Lr.out kp i) bytes most n :: Sl.ro M :: rest) (K (.tuple #[]))) :
    Ent e (SRep M b X tr kp bytes most n :: Sl.ro M :: rest) (store_Store_out (ptr b) i K) := by
  (refine Ent.fn store_Store_out_ok ?_; unfold store_Store_out_sh)
  refine SRep.open fun lb hk => ?_
  have hX := hk.len
  have hi : i < 64 := by have := (List.getElem?_eq_some_iff.1 hx).1; omega
  obtain ⟨hrx, hbx⟩ := hk.rd x (List.mem_of_getElem? hx)
  have hus := used_set hx
  have hu2 := hk.us
  have hb2 := hk.by_
  refine Ent.draw [pt b (SC X lb bytes most (used X))] (by (focus ((repeat ((with_reducible apply Imp.pick); (repeat (first | exact Pick.hd | apply Pick.tl)))); (repeat (first | exact Imp.refl _ | exact Imp.nil _ | apply Imp.drop)); done))) ?_
  refine hIat rfl (by (repeat (first | exact Has.hd | apply Has.tl))) (SC_used hX) ?_
  refine Ent.nil ?_
  refine Ent.puR (st_field (off := 0) rfl) ?_
  refine Ent.puR (st_ixA (m := 64) (sz := 10) rfl rfl (by omega) (by omega)) ?_
  refine Ent.puR (st_field (off := 0) rfl) ?_
  refine Ent.stR (v := .agg (ec x).toArray) (st_loadA (n := 9) .hd rfl (by rw [show 0 + 0 + (i : Int).toNat * 10 + 0 = i * 10 by omega]; exact SC_entry hx) rfl) ?_
  refine size_spec (hrx.rd (by (repeat (first | exact Has.hd | apply Has.tl)))) hbx ?_
  refine Ent.wand ?_
  refine Ent.ar (in_i64 (by omega) (by omega)) ?_
  refine Ent.nil ?_
  refine Ent.puR (st_field (off := 643) rfl) ?_
  refine Ent.store (l := SC X lb bytes most (used X)) (by (repeat (first | exact Upd.hd | apply Upd.tl))) rfl rfl (by rw [SC_len hX]; omega) ?_
  rw [SC_setUsed hX]
  refine Ent.opR (v := .agg (slC none).toArray) (by apply Pu.still; apply st_build; exact rfl; exact rfl; exact rfl) ?_
  refine Ent.nil ?_
  refine Ent.opR (st_field (off := 0) rfl).still ?_
  refine Ent.opR (st_ixA (m := 64) (sz := 10) rfl rfl (by omega) (by omega)).still ?_
  refine Ent.storeA (l := SC X lb bytes most (used X - size x)) (vs := slC none) (n := 10) Upd.hd rfl rfl rfl (by rw [SC_len hX]; omega) ?_
  rw [Int.toNat_natCast, SC_setSlot (by omega)]
  refine nRat (off := 640) rfl rfl .hd (SC_list (by rw [List.length_set]; exact hX)) ?_
  refine Ent.bring (A := Lr.LRep lb tr kp (most * 2 / 3) n) ?_
  have hmem : (i : Int) ∈ tr ++ kp := (hk.mem i).1 ⟨x, hx⟩
  have eus : ((used X : Int) - (size x : Int)) = ((used (X.set i none) : Nat) : Int) := by omega
  rw [eus]
  refine Lr.remove_spec (fun hn => absurd ?_ hn) fun _ _ _ => ?_
  · unfold Lr.toC
    rw [if_neg (by omega), if_pos hmem]
  · refine Ent.imp ?_ h
    refine Imp.trans ?_ (SRep.shut (lb := lb) (hk.out hx))
    (focus ((repeat ((with_reducible apply Imp.pick); (repeat (first | exact Pick.hd | apply Pick.tl)))); (repeat (first | exact Imp.refl _ | exact Imp.nil _ | apply Imp.drop)); done))
theorem cnt_take {X : List (Option Et)} {k : Nat} {o : Option Et} (h : X[k]? = some o) : cnt (X.take (k + 1)) = cnt (X.take k) + (if o.isSome then 1 else 0) := by
  unfold cnt
  rw [take_snoc h, List.filter_append]
  cases o <;> simp
theorem callable_all : callable P 77 = true := cx_ok.calls _ (by rfl)
theorem count_spec {K : Int → WP} {lb : Nat} {by_ ms us : Int} (hX : X.length = 64) (hh : Has rest (pt b (SC X lb by_ ms us))) (h : Ent e rest (K (cnt X : Int))) : Ent e rest (store_Store_count (ptr b) K) := by
  (refine Ent.fn store_Store_count_ok ?_; unfold store_Store_count_sh)
  refine Ent.alloc' fun nb => ?_
  (refine Ent.go ?_)
  (refine Ent.fn store_Store_all_ok ?_; unfold store_Store_all_sh)
  refine Ent.box' fun sb => ?_
  refine Ent.rf callable_all (args := fun q => [.func (.yield (q + 1)) #[] #[], ptr sb]) (fun q => rfl) fun q r0 hr => ?_
  have hcl : ∀ k, cnt (X.take k) ≤ 64 := fun k => by
    unfold cnt
    have := List.length_filter_le (·.isSome) (X.take k)
    simp at this ⊢; omega
  refine Ent.imp (ctx' := Sl.ob (q + 1) (lp r0 .ready none) :: pt sb [ptr b] :: (fun k => pt nb [.int .i64 (cnt (X.take k) : Int)] :: Sl.ob q (.deferred (some [])) :: rest) 0) (by
    show Imp _ (_ :: _ :: pt nb [.int .i64 (cnt (X.take 0) : Int)] :: Sl.ob q (.deferred (some [])) :: rest)
    have e0 : (cnt (X.take 0) : Int) = 0 := by simp [cnt]
    rw [e0]
    (focus ((repeat ((with_reducible apply Imp.pick); (repeat (first | exact Pick.hd | apply Pick.tl)))); (repeat (first | exact Imp.refl _ | exact Imp.nil _ | apply Imp.drop)); done))) ?_
  refine all_iter hX (pt nb [.int .i64 (cnt (X.take 0) : Int)] :: Sl.ob q (.deferred (some [])) :: rest) (fun k => pt nb [.int .i64 (cnt (X.take k) : Int)] :: Sl.ob q (.deferred (some [])) :: rest) (.tl (.tl hh)) (Imp.refl _) (fun k x c hx hk hnext => ?_) (fun k hk => ?_) ?_
  · have h1 := cnt_take hx
    have h2 := hcl k
    refine Ent.yield hr (by (repeat (first | exact Has.hd | apply Has.tl))) ?_
    show Ent e _ (BgK P _ _)
    refine Ent.bg (by (repeat (first | exact Upd.hd | apply Upd.tl))) ?_
    (refine Ent.go ?_)
    refine Ent.dn (by (repeat (first | exact Upd.hd | apply Upd.tl))) ?_
    refine Ent.imp ?_ hnext
    rw [h1]
    exact Imp.refl _
  · rw [cnt_take hk]
    exact Imp.refl _
  · refine Ent.ed (st := .ready) (fun h => by cases h) (by (repeat (first | exact Upd.hd | apply Upd.tl))) ?_
    show Ent e _ (JmK _ _ _ none)
    unfold JmK
    dsimp only
    (refine Ent.go ?_)
    refine Ent.tk (by (repeat (first | exact Upd.hd | apply Upd.tl))) ?_
    rw [List.take_of_length_le (by omega)]
    refine Ent.imp ?_ h
    (focus ((repeat ((with_reducible apply Imp.pick); (repeat (first | exact Pick.hd | apply Pick.tl)))); (repeat (first | exact Imp.refl _ | exact Imp.nil _ | apply Imp.drop)); done))
end
end Go.Proofs.YtfofnagocedlgaaGreatDoor.Tx
