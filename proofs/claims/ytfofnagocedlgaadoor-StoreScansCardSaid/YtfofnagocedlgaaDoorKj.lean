/- The texts Sa Sb Sc Sd Sh2 Si Sp Sq, laid together. -/
import Derived.Test.YtfofnagocedlgaaDoorKh
import Derived.Test.YtfofnagocedlgaaDoorKi
section
/-
  THE STORE (layer 21): how it lies in memory; the range over its entries.
-/
set_option maxRecDepth 100000
set_option linter.unusedVariables false
set_option linter.unusedSectionVars false
set_option linter.unusedSimpArgs false
set_option maxHeartbeats 0
namespace Go.Proofs.YtfofnagocedlgaaDoor.Tx
open Go Sh Sl
open Go.RowKit
attribute [local irreducible] condK ArK NilK OpK FnK StK joinK loopK DrawK andK PuK NxK EnK vS uS bS callS invokeS
def ez : Et := ⟨[], 0, 0, none, 0, [], 0, [], 0, none, 0, [], none, 0, []⟩
abbrev slC (o : Option Et) : List Value := ec (o.getD ez) ++ [.bool o.isSome]
theorem slC_len (o : Option Et) : (slC o).length = 10 := rfl
def SC (X : List (Option Et)) (lb : Nat) (bytes most used : Int) : List Value := (X.map slC).flatten ++ [.pointer (some ⟨lb, 0, none⟩), .int .i64 bytes, .int .i64 most, .int .i64 used]
section
variable {X : List (Option Et)} {lb : Nat} {bytes most used : Int}
theorem flat10 (X : List (Option Et)) : ((X.map slC).flatten).length = X.length * 10 := flat_len slC 10 (fun _ => rfl) X
theorem SC_len (hX : X.length = 64) : (SC X lb bytes most used).length = 644 := by unfold SC; rw [List.length_append, flat10, hX]; rfl
theorem SC_tl (hX : X.length = 64) {j : Nat} {v : Value} (h : [Value.pointer (some ⟨lb, 0, none⟩), .int .i64 bytes, .int .i64 most, .int .i64 used][j]? = some v) : (SC X lb bytes most used)[0 + (640 + j)]? = some v := by
  unfold SC
  rw [List.getElem?_append_right (by rw [flat10, hX]; omega), flat10, hX]
  have : 0 + (640 + j) - 64 * 10 = j := by omega
  rw [this]; exact h
theorem SC_list (hX : X.length = 64) : (SC X lb bytes most used)[0 + 640]? = some (.pointer (some ⟨lb, 0, none⟩)) := SC_tl hX (j := 0) rfl
theorem SC_bytes (hX : X.length = 64) : (SC X lb bytes most used)[0 + 641]? = some (.int .i64 bytes) := SC_tl hX (j := 1) rfl
theorem SC_most (hX : X.length = 64) : (SC X lb bytes most used)[0 + 642]? = some (.int .i64 most) := SC_tl hX (j := 2) rfl
theorem SC_used (hX : X.length = 64) : (SC X lb bytes most used)[0 + 643]? = some (.int .i64 used) := SC_tl hX (j := 3) rfl
theorem SC_arr (hX : X.length = 64) : ((SC X lb bytes most used).drop 0).take 640 = (X.map slC).flatten := by
  unfold SC
  rw [List.drop_zero, List.take_append_of_le_length (by rw [flat10, hX]; omega), List.take_of_length_le (by rw [flat10, hX]; omega)]
theorem SC_slot {i : Nat} {o : Option Et} (h : X[i]? = some o) : ((SC X lb bytes most used).drop (i * 10)).take 10 = slC o := by
  have hi := (List.getElem?_eq_some_iff.1 h).1
  unfold SC
  rw [List.drop_append_of_le_length (by rw [flat10]; omega), List.take_append_of_le_length (by rw [List.length_drop, flat10]; omega)]
  exact flat_sub slC 10 (fun _ => rfl) h
theorem SC_entry {i : Nat} {x : Et} (h : X[i]? = some (some x)) : ((SC X lb bytes most used).drop (i * 10)).take 9 = ec x := by
  have h1 := SC_slot (lb := lb) (bytes := bytes) (most := most) (used := used) h
  have h2 := congrArg (List.take 9) h1
  rw [List.take_take] at h2
  exact h2
theorem flat_set {α : Type} (f : α → List Value) (k : Nat) (hf : ∀ x, (f x).length = k) (y : α) : ∀ (xs : List α) (i : Nat), i < xs.length → ((xs.map f).flatten).take (i * k) ++ f y ++ ((xs.map f).flatten).drop (i * k + k) = ((xs.set i y).map f).flatten
  | [], i, h => by simp at h
  | x :: xs, 0, _ => by
    simp only [List.map_cons, List.flatten_cons, Nat.zero_mul, List.take_zero, List.nil_append, Nat.zero_add, List.set_cons_zero]
    rw [List.drop_append_of_le_length (by rw [hf]; omega), List.drop_eq_nil_of_le (by rw [hf]; omega), List.nil_append]
  | x :: xs, i + 1, h => by
    have ih := flat_set f k hf y xs i (by simpa using h)
    simp only [List.map_cons, List.flatten_cons, List.set_cons_succ]
    rw [← ih]
    have e1 : (i + 1) * k = k + i * k := by rw [Nat.add_mul, Nat.one_mul, Nat.add_comm]
    rw [e1, List.take_append, List.drop_append, hf, List.take_of_length_le (by rw [hf]; omega), List.drop_eq_nil_of_le (by rw [hf]; omega)]
    have e2 : k + i * k - k = i * k := by omega
    have e3 : k + i * k + k - k = i * k + k := by omega
    rw [e2, e3]
    simp
theorem SC_setSlot {i : Nat} (hi : i < X.length) (o : Option Et) : (SC X lb bytes most used).take (0 + 0 + i * 10) ++ slC o ++ (SC X lb bytes most used).drop (0 + 0 + i * 10 + (slC o).length) = SC (X.set i o) lb bytes most used := by
  unfold SC
  rw [show 0 + 0 + i * 10 = i * 10 by omega, slC_len, List.take_append_of_le_length (by rw [flat10]; omega), List.drop_append_of_le_length (by rw [flat10]; omega), ← List.append_assoc, flat_set slC 10 (fun _ => rfl) o X i hi]
theorem SC_setUsed (hX : X.length = 64) (u : Int) : (SC X lb bytes most used).set (0 + 643) (.int .i64 u) = SC X lb bytes most u := by
  unfold SC
  rw [List.set_append_right _ _ (by rw [flat10, hX]; omega), flat10, hX]
  rfl
end
/-- entries' texts lie still -/
structure RdEM (M : Hp) (x : Et) : Prop where
  w : RdM M x.wa (fc x.wl)
  f : RdM M x.fa (fc x.fl)
  b : RdM M x.ba_ (u8 x.bl)
theorem RdEM.rd {M : Hp} {ctx : List HProp} {x : Et} (h : RdEM M x) (hh : Has ctx (Sl.ro M)) : RdE ctx x := ⟨h.w.rd hh, h.f.rd hh, h.b.rd hh⟩
theorem RdEM.mono {M M' : Hp} {x : Et} (h : RdEM M x) (hl : Hp.le M M') : RdEM M' x := ⟨h.w.mono hl, h.f.mono hl, h.b.mono hl⟩
def used (X : List (Option Et)) : Nat := (X.map fun o => match o with | some x => size x | none => 0).sum
def cnt (X : List (Option Et)) : Nat := (X.filter (·.isSome)).length
structure SOk (M : Hp) (X : List (Option Et)) (tr kp : List Int) (bytes most : Nat) : Prop where
  len : X.length = 64
  rd : ∀ x, some x ∈ X → RdEM M x ∧ EB x
  mem : ∀ i : Nat, (∃ x, X[i]? = some (some x)) ↔ (i : Int) ∈ tr ++ kp
  us : used X ≤ bytes
  by_ : bytes ≤ 262144
  ms : most ≤ 64
  lt : ∀ i : Nat, most ≤ i → ∀ x, X[i]? ≠ some (some x)
def SRep (M : Hp) (b : Nat) (X : List (Option Et)) (tr kp : List Int) (bytes most n : Nat) : HProp := exs fun (lb : Nat) =>
  sepL [pur (SOk M X tr kp bytes most), pt b (SC X lb bytes most (used X)), Lr.LRep lb tr kp (most * 2 / 3) n]
section
variable {e : Env} {ctx ctx' rest R : List HProp} {M : Hp} {b : Nat} {X : List (Option Et)} {tr kp : List Int} {bytes most n : Nat}
theorem SRep.open {p : WP} (h : ∀ lb, SOk M X tr kp bytes most → Ent e (pt b (SC X lb bytes most (used X)) :: Lr.LRep lb tr kp (most * 2 / 3) n :: rest) p) : Ent e (SRep M b X tr kp bytes most n :: rest) p :=
  Ent.exs fun lb => Ent.g3 (Ent.pur fun hk => h lb hk)
theorem SRep.shut {lb : Nat} (hk : SOk M X tr kp bytes most) : Imp (pt b (SC X lb bytes most (used X)) :: Lr.LRep lb tr kp (most * 2 / 3) n :: rest) (SRep M b X tr kp bytes most n :: rest) :=
  Imp.exs lb (Imp.g3 (Imp.pur hk (Imp.refl _)))
abbrev ptr (b : Nat) : Value := .pointer (some ⟨b, 0, none⟩)
theorem st_ixSlot {xs : List (Option Et)} {i : Nat} {y : Option Et} (hy : xs[i]? = some y) (hi : i < 64) : Pu (vS (Instr.index 47 (.agg ((xs.map slC).flatten).toArray) (.int .i64 (i : Int)))) (.agg (slC y).toArray) := Still.of_run fun w => by
  obtain ⟨i', h2, h3, _⟩ := szof_spec (t := 46) (n := 10) (b := (szof 46).get!.2) (by rfl)
  obtain ⟨_, _, h4, _, h5, h6⟩ := ag_spec (t := 46) (n := 10) (by rfl)
  rw [h2] at h4; cases h4
  have hf := flat_sub slC 10 (fun _ => rfl) hy
  have h1' : (i : Int) < ((64 : Nat) : Int) := by omega
  have h0 : (0 : Int) ≤ (i : Int) := by omega
  have hil := (List.getElem?_eq_some_iff.1 hy).1
  have hlen := flat10 xs
  simp only [Instr.index, asIntOf, Sem.run_bind, Sem.run_pure, Result.andThen_ok, run_underlying (dd_arr (t := 47) (n := 64) (x := 46) rfl), h0, h1', and_self, if_true, run_sizeOf' h2, h5, part, h6, Int.toNat_natCast]
  have e1 : ((xs.map slC).flatten).toArray.extract (i * 10) (i * 10 + 10) = (slC y).toArray := by
    apply Array.toList_inj.1
    rw [Array.toList_extract]
    simp only [List.extract]
    rw [show i * 10 + 10 - i * 10 = 10 by omega]
    exact hf
  simp only [Sem.run_ite, if_true, e1, Sem.run_pure, Result.andThen_ok, h5]
/-- the range over the entries of a store -/
theorem all_iter {K : Value → WP} {q sb lb : Nat} {r0 : Loop} {by_ ms us : Int} (hX : X.length = 64) (J : List HProp) (I : Nat → List HProp) (hh : Has J (pt b (SC X lb by_ ms us))) (hJ : Imp J (I 0))
    (hy : ∀ (k : Nat) (x : Et) (c : Bool → WP), X[k]? = some (some x) → k < 64 → Ent e (Sl.ob (q + 1) (lp r0 .ready none) :: I (k + 1)) (c true) →
      Ent e (Sl.ob (q + 1) (lp r0 .ready none) :: I k) (OpK P (.one .bool) (callS (.func (.yield (q + 1)) #[] #[]) #[.int .i64 (k : Int), .agg (ec x).toArray]) c))
    (hn : ∀ k, X[k]? = some none → Imp (I k) (I (k + 1))) (h : Ent e (Sl.ob (q + 1) (lp r0 .ready none) :: I 64) (K (.tuple #[]))) :
    Ent e (Sl.ob (q + 1) (lp r0 .ready none) :: pt sb [ptr b] :: J) (store_Store_all_c1 (.func (.yield (q + 1)) #[] #[]) (ptr sb) K) := by
  (refine Ent.fn store_Store_all_c1_ok ?_; unfold store_Store_all_c1_sh)
  (refine Ent.go ?_)
  refine Ent.opR (v := .agg ((X.map slC).flatten).toArray) (st_loadA (n := 640) (.tl (.tl hh)) (by rfl) (SC_arr hX) (by rw [flat10, hX])) ?_
  refine Ent.rngL0 64 (fun k => Sl.ob (q + 1) (lp r0 .ready none) :: I k) rfl (Imp.cons (Imp.drop hJ)) ?_
  intro k hk K' hK
  by_cases hkn : k < 64
  · obtain ⟨o, ho⟩ : ∃ o, X[k]? = some o := ⟨_, List.getElem?_eq_getElem (by omega)⟩
    refine Ent.wT ?_ (decide_eq_true (by omega))
    refine Ent.opR (v := .agg (slC o).toArray) (st_ixSlot ho (by omega)).still ?_
    refine Ent.alloc' fun xb => ?_
    (refine Ent.go ?_)
    cases o with
    | none =>
      (refine Ent.go ?_)
      refine Ent.imp ?_ (hK hkn)
      exact Imp.drop (Imp.cons (hn k ho))
    | some x =>
      refine Ent.wT ?_ rfl
      (refine Ent.go ?_)
      refine Ent.imp (Imp.drop (Imp.refl _)) ?_
      refine hy k x _ ho hkn ?_
      (refine Ent.go ?_)
      exact hK hkn
  · have : k = 64 := by omega
    subst this
    (refine Ent.go ?_)
    exact h
end
end Go.Proofs.YtfofnagocedlgaaDoor.Tx
end
section
/-
  THE STORE (layer 21): an entry goes; how many there are; those go of which a question says so.
-/
set_option maxRecDepth 100000
set_option linter.unusedVariables false
set_option linter.unusedSectionVars false
set_option linter.unusedSimpArgs false
set_option maxHeartbeats 0
namespace Go.Proofs.YtfofnagocedlgaaDoor.Tx
open Go Sh Sl
open Go.RowKit
attribute [local irreducible] condK ArK NilK OpK FnK StK joinK loopK DrawK andK PuK NxK EnK vS uS bS callS invokeS
theorem used_set {X : List (Option Et)} {i : Nat} {x : Et} (h : X[i]? = some (some x)) : used (X.set i none) + size x = used X := by
  induction X generalizing i with
  | nil => simp at h
  | cons o X ih =>
    cases i with
    | zero =>
      simp only [List.getElem?_cons_zero, Option.some.injEq] at h
      subst h
      simp [used]; omega
    | succ i =>
      simp only [List.getElem?_cons_succ] at h
      have := ih h
      simp [used] at this ⊢
      omega
theorem used_ge {X : List (Option Et)} {i : Nat} {x : Et} (h : X[i]? = some (some x)) : size x ≤ used X := by
  have := used_set h
  omega
theorem size_b {x : Et} (hb : EB x) : size x ≤ 2147483648 := by
  have h1 := hb.u
  have h2 := hb.r
  have h3 := hb.b
  have h4 := hb.w
  have h5 := hb.f
  have hw := fzn_le x.wl
  have hf := fzn_le x.fl
  unfold size
  omega
theorem SOk.out {M : Hp} {X : List (Option Et)} {tr kp : List Int} {bytes most i : Nat} {x : Et} (hk : SOk M X tr kp bytes most) (hx : X[i]? = some (some x)) : SOk M (X.set i none) (Lr.out tr i) (Lr.out kp i) bytes most := by
  have hi := (List.getElem?_eq_some_iff.1 hx).1
  refine ⟨by rw [List.length_set]; exact hk.len, fun y hy => ?_, fun j => ?_, ?_, hk.by_, hk.ms, fun j hj y hy => ?_⟩
  · rcases List.mem_or_eq_of_mem_set hy with h | h
    · exact hk.rd y h
    · cases h
  · have := hk.mem j
    simp only [List.mem_append, Lr.mem_out] at this ⊢
    rw [List.getElem?_set]
    by_cases hij : i = j
    · subst hij
      simp [hi]
    · rw [if_neg hij, this]
      have : ¬ (j : Int) = (i : Int) := by omega
      simp [this]
  · have := used_set hx
    have := hk.us
    omega
  · rw [List.getElem?_set] at hy
    split at hy
    · cases hy
    · exact hk.lt j hj y hy
section
variable {e : Env} {ctx ctx' rest R : List HProp} {M : Hp} {b : Nat} {X : List (Option Et)} {tr kp : List Int} {bytes most n : Nat}
/-- a whole number that lies in a field -/
theorem nIat {t i off b : Nat} {l : List Value} {v : Int} {c : Int → WP} (hf : fld t i = some off) (hh : Has ctx (pt b l)) (hv : l[0 + off]? = some (.int .i64 v)) (h : Ent e ctx (c v)) : Ent e ctx (nI t (ptr b) i 3 .i64 c) :=
  Ent.nil (Ent.opR (st_field hf).still (Ent.opI (st_load hh rfl hv) h))
theorem hIat {t i off b : Nat} {l : List Value} {v : Int} {c : Int → WP} (hf : fld t i = some off) (hh : Has R (pt b l)) (hv : l[0 + off]? = some (.int .i64 v)) (h : Ent e ctx (c v)) : Ent e ctx (hI (Sat e (sepL R)) t (ptr b) i 3 .i64 c) :=
  Ent.nil (Ent.puR (st_field hf) (Ent.stI (st_load hh rfl hv) h))
theorem nRat {t i off b u : Nat} {l : List Value} {v : Value} {c : Value → WP} (hf : fld t i = some off) (hu : sc u = true) (hh : Has ctx (pt b l)) (hv : l[0 + off]? = some v) (h : Ent e ctx (c v)) : Ent e ctx (nR t (ptr b) i u c) :=
  Ent.nil (Ent.opR (st_field hf).still (Ent.opR (st_load hh hu hv) h))
theorem out_spec {K : Value → WP} {i : Nat} {x : Et} (hx : X[i]? = some (some x)) (h : Ent e (SRep M b (X.set i none) (Lr.out tr i) (Lr.out kp i) bytes most n :: Sl.ro M :: rest) (K (.tuple #[]))) :
    Ent e (SRep M b X tr kp bytes most n :: Sl.ro M :: rest) (store_Store_out (ptr b) i K) := by
  (refine Ent.fn store_Store_out_ok ?_; unfold store_Store_out_sh)
  refine SRep.open fun lb hk => ?_
  have hX := hk.len
  have hi : i < 64 := by have := (List.getElem?_eq_some_iff.1 hx).1; omega
  obtain ⟨hrx, hbx⟩ := hk.rd x (List.mem_of_getElem? hx)
  have hus := used_set hx
  have hu2 := hk.us
  have hb2 := hk.by_
  refine Ent.draw [pt b (SC X lb bytes most (used X))] (by (focus ((repeat ((with_reducible apply Imp.pick); (repeat (first | exact Pick.hd | apply Pick.tl)))); (repeat (first | exact Imp.refl _ | exact Imp.nil _ | apply Imp.drop)); done))) ?_
  refine hIat rfl (by (repeat (first | exact Has.hd | apply Has.tl))) (SC_used hX) ?_
  refine Ent.nil ?_
  refine Ent.puR (st_field (off := 0) rfl) ?_
  refine Ent.puR (st_ixA (m := 64) (sz := 10) rfl rfl (by omega) (by omega)) ?_
  refine Ent.puR (st_field (off := 0) rfl) ?_
  refine Ent.stR (v := .agg (ec x).toArray) (st_loadA (n := 9) .hd rfl (by rw [show 0 + 0 + (i : Int).toNat * 10 + 0 = i * 10 by omega]; exact SC_entry hx) rfl) ?_
  refine size_spec (hrx.rd (by (repeat (first | exact Has.hd | apply Has.tl)))) hbx ?_
  refine Ent.wand ?_
  refine Ent.ar (in_i64 (by omega) (by omega)) ?_
  refine Ent.nil ?_
  refine Ent.puR (st_field (off := 643) rfl) ?_
  refine Ent.store (l := SC X lb bytes most (used X)) (by (repeat (first | exact Upd.hd | apply Upd.tl))) rfl rfl (by rw [SC_len hX]; omega) ?_
  rw [SC_setUsed hX]
  refine Ent.opR (v := .agg (slC none).toArray) (by apply Pu.still; apply st_build; exact rfl; exact rfl; exact rfl) ?_
  refine Ent.nil ?_
  refine Ent.opR (st_field (off := 0) rfl).still ?_
  refine Ent.opR (st_ixA (m := 64) (sz := 10) rfl rfl (by omega) (by omega)).still ?_
  refine Ent.storeA (l := SC X lb bytes most (used X - size x)) (vs := slC none) (n := 10) Upd.hd rfl rfl rfl (by rw [SC_len hX]; omega) ?_
  rw [Int.toNat_natCast, SC_setSlot (by omega)]
  refine nRat (off := 640) rfl rfl .hd (SC_list (by rw [List.length_set]; exact hX)) ?_
  refine Ent.bring (A := Lr.LRep lb tr kp (most * 2 / 3) n) ?_
  have hmem : (i : Int) ∈ tr ++ kp := (hk.mem i).1 ⟨x, hx⟩
  have eus : ((used X : Int) - (size x : Int)) = ((used (X.set i none) : Nat) : Int) := by omega
  rw [eus]
  refine Lr.remove_spec (fun hn => absurd ?_ hn) fun _ _ _ => ?_
  · unfold Lr.toC
    rw [if_neg (by omega), if_pos hmem]
  · refine Ent.imp ?_ h
    refine Imp.trans ?_ (SRep.shut (lb := lb) (hk.out hx))
    (focus ((repeat ((with_reducible apply Imp.pick); (repeat (first | exact Pick.hd | apply Pick.tl)))); (repeat (first | exact Imp.refl _ | exact Imp.nil _ | apply Imp.drop)); done))
theorem cnt_take {X : List (Option Et)} {k : Nat} {o : Option Et} (h : X[k]? = some o) : cnt (X.take (k + 1)) = cnt (X.take k) + (if o.isSome then 1 else 0) := by
  unfold cnt
  rw [take_snoc h, List.filter_append]
  cases o <;> simp
theorem callable_all : callable P 39 = true := cx_ok.calls _ (by rfl)
theorem count_spec {K : Int → WP} {lb : Nat} {by_ ms us : Int} (hX : X.length = 64) (hh : Has rest (pt b (SC X lb by_ ms us))) (h : Ent e rest (K (cnt X : Int))) : Ent e rest (store_Store_count (ptr b) K) := by
  (refine Ent.fn store_Store_count_ok ?_; unfold store_Store_count_sh)
  refine Ent.alloc' fun nb => ?_
  (refine Ent.go ?_)
  (refine Ent.fn store_Store_all_ok ?_; unfold store_Store_all_sh)
  refine Ent.box' fun sb => ?_
  refine Ent.rf callable_all (args := fun q => [.func (.yield (q + 1)) #[] #[], ptr sb]) (fun q => rfl) fun q r0 hr => ?_
  have hcl : ∀ k, cnt (X.take k) ≤ 64 := fun k => by
    unfold cnt
    have := List.length_filter_le (·.isSome) (X.take k)
    simp at this ⊢; omega
  refine Ent.imp (ctx' := Sl.ob (q + 1) (lp r0 .ready none) :: pt sb [ptr b] :: (fun k => pt nb [.int .i64 (cnt (X.take k) : Int)] :: Sl.ob q (.deferred (some [])) :: rest) 0) (by
    show Imp _ (_ :: _ :: pt nb [.int .i64 (cnt (X.take 0) : Int)] :: Sl.ob q (.deferred (some [])) :: rest)
    have e0 : (cnt (X.take 0) : Int) = 0 := by simp [cnt]
    rw [e0]
    (focus ((repeat ((with_reducible apply Imp.pick); (repeat (first | exact Pick.hd | apply Pick.tl)))); (repeat (first | exact Imp.refl _ | exact Imp.nil _ | apply Imp.drop)); done))) ?_
  refine all_iter hX (pt nb [.int .i64 (cnt (X.take 0) : Int)] :: Sl.ob q (.deferred (some [])) :: rest) (fun k => pt nb [.int .i64 (cnt (X.take k) : Int)] :: Sl.ob q (.deferred (some [])) :: rest) (.tl (.tl hh)) (Imp.refl _) (fun k x c hx hk hnext => ?_) (fun k hk => ?_) ?_
  · have h1 := cnt_take hx
    have h2 := hcl k
    refine Ent.yield hr (by (repeat (first | exact Has.hd | apply Has.tl))) ?_
    show Ent e _ (BgK P _ _)
    refine Ent.bg (by (repeat (first | exact Upd.hd | apply Upd.tl))) ?_
    (refine Ent.go ?_)
    refine Ent.dn (by (repeat (first | exact Upd.hd | apply Upd.tl))) ?_
    refine Ent.imp ?_ hnext
    rw [h1]
    exact Imp.refl _
  · rw [cnt_take hk]
    exact Imp.refl _
  · refine Ent.ed (st := .ready) (fun h => by cases h) (by (repeat (first | exact Upd.hd | apply Upd.tl))) ?_
    show Ent e _ (JmK _ _ _ none)
    unfold JmK
    dsimp only
    (refine Ent.go ?_)
    refine Ent.tk (by (repeat (first | exact Upd.hd | apply Upd.tl))) ?_
    rw [List.take_of_length_le (by omega)]
    refine Ent.imp ?_ h
    (focus ((repeat ((with_reducible apply Imp.pick); (repeat (first | exact Pick.hd | apply Pick.tl)))); (repeat (first | exact Imp.refl _ | exact Imp.nil _ | apply Imp.drop)); done))
end
end Go.Proofs.YtfofnagocedlgaaDoor.Tx
end
section
/-
  THE STORE (layer 21): those entries go of which a question says so.
-/
set_option maxRecDepth 100000
set_option linter.unusedVariables false
set_option linter.unusedSectionVars false
set_option linter.unusedSimpArgs false
set_option maxHeartbeats 0
namespace Go.Proofs.YtfofnagocedlgaaDoor.Tx
open Go Sh Sl
open Go.RowKit
attribute [local irreducible] condK ArK NilK OpK FnK StK joinK loopK DrawK andK PuK NxK EnK vS uS bS callS invokeS
/-- what a slot holds behind it -/
def gq (pd : Et → Bool) (o : Option Et) : Option Et := match o with
  | some x => if pd x then none else some x
  | none => none
def gX (pd : Et → Bool) (X : List (Option Et)) (k : Nat) : List (Option Et) := (X.take k).map (gq pd) ++ X.drop k
def qo (pd : Et → Bool) (o : Option Et) : Bool := match o with
  | some x => pd x
  | none => false
def gA (pd : Et → Bool) (X : List (Option Et)) (k : Nat) (y : Int) : Bool := decide (0 ≤ y) && (decide (y < (k : Int)) && qo pd (X[y.toNat]?).join)
def gL (pd : Et → Bool) (X : List (Option Et)) (k : Nat) (l : List Int) : List Int := l.filter fun y => !gA pd X k y
def gN (pd : Et → Bool) (X : List (Option Et)) (k : Nat) : Nat := ((X.take k).filter (qo pd)).length
section
variable {pd : Et → Bool} {X : List (Option Et)} {k : Nat}
theorem gX_0 : gX pd X 0 = X := by simp [gX]
theorem gX_at {o : Option Et} (h : X[k]? = some o) : (gX pd X k)[k]? = some o := by
  have hk := (List.getElem?_eq_some_iff.1 h).1
  unfold gX
  rw [List.getElem?_append_right (by simp; omega), List.getElem?_drop]
  have : k + (k - ((X.take k).map (gq pd)).length) = k := by simp; omega
  rw [this]; exact h
theorem gX_next {o : Option Et} (h : X[k]? = some o) : gX pd X (k + 1) = (gX pd X k).set k (gq pd o) := by
  have hk := (List.getElem?_eq_some_iff.1 h).1
  have hd : X.drop k = o :: X.drop (k + 1) := by
    have hg := List.getElem?_eq_getElem hk
    rw [h] at hg
    rw [Option.some.inj hg, List.getElem_cons_drop]
  unfold gX
  rw [List.set_append_right _ _ (by simp; omega)]
  have : k - ((X.take k).map (gq pd)).length = 0 := by simp; omega
  rw [this, hd, take_snoc h]
  simp
theorem gX_same {o : Option Et} (h : X[k]? = some o) (hg : gq pd o = o) : gX pd X (k + 1) = gX pd X k := by
  rw [gX_next h, hg]
  exact set_self (gX_at h)
theorem gL_0 {l : List Int} : gL pd X 0 l = l := by
  unfold gL
  refine List.filter_eq_self.2 fun y _ => ?_
  unfold gA
  by_cases h : 0 ≤ y
  · rw [decide_eq_false (by omega : ¬ y < ((0 : Nat) : Int))]
    simp
  · rw [decide_eq_false h]; rfl
theorem gA_next {o : Option Et} (h : X[k]? = some o) (y : Int) : gA pd X (k + 1) y = (gA pd X k y || (decide (y = (k : Int)) && qo pd o)) := by
  unfold gA
  by_cases h1 : y = (k : Int)
  · subst h1
    rw [Int.toNat_natCast, h]
    rw [decide_eq_true (by omega : (0 : Int) ≤ (k : Int)), decide_eq_true (by omega : (k : Int) < ((k + 1 : Nat) : Int)), decide_eq_false (by omega : ¬ (k : Int) < (k : Int))]
    simp
  · rw [decide_eq_false h1]
    have : decide (y < ((k + 1 : Nat) : Int)) = decide (y < (k : Int)) := decide_eq_decide.2 (by omega)
    rw [this]
    simp
theorem gL_out {x : Et} {l : List Int} (h : X[k]? = some (some x)) (hp : pd x = true) : gL pd X (k + 1) l = Lr.out (gL pd X k l) k := by
  unfold gL Lr.out
  rw [List.filter_filter]
  refine List.filter_congr fun y _ => ?_
  rw [gA_next h y]
  have : qo pd (some x) = true := hp
  rw [this, Bool.and_true]
  by_cases h1 : y = (k : Int) <;> simp [h1]
theorem gL_same {o : Option Et} {l : List Int} (h : X[k]? = some o) (hg : qo pd o = false) : gL pd X (k + 1) l = gL pd X k l := by
  unfold gL
  refine List.filter_congr fun y _ => ?_
  rw [gA_next h y, hg, Bool.and_false, Bool.or_false]
theorem gN_next {o : Option Et} (h : X[k]? = some o) : gN pd X (k + 1) = gN pd X k + (if qo pd o then 1 else 0) := by
  unfold gN
  rw [take_snoc h, List.filter_append, List.length_append]
  congr 1
  cases hp : qo pd o <;> simp [hp]
end
section
variable {e : Env} {ctx ctx' rest R : List HProp} {M : Hp} {b : Nat} {X : List (Option Et)} {tr kp : List Int} {bytes most n : Nat}
theorem gone_spec {K : Int → WP} {f : Nat} {cap : List Value} {CB : List HProp} (pd : Et → Bool) (hf : memN cll f = true)
    (hw : ∀ (R : List HProp) (x : Et) (k : Bool → WP), Has R (Sl.ro M) → Imp R rest → RdEM M x → EB x → Ent e (CB ++ R) (k (pd x)) → Ent e (CB ++ R) (FnK P (.one .bool) f (#[.agg (ec x).toArray] ++ cap.toArray) k))
    (h : Ent e (SRep M b (gX pd X 64) (gL pd X 64 tr) (gL pd X 64 kp) bytes most n :: Sl.ro M :: (CB ++ rest)) (K (gN pd X 64 : Int))) :
    Ent e (SRep M b X tr kp bytes most n :: Sl.ro M :: (CB ++ rest)) (store_Store_gone (ptr b) (.func (.func f) #[] cap.toArray) K) := by
  (refine Ent.fn store_Store_gone_ok ?_; unfold store_Store_gone_sh)
  refine SRep.open fun lb hk => ?_
  have hX := hk.len
  refine Ent.box' fun s1 => ?_
  refine Ent.box' (l := [.func (.func f) #[] cap.toArray]) (fun i1 => ?_) rfl
  refine Ent.alloc' fun nb => ?_
  (refine Ent.go ?_)
  (refine Ent.fn store_Store_all_ok ?_; unfold store_Store_all_sh)
  refine Ent.box' fun sb => ?_
  refine Ent.rf callable_all (args := fun q => [.func (.yield (q + 1)) #[] #[], ptr sb]) (fun q => rfl) fun q r0 hr => ?_
  have hcl : ∀ k, gN pd X k ≤ 64 := fun k => by
    unfold gN
    refine Nat.le_trans (List.length_filter_le _ _) ?_
    simp; omega
  refine Ent.imp (ctx' := Sl.ob (q + 1) (lp r0 .ready none) :: pt sb [ptr b] :: pt b (SC X lb bytes most (used X)) :: Lr.LRep lb tr kp (most * 2 / 3) n :: pt nb [.int .i64 0] :: pt s1 [ptr b] :: pt i1 [.func (.func f) #[] cap.toArray] :: Sl.ob q (.deferred (some [])) :: Sl.ro M :: (CB ++ rest)) (by (focus ((repeat ((with_reducible apply Imp.pick); (repeat (first | exact Pick.hd | apply Pick.tl)))); (repeat (first | exact Imp.refl _ | exact Imp.nil _ | apply Imp.drop)); done))) ?_
  refine all_iter hX _ (fun k => SRep M b (gX pd X k) (gL pd X k tr) (gL pd X k kp) bytes most n :: pt nb [.int .i64 (gN pd X k : Int)] :: pt s1 [ptr b] :: pt i1 [.func (.func f) #[] cap.toArray] :: Sl.ob q (.deferred (some [])) :: Sl.ro M :: (CB ++ rest)) .hd ?_ (fun k x c hx hk64 hnext => ?_) (fun k hkn => ?_) ?_
  · rw [gX_0, gL_0, gL_0]
    exact SRep.shut hk
  · obtain ⟨hrx, hbx⟩ := hk.rd x (List.mem_of_getElem? hx)
    have h1 := gN_next (pd := pd) hx
    have h2 := hcl k
    refine Ent.yield hr (by (repeat (first | exact Has.hd | apply Has.tl))) ?_
    show Ent e _ (oR _ _)
    refine Ent.alloc' fun eb => ?_
    (refine Ent.go ?_)
    refine Ent.bg (by (repeat (first | exact Upd.hd | apply Upd.tl))) ?_
    (refine Ent.go ?_)
    refine Ent.callF hf ?_
    refine Ent.imp (ctx' := CB ++ (pt eb (ec x) :: Sl.ob (q + 1) (lp r0 .busy none) :: SRep M b (gX pd X k) (gL pd X k tr) (gL pd X k kp) bytes most n :: pt nb [.int .i64 (gN pd X k : Int)] :: pt s1 [ptr b] :: pt i1 [.func (.func f) #[] cap.toArray] :: Sl.ob q (.deferred (some [])) :: Sl.ro M :: rest)) ?_ (hw _ x _ (by (repeat (first | exact Has.hd | apply Has.tl))) (by (focus (repeat (first | exact Imp.refl _ | exact Imp.nil _ | apply Imp.drop)))) hrx hbx ?_)
    · exact Imp.perm (by
        have := (List.perm_append_comm (l₁ := CB) (l₂ := [pt eb (ec x), Sl.ob (q + 1) (lp r0 .busy none), SRep M b (gX pd X k) (gL pd X k tr) (gL pd X k kp) bytes most n, pt nb [.int .i64 (gN pd X k : Int)], pt s1 [ptr b], pt i1 [.func (.func f) #[] cap.toArray], Sl.ob q (.deferred (some [])), Sl.ro M])).append_right rest
        simpa using this.symm)
    refine Ent.imp (ctx' := SRep M b (gX pd X k) (gL pd X k tr) (gL pd X k kp) bytes most n :: Sl.ro M :: pt eb (ec x) :: Sl.ob (q + 1) (lp r0 .busy none) :: pt nb [.int .i64 (gN pd X k : Int)] :: pt s1 [ptr b] :: pt i1 [.func (.func f) #[] cap.toArray] :: Sl.ob q (.deferred (some [])) :: (CB ++ rest)) ?_ ?_
    · refine Imp.trans (b := pt eb (ec x) :: Sl.ob (q + 1) (lp r0 .busy none) :: SRep M b (gX pd X k) (gL pd X k tr) (gL pd X k kp) bytes most n :: pt nb [.int .i64 (gN pd X k : Int)] :: pt s1 [ptr b] :: pt i1 [.func (.func f) #[] cap.toArray] :: Sl.ob q (.deferred (some [])) :: Sl.ro M :: (CB ++ rest)) (Imp.perm (by
        have := (List.perm_append_comm (l₁ := CB) (l₂ := [pt eb (ec x), Sl.ob (q + 1) (lp r0 .busy none), SRep M b (gX pd X k) (gL pd X k tr) (gL pd X k kp) bytes most n, pt nb [.int .i64 (gN pd X k : Int)], pt s1 [ptr b], pt i1 [.func (.func f) #[] cap.toArray], Sl.ob q (.deferred (some [])), Sl.ro M])).append_right rest
        simpa using this)) (by (focus ((repeat ((with_reducible apply Imp.pick); (repeat (first | exact Pick.hd | apply Pick.tl)))); (repeat (first | exact Imp.refl _ | exact Imp.nil _ | apply Imp.drop)); done)))
    cases hp : pd x with
    | true =>
      have g1 : gX pd X (k + 1) = (gX pd X k).set k none := by rw [gX_next hx]; simp [gq, hp]
      rw [g1, gL_out hx hp, gL_out hx hp] at hnext
      refine Ent.wT ?_
      (refine Ent.go ?_)
      refine out_spec (x := x) (gX_at hx) ?_
      (refine Ent.go ?_)
      refine Ent.dn (by (repeat (first | exact Upd.hd | apply Upd.tl))) ?_
      refine Ent.imp ?_ hnext
      rw [h1]
      rw [show qo pd (some x) = true from hp]
      (focus ((repeat ((with_reducible apply Imp.pick); (repeat (first | exact Pick.hd | apply Pick.tl)))); (repeat (first | exact Imp.refl _ | exact Imp.nil _ | apply Imp.drop)); done))
    | false =>
      have g1 : gX pd X (k + 1) = gX pd X k := gX_same hx (by simp [gq, hp])
      rw [g1, gL_same hx hp, gL_same hx hp] at hnext
      refine Ent.wF ?_
      refine Ent.dn (by (repeat (first | exact Upd.hd | apply Upd.tl))) ?_
      refine Ent.imp ?_ hnext
      rw [h1, show qo pd (some x) = false from hp]
      (focus ((repeat ((with_reducible apply Imp.pick); (repeat (first | exact Pick.hd | apply Pick.tl)))); (repeat (first | exact Imp.refl _ | exact Imp.nil _ | apply Imp.drop)); done))
  · rw [gX_same hkn rfl, gL_same hkn rfl, gL_same hkn rfl, gN_next hkn]
    exact Imp.refl _
  · refine Ent.ed (st := .ready) (fun h => by cases h) (by (repeat (first | exact Upd.hd | apply Upd.tl))) ?_
    show Ent e _ (JmK _ _ _ none)
    unfold JmK
    dsimp only
    (refine Ent.go ?_)
    refine Ent.tk (by (repeat (first | exact Upd.hd | apply Upd.tl))) ?_
    refine Ent.imp ?_ h
    (focus ((repeat ((with_reducible apply Imp.pick); (repeat (first | exact Pick.hd | apply Pick.tl)))); (repeat (first | exact Imp.refl _ | exact Imp.nil _ | apply Imp.drop)); done))
end
end Go.Proofs.YtfofnagocedlgaaDoor.Tx
end
section
/-
  THE STORE (layer 21): New, Used, Drop, find, Look, Get.
-/
set_option maxRecDepth 100000
set_option linter.unusedVariables false
set_option linter.unusedSectionVars false
set_option linter.unusedSimpArgs false
set_option maxHeartbeats 0
namespace Go.Proofs.YtfofnagocedlgaaDoor.Tx
open Go Sh Sl
open Go.RowKit
attribute [local irreducible] condK ArK NilK OpK FnK StK joinK loopK DrawK andK PuK NxK EnK vS uS bS callS invokeS
theorem SC_came {X : List (Option Et)} {lb : Nat} {bytes most used : Int} {i : Nat} {x : Et} (h : X[i]? = some (some x)) : (SC X lb bytes most used)[i * 10 + 2]? = some (.int .u64 x.came) := by
  have h1 := SC_entry (lb := lb) (bytes := bytes) (most := most) (used := used) h
  have h2 : (((SC X lb bytes most used).drop (i * 10)).take 9)[2]? = some (.int .u64 x.came) := by rw [h1]; rfl
  rw [List.getElem?_take, if_pos (by omega), List.getElem?_drop] at h2
  exact h2
/-- the slot of the entry that is told -/
def cameOf (X : List (Option Et)) (j : Nat) : Int := match (X[j]?).join with
  | some y => y.came
  | none => 0
def better (X : List (Option Et)) (best : Option Nat) (x : Et) : Bool := match best with
  | none => true
  | some j => decide (x.came ≥ cameOf X j)
def fdS (url : Bs) (l : List Fd) (X : List (Option Et)) (best : Option Nat) (k : Nat) : Option Nat := match (X[k]?).join with
  | some x => if decide (x.url = url) && (forE x l && better X best x) then some k else best
  | none => best
def fdk (url : Bs) (l : List Fd) (X : List (Option Et)) : Nat → Option Nat
  | 0 => none
  | k + 1 => fdS url l X (fdk url l X k) k
theorem fdk_some {url : Bs} {l : List Fd} {X : List (Option Et)} {j : Nat} : ∀ {k : Nat}, fdk url l X k = some j → ∃ x, X[j]? = some (some x) ∧ x.url = url ∧ forE x l = true
  | 0, h => by cases h
  | k + 1, h => by
    simp only [fdk, fdS] at h
    cases ho : (X[k]?).join with
    | none => rw [ho] at h; exact fdk_some h
    | some x =>
      rw [ho] at h
      simp only at h
      split at h
      · rename_i hc
        cases h
        simp only [Bool.and_eq_true, decide_eq_true_eq] at hc
        refine ⟨x, ?_, hc.1, hc.2.1⟩
        rw [Option.join_eq_some_iff] at ho
        exact ho
      · exact fdk_some h
section
variable {e : Env} {ctx ctx' rest R : List HProp} {M : Hp} {b : Nat} {X : List (Option Et)} {tr kp : List Int} {bytes most n : Nat}
theorem find_spec {K : Int → Bool → WP} {lb : Nat} {by_ ms us : Int} {url : Bs} {a : Option Addr} {c : Nat} {l : List Fd} (hX : X.length = 64) (hh : Has rest (pt b (SC X lb by_ ms us))) (hM : Has rest (Sl.ro M)) (hrd : ∀ x, some x ∈ X → RdEM M x ∧ EB x) (hl : Rd rest a (fc l)) (hlb : fsz l ≤ 268435456)
    (h : Ent e rest (K (((fdk url l X 64).getD 0 : Nat) : Int) (fdk url l X 64).isSome)) : Ent e rest (store_Store_find (ptr b) (ba url) (.slice a l.length c) K) := by
  (refine Ent.fn store_Store_find_ok ?_; unfold store_Store_find_sh)
  refine Ent.box' fun s1 => ?_
  refine Ent.box' fun u1 => ?_
  refine Ent.box' fun l1 => ?_
  refine Ent.alloc' fun bb => ?_
  refine Ent.alloc' fun ib => ?_
  (refine Ent.go ?_)
  (refine Ent.fn store_Store_all_ok ?_; unfold store_Store_all_sh)
  refine Ent.box' fun sb => ?_
  refine Ent.rf callable_all (args := fun q => [.func (.yield (q + 1)) #[] #[], ptr sb]) (fun q => rfl) fun q r0 hr => ?_
  refine Ent.imp (ctx' := Sl.ob (q + 1) (lp r0 .ready none) :: pt sb [ptr b] :: pt bb [.int .i64 0] :: pt ib [.bool false] :: pt s1 [ptr b] :: pt u1 [.string (ba url)] :: pt l1 [.slice a l.length c] :: Sl.ob q (.deferred (some [])) :: rest) (by (focus ((repeat ((with_reducible apply Imp.pick); (repeat (first | exact Pick.hd | apply Pick.tl)))); (repeat (first | exact Imp.refl _ | exact Imp.nil _ | apply Imp.drop)); done))) ?_
  refine all_iter hX _ (fun k => pt bb [.int .i64 (((fdk url l X k).getD 0 : Nat) : Int)] :: pt ib [.bool (fdk url l X k).isSome] :: pt s1 [ptr b] :: pt u1 [.string (ba url)] :: pt l1 [.slice a l.length c] :: Sl.ob q (.deferred (some [])) :: rest) (.tl (.tl (.tl (.tl (.tl (.tl hh)))))) (Imp.refl _) (fun k x cc hx hk64 hnext => ?_) (fun k hkn => ?_) ?_
  · obtain ⟨hrx, hbx⟩ := hrd x (List.mem_of_getElem? hx)
    have hjoin : (X[k]?).join = some x := by rw [hx]; rfl
    have hs : fdk url l X (k + 1) = if decide (x.url = url) && (forE x l && better X (fdk url l X k) x) then some k else fdk url l X k := by
      simp only [fdk, fdS, hjoin]
    refine Ent.yield hr (by (repeat (first | exact Has.hd | apply Has.tl))) ?_
    show Ent e _ (oR _ _)
    refine Ent.alloc' fun eb => ?_
    (refine Ent.go ?_)
    refine Ent.bg (by (repeat (first | exact Upd.hd | apply Upd.tl))) ?_
    refine Ent.join1 (kd := .bool) (fun v => pur (v = (decide (x.url = url) && (forE x l && better X (fdk url l X k) x))) :: Sl.ob (q + 1) (lp r0 .busy none) :: pt bb [.int .i64 (((fdk url l X k).getD 0 : Nat) : Int)] :: pt ib [.bool (fdk url l X k).isSome] :: pt s1 [ptr b] :: pt u1 [.string (ba url)] :: pt l1 [.slice a l.length c] :: Sl.ob q (.deferred (some [])) :: rest) ?_ ?_
    rotate_left
    · intro k' hk'
      have fin : ∀ v, v = (decide (x.url = url) && (forE x l && better X (fdk url l X k) x)) → Ent e (pt eb (ec x) :: Sl.ob (q + 1) (lp r0 .busy none) :: pt bb [.int .i64 (((fdk url l X k).getD 0 : Nat) : Int)] :: pt ib [.bool (fdk url l X k).isSome] :: pt s1 [ptr b] :: pt u1 [.string (ba url)] :: pt l1 [.slice a l.length c] :: Sl.ob q (.deferred (some [])) :: rest) (k' v) := fun v hv =>
        Ent.imp (Imp.pur hv (Imp.drop (Imp.refl _))) (hk' v)
      (refine Ent.go ?_)
      by_cases h1 : x.url = url
      rotate_left
      · refine Ent.wF ?_ (decide_eq_false fun hh => h1 (ba_inj.1 hh))
        exact fin false (by rw [decide_eq_false h1]; rfl)
      refine Ent.wT ?_ (decide_eq_true (by rw [h1]))
      refine Ent.stR (v := .agg (ec x).toArray) (st_loadA (n := 9) .hd rfl rfl rfl) ?_
      (refine Ent.go ?_)
      refine for_spec (hrx.rd (.tl (.tl (.tl (.tl (.tl (.tl (.tl (.tl hM))))))))) hbx (hl.mono (Imp.drop (Imp.drop (Imp.drop (Imp.drop (Imp.drop (Imp.drop (Imp.drop (Imp.drop (Imp.refl _)))))))))) hlb ?_
      (refine Ent.go ?_)
      cases h2 : forE x l with
      | false =>
        refine Ent.wF ?_
        exact fin false (by rw [h2, decide_eq_true h1]; rfl)
      | true =>
        refine Ent.wT ?_
        (refine Ent.go ?_)
        cases h3 : fdk url l X k with
        | none =>
          refine Ent.wT ?_ rfl
          rw [h3] at fin
          exact fin true (by rw [h2, decide_eq_true h1]; rfl)
        | some j =>
          obtain ⟨y, hy, _⟩ := fdk_some h3
          have hj : j < 64 := by have := (List.getElem?_eq_some_iff.1 hy).1; omega
          refine Ent.wF ?_ rfl
          rw [h3] at fin
          (refine Ent.go ?_)
          refine Ent.puR (st_ixA (m := 64) (sz := 10) rfl rfl (by show (0 : Int) ≤ ((j : Nat) : Int); omega) (by show ((j : Nat) : Int) < _; omega)) ?_
          refine Ent.puR (st_field (off := 0) rfl) ?_
          refine Ent.puR (st_field (off := 2) rfl) ?_
          refine Ent.stI (k := .u64) (n := y.came) (st_load (.tl (.tl (.tl (.tl (.tl (.tl (.tl (.tl hh)))))))) rfl ?_) ?_
          · show (SC X lb by_ ms us)[0 + 0 + ((j : Nat) : Int).toNat * 10 + 0 + 2]? = _
            rw [Int.toNat_natCast, show 0 + 0 + j * 10 + 0 + 2 = j * 10 + 2 by omega]
            exact SC_came hy
          refine fin _ ?_
          have : cameOf X j = y.came := by unfold cameOf; rw [hy]; rfl
          rw [h2, decide_eq_true h1]
          simp only [better, this, Bool.true_and]
    intro v
    refine Ent.pur fun hv => ?_
    subst hv
    cases hc : (decide (x.url = url) && (forE x l && better X (fdk url l X k) x)) with
    | true =>
      rw [hc, if_pos rfl] at hs
      refine Ent.wT ?_
      (refine Ent.go ?_)
      refine Ent.dn (by (repeat (first | exact Upd.hd | apply Upd.tl))) ?_
      refine Ent.imp ?_ hnext
      rw [hs]
      exact Imp.refl _
    | false =>
      rw [hc, if_neg (by decide)] at hs
      refine Ent.wF ?_
      refine Ent.dn (by (repeat (first | exact Upd.hd | apply Upd.tl))) ?_
      refine Ent.imp ?_ hnext
      rw [hs]
      exact Imp.refl _
  · have hs : fdk url l X (k + 1) = fdk url l X k := by simp only [fdk, fdS, hkn]; rfl
    rw [hs]
    exact Imp.refl _
  · refine Ent.ed (st := .ready) (fun h => by cases h) (by (repeat (first | exact Upd.hd | apply Upd.tl))) ?_
    show Ent e _ (JmK _ _ _ none)
    unfold JmK
    dsimp only
    (refine Ent.go ?_)
    refine Ent.tk (by (repeat (first | exact Upd.hd | apply Upd.tl))) ?_
    refine Ent.imp ?_ h
    (focus ((repeat ((with_reducible apply Imp.pick); (repeat (first | exact Pick.hd | apply Pick.tl)))); (repeat (first | exact Imp.refl _ | exact Imp.nil _ | apply Imp.drop)); done))
end
end Go.Proofs.YtfofnagocedlgaaDoor.Tx
end
section
/-
  THE STORE (layer 21): New, Used, Drop, Look, Get.
-/
set_option maxRecDepth 100000
set_option linter.unusedVariables false
set_option linter.unusedSectionVars false
set_option linter.unusedSimpArgs false
set_option maxHeartbeats 0
namespace Go.Proofs.YtfofnagocedlgaaDoor.Tx
open Go Sh Sl
open Go.RowKit
attribute [local irreducible] condK ArK NilK OpK FnK StK joinK loopK DrawK andK PuK NxK EnK vS uS bS callS invokeS
theorem SOk.new {M : Hp} {bytes most : Nat} (h1 : bytes ≤ 262144) (h2 : most ≤ 64) : SOk M (List.replicate 64 none) [] [] bytes most := by
  refine ⟨by simp, fun x hx => ?_, fun i => ?_, ?_, h1, h2, fun i _ x hx => ?_⟩
  · have := List.eq_of_mem_replicate hx; cases this
  · constructor
    · rintro ⟨x, hx⟩
      have := List.eq_of_mem_replicate (List.mem_of_getElem? hx); cases this
    · intro h; cases h
  · have : used (List.replicate 64 none) = 0 := by rfl
    omega
  · have := List.eq_of_mem_replicate (List.mem_of_getElem? hx); cases this
/-- which store New makes -/
def newB (bytes entries : Int) : Bool := decide (0 ≤ bytes ∧ bytes ≤ 262144 ∧ 0 ≤ entries ∧ entries ≤ 64)
section
variable {e : Env} {ctx ctx' rest R : List HProp} {M : Hp} {b : Nat} {X : List (Option Et)} {tr kp : List Int} {bytes most n : Nat}
theorem snew_spec {K : Value → Int → WP} {by_ en : Int} (h1 : newB by_ en = false → Ent e (Sl.ro M :: rest) (K (.pointer none) 1))
    (h0 : ∀ b bytes most : Nat, by_ = bytes → en = most → bytes ≤ 262144 → most ≤ 64 → Ent e (SRep M b (List.replicate 64 none) [] [] bytes most 0 :: Sl.ro M :: rest) (K (ptr b) 0)) : Ent e (Sl.ro M :: rest) (store_New by_ en K) := by
  (refine Ent.fn store_New_ok ?_; unfold store_New_sh)
  refine Ent.join ?_
  have bad : ¬ (0 ≤ by_ ∧ by_ ≤ 262144 ∧ 0 ≤ en ∧ en ≤ 64) → Ent e (Sl.ro M :: rest) (K (.pointer none) 1) := fun hh => h1 (by unfold newB; exact decide_eq_false hh)
  by_cases c1 : by_ < 0
  · (refine Ent.go ?_)
    exact bad (by omega)
  by_cases c2 : by_ > 262144
  · (refine Ent.go ?_)
    exact bad (by omega)
  by_cases c3 : en < 0
  · (refine Ent.go ?_)
    exact bad (by omega)
  by_cases c4 : en > 64
  · (refine Ent.go ?_)
    exact bad (by omega)
  obtain ⟨bytes, rfl⟩ := Int.eq_ofNat_of_zero_le (by omega : 0 ≤ by_)
  obtain ⟨most, rfl⟩ := Int.eq_ofNat_of_zero_le (by omega : 0 ≤ en)
  (refine Ent.go ?_)
  refine Ent.opI ((st_quo (by decide) ?_).still) ?_
  · rw [Int.tdiv_eq_ediv_of_nonneg (by omega)]
    exact in_i64 (by omega) (by omega)
  rw [Int.tdiv_eq_ediv_of_nonneg (by omega)]
  refine Lr.new_spec (fun hh => absurd ⟨by omega, by omega⟩ hh) fun lb _ _ => ?_
  (refine Ent.go ?_)
  have hu : used (List.replicate 64 none) = 0 := by rfl
  refine Ent.box (l := SC (List.replicate 64 none) lb bytes most (used (List.replicate 64 none) : Nat)) ?_ fun b => ?_
  · rw [cells_agg]
    rfl
  refine Ent.imp ?_ (h0 b bytes most rfl rfl (by omega) (by omega))
  have e1 : ((most : Int) * 2 / 3).toNat = most * 2 / 3 := by omega
  rw [e1]
  refine Imp.trans ?_ (SRep.shut (lb := lb) (SOk.new (by omega) (by omega)))
  (focus ((repeat ((with_reducible apply Imp.pick); (repeat (first | exact Pick.hd | apply Pick.tl)))); (repeat (first | exact Imp.refl _ | exact Imp.nil _ | apply Imp.drop)); done))
theorem used_spec {K : Int → WP} (h : Ent e (SRep M b X tr kp bytes most n :: rest) (K (used X : Int))) : Ent e (SRep M b X tr kp bytes most n :: rest) (store_Store_Used (ptr b) K) := by
  (refine Ent.fn store_Store_Used_ok ?_; unfold store_Store_Used_sh)
  refine SRep.open fun lb hk => ?_
  refine Ent.opB (by apply Pu.still; exact st_nilP rfl (.inr rfl)) ?_
  refine Ent.wF ?_ rfl
  refine nIat (off := 643) rfl .hd (SC_used hk.len) ?_
  exact Ent.imp (SRep.shut hk) h
theorem look_spec {K : Value → Bool → WP} {url : Bs} {a : Option Addr} {c : Nat} {l : List Fd} (hl : Rd rest a (fc l)) (hlb : fsz l ≤ 268435456)
    (h0 : fdk url l X 64 = none → Ent e (SRep M b X tr kp bytes most n :: Sl.ro M :: rest) (K (.agg (ec ez).toArray) false))
    (h1 : ∀ i x y, fdk url l X 64 = some i → X[i]? = some (some x) → dE y = dE x → EB x → Ent e (OwnE y (SRep M b X tr kp bytes most n :: Sl.ro M :: rest)) (K (.agg (ec y).toArray) true)) :
    Ent e (SRep M b X tr kp bytes most n :: Sl.ro M :: rest) (store_Store_Look (ptr b) (ba url) (.slice a l.length c) K) := by
  (refine Ent.fn store_Store_Look_ok ?_; unfold store_Store_Look_sh)
  refine Ent.alloc' fun tb => ?_
  refine Ent.bring (A := SRep M b X tr kp bytes most n) ?_
  refine SRep.open fun lb hk => ?_
  refine find_spec (M := M) hk.len (by (repeat (first | exact Has.hd | apply Has.tl))) (by (repeat (first | exact Has.hd | apply Has.tl))) hk.rd (hl.mono (Imp.drop (Imp.drop (Imp.drop (Imp.drop (Imp.refl _)))))) hlb ?_
  cases hf : fdk url l X 64 with
  | none =>
    refine Ent.wT ?_
    (refine Ent.go ?_)
    refine Ent.wrA ?_
    refine Ent.imp ?_ (h0 hf)
    refine Imp.trans ?_ (SRep.shut (lb := lb) hk)
    (focus ((repeat ((with_reducible apply Imp.pick); (repeat (first | exact Pick.hd | apply Pick.tl)))); (repeat (first | exact Imp.refl _ | exact Imp.nil _ | apply Imp.drop)); done))
  | some i =>
    obtain ⟨x, hx, _⟩ := fdk_some hf
    obtain ⟨hrx, hbx⟩ := hk.rd x (List.mem_of_getElem? hx)
    have hX := hk.len
    have hi : i < 64 := by have := (List.getElem?_eq_some_iff.1 hx).1; omega
    refine Ent.wF ?_
    refine Ent.nil ?_
    refine Ent.opR (st_field (off := 0) rfl).still ?_
    refine Ent.opR (st_ixA (m := 64) (sz := 10) rfl rfl (by show (0 : Int) ≤ ((i : Nat) : Int); omega) (by show ((i : Nat) : Int) < _; omega)).still ?_
    refine Ent.opR (st_field (off := 0) rfl).still ?_
    refine Ent.opR (v := .agg (ec x).toArray) (st_loadA (n := 9) .hd rfl (by show ((SC X lb bytes most (used X)).drop (0 + 0 + ((i : Nat) : Int).toNat * 10 + 0)).take 9 = _; rw [show 0 + 0 + ((i : Nat) : Int).toNat * 10 + 0 = i * 10 by omega]; exact SC_entry hx) rfl) ?_
    refine copied_spec (hrx.rd (by (repeat (first | exact Has.hd | apply Has.tl)))) hbx fun y hy => ?_
    (refine Ent.go ?_)
    refine Ent.wrA ?_
    refine Ent.imp ?_ (h1 i x y hf hx hy hbx)
    refine Imp.trans (b := pt b (SC X lb bytes most (used X)) :: Lr.LRep lb tr kp (most * 2 / 3) n :: OwnE y (Sl.ro M :: rest)) (by (focus ((repeat ((with_reducible apply Imp.pick); (repeat (first | exact Pick.hd | apply Pick.tl)))); (repeat (first | exact Imp.refl _ | exact Imp.nil _ | apply Imp.drop)); done))) ?_
    refine (SRep.shut (lb := lb) hk).trans ?_
    (focus ((repeat ((with_reducible apply Imp.pick); (repeat (first | exact Pick.hd | apply Pick.tl)))); (repeat (first | exact Imp.refl _ | exact Imp.nil _ | apply Imp.drop)); done))
theorem get_s_spec {K : Value → Bool → WP} {url : Bs} {a : Option Addr} {c : Nat} {l : List Fd} (hn : n + 1 < 4503599627370496) (hl : Rd rest a (fc l)) (hlb : fsz l ≤ 268435456)
    (h0 : fdk url l X 64 = none → Ent e (SRep M b X tr kp bytes most n :: Sl.ro M :: rest) (K (.agg (ec ez).toArray) false))
    (h1 : ∀ i x y, fdk url l X 64 = some i → X[i]? = some (some x) → dE y = dE x → EB x → Ent e (OwnE y (SRep M b X (Lr.toT tr kp (most * 2 / 3) i).1 (Lr.toT tr kp (most * 2 / 3) i).2 bytes most (n + 2) :: Sl.ro M :: rest)) (K (.agg (ec y).toArray) true)) :
    Ent e (SRep M b X tr kp bytes most n :: Sl.ro M :: rest) (store_Store_Get (ptr b) (ba url) (.slice a l.length c) K) := by
  (refine Ent.fn store_Store_Get_ok ?_; unfold store_Store_Get_sh)
  refine Ent.alloc' fun tb => ?_
  refine Ent.bring (A := SRep M b X tr kp bytes most n) ?_
  refine SRep.open fun lb hk => ?_
  refine find_spec (M := M) hk.len (by (repeat (first | exact Has.hd | apply Has.tl))) (by (repeat (first | exact Has.hd | apply Has.tl))) hk.rd (hl.mono (Imp.drop (Imp.drop (Imp.drop (Imp.drop (Imp.refl _)))))) hlb ?_
  cases hf : fdk url l X 64 with
  | none =>
    refine Ent.wT ?_
    (refine Ent.go ?_)
    refine Ent.wrA ?_
    refine Ent.imp ?_ (h0 hf)
    refine Imp.trans ?_ (SRep.shut (lb := lb) hk)
    (focus ((repeat ((with_reducible apply Imp.pick); (repeat (first | exact Pick.hd | apply Pick.tl)))); (repeat (first | exact Imp.refl _ | exact Imp.nil _ | apply Imp.drop)); done))
  | some i =>
    obtain ⟨x, hx, _⟩ := fdk_some hf
    obtain ⟨hrx, hbx⟩ := hk.rd x (List.mem_of_getElem? hx)
    have hX := hk.len
    have hi : i < 64 := by have := (List.getElem?_eq_some_iff.1 hx).1; omega
    have hmem : (i : Int) ∈ tr ++ kp := (hk.mem i).1 ⟨x, hx⟩
    refine Ent.wF ?_
    refine nRat (off := 640) rfl rfl (by (repeat (first | exact Has.hd | apply Has.tl))) (SC_list hX) ?_
    refine Ent.bring (A := Lr.LRep lb tr kp (most * 2 / 3) n) ?_
    refine Lr.touch_spec (id := (i : Int)) hn (fun hh => absurd ?_ hh) fun _ _ _ => ?_
    · unfold Lr.toC
      rw [if_neg (by omega), if_pos hmem]
    have hk2 : SOk M X (Lr.toT tr kp (most * 2 / 3) i).1 (Lr.toT tr kp (most * 2 / 3) i).2 bytes most :=
      { hk with mem := fun j => (hk.mem j).trans (toT_mem hmem _) }
    refine Ent.nil ?_
    refine Ent.opR (st_field (off := 0) rfl).still ?_
    refine Ent.opR (st_ixA (m := 64) (sz := 10) rfl rfl (by show (0 : Int) ≤ ((i : Nat) : Int); omega) (by show ((i : Nat) : Int) < _; omega)).still ?_
    refine Ent.opR (st_field (off := 0) rfl).still ?_
    refine Ent.opR (v := .agg (ec x).toArray) (st_loadA (n := 9) (.tl .hd) rfl (by show ((SC X lb bytes most (used X)).drop (0 + 0 + ((i : Nat) : Int).toNat * 10 + 0)).take 9 = _; rw [show 0 + 0 + ((i : Nat) : Int).toNat * 10 + 0 = i * 10 by omega]; exact SC_entry hx) rfl) ?_
    refine copied_spec (hrx.rd (by (repeat (first | exact Has.hd | apply Has.tl)))) hbx fun y hy => ?_
    (refine Ent.go ?_)
    refine Ent.wrA ?_
    refine Ent.imp ?_ (h1 i x y hf hx hy hbx)
    refine Imp.trans (b := pt b (SC X lb bytes most (used X)) :: Lr.LRep lb (Lr.toT tr kp (most * 2 / 3) i).1 (Lr.toT tr kp (most * 2 / 3) i).2 (most * 2 / 3) (n + 2) :: OwnE y (Sl.ro M :: rest)) (by (focus ((repeat ((with_reducible apply Imp.pick); (repeat (first | exact Pick.hd | apply Pick.tl)))); (repeat (first | exact Imp.refl _ | exact Imp.nil _ | apply Imp.drop)); done))) ?_
    refine (SRep.shut (lb := lb) hk2).trans ?_
    (focus ((repeat ((with_reducible apply Imp.pick); (repeat (first | exact Pick.hd | apply Pick.tl)))); (repeat (first | exact Imp.refl _ | exact Imp.nil _ | apply Imp.drop)); done))
where
  toT_mem {tr kp : List Int} {most : Nat} {i : Int} (hi : i ∈ tr ++ kp) (y : Int) : y ∈ tr ++ kp ↔ y ∈ (Lr.toT tr kp most i).1 ++ (Lr.toT tr kp most i).2 := by
    unfold Lr.toT
    split
    · have hm : (i :: Lr.out kp i).getLast (by simp) ∈ i :: Lr.out kp i := List.getLast_mem _
      generalize (i :: Lr.out kp i).getLast (by simp) = z at hm
      have hm2 := hm
      rw [List.mem_cons, Lr.mem_out] at hm2
      simp only [List.mem_append, List.mem_cons, Lr.mem_out] at *
      by_cases e1 : y = z <;> by_cases e2 : y = i <;> simp_all
    · simp only [List.mem_append, List.mem_cons, Lr.mem_out] at *
      by_cases e2 : y = i <;> simp_all
end
end Go.Proofs.YtfofnagocedlgaaDoor.Tx
end
section
/-
  THE STORE (layer 21): all entries.
-/
set_option maxRecDepth 100000
set_option linter.unusedVariables false
set_option linter.unusedSectionVars false
set_option linter.unusedSimpArgs false
set_option maxHeartbeats 0
namespace Go.Proofs.YtfofnagocedlgaaDoor.Tx
open Go Sh Sl
open Go.RowKit
attribute [local irreducible] condK ArK NilK OpK FnK StK joinK loopK DrawK andK PuK NxK EnK vS uS bS callS invokeS
def ents (X : List (Option Et)) : List Et := X.filterMap id
theorem ents_take {X : List (Option Et)} {k : Nat} {o : Option Et} (h : X[k]? = some o) : ents (X.take (k + 1)) = ents (X.take k) ++ (match o with | some x => [x] | none => []) := by
  unfold ents
  rw [take_snoc h, List.filterMap_append]
  cases o <;> rfl
theorem ents_len {X : List (Option Et)} {k : Nat} (h : X.length = 64) : (ents (X.take k)).length ≤ 64 := by
  unfold ents
  refine Nat.le_trans (List.length_filterMap_le _ _) ?_
  simp; omega
theorem EB.of {x y : Et} (h : dE y = dE x) (hb : EB x) : EB y := by
  obtain ⟨h1, _, _, h4, h5⟩ := dE_iff.1 h
  have h6 := (Prod.mk.inj h5).2
  have h7 := (Prod.mk.inj h6).1
  have h8 := (Prod.mk.inj (Prod.mk.inj (Prod.mk.inj h6).2).2)
  exact ⟨h1 ▸ hb.u, h7 ▸ hb.r, h8.2 ▸ hb.b, h4 ▸ hb.w, h8.1 ▸ hb.f⟩
theorem SOk.mono {M M' : Hp} {X : List (Option Et)} {tr kp : List Int} {bytes most : Nat} (h : SOk M X tr kp bytes most) (hl : Hp.le M M') : SOk M' X tr kp bytes most :=
  { h with rd := fun x hx => ⟨(h.rd x hx).1.mono hl, (h.rd x hx).2⟩ }
/-- the cells of entries -/
def ecs (ys : List Et) : List Value := (ys.map fun y => ec y).flatten
@[simp] theorem ecs_len (ys : List Et) : (ecs ys).length = ys.length * 9 := flat_len (fun y => ec y) 9 (fun _ => rfl) ys
theorem ecs_app (a b : List Et) : ecs (a ++ b) = ecs a ++ ecs b := by simp [ecs]
section
variable {e : Env} {ctx ctx' rest R : List HProp} {M : Hp} {b : Nat} {X : List (Option Et)} {tr kp : List Int} {bytes most n : Nat}
theorem SRep.mono {M' : Hp} (hl : Hp.le M M') : Imp (SRep M b X tr kp bytes most n :: rest) (SRep M' b X tr kp bytes most n :: rest) := fun _ k =>
  sepL_cons (fun _ ⟨lb, hh⟩ => ⟨lb, sepL_cons (fun _ (hk : SOk M X tr kp bytes most) => hk.mono hl) (fun _ z => z) hh⟩) (fun _ z => z) k
theorem keepE {y : Et} {c : WP} (h : ∀ M', Hp.le M M' → RdEM M' y → Ent e (Sl.ro M' :: ctx) c) : Ent e (OwnE y (Sl.ro M :: ctx)) c := by
  refine Ent.imp (ctx' := SlO y.wa y.wl.length y.wc 2 (fc y.wl) :: Sl.ro M :: SlO y.fa y.fl.length y.fk 2 (fc y.fl) :: SlO y.ba_ y.bl.length y.bk 1 (u8 y.bl) :: ctx) (by (focus ((repeat ((with_reducible apply Imp.pick); (repeat (first | exact Pick.hd | apply Pick.tl)))); (repeat (first | exact Imp.refl _ | exact Imp.nil _ | apply Imp.drop)); done))) ?_
  refine Ent.keepS fun M1 l1 r1 _ _ _ => ?_
  refine Ent.imp (ctx' := SlO y.fa y.fl.length y.fk 2 (fc y.fl) :: Sl.ro M1 :: SlO y.ba_ y.bl.length y.bk 1 (u8 y.bl) :: ctx) (by (focus ((repeat ((with_reducible apply Imp.pick); (repeat (first | exact Pick.hd | apply Pick.tl)))); (repeat (first | exact Imp.refl _ | exact Imp.nil _ | apply Imp.drop)); done))) ?_
  refine Ent.keepS fun M2 l2 r2 _ _ _ => ?_
  refine Ent.imp (ctx' := SlO y.ba_ y.bl.length y.bk 1 (u8 y.bl) :: Sl.ro M2 :: ctx) (by (focus ((repeat ((with_reducible apply Imp.pick); (repeat (first | exact Pick.hd | apply Pick.tl)))); (repeat (first | exact Imp.refl _ | exact Imp.nil _ | apply Imp.drop)); done))) ?_
  refine Ent.keepS fun M3 l3 r3 _ _ _ => ?_
  exact h M3 (Hp.le_trans l1 (Hp.le_trans l2 l3)) ⟨r1.mono (Hp.le_trans l2 l3), r2.mono l3, r3⟩
theorem entries_spec {K : Value → WP} (h : ∀ M' ys a c, Hp.le M M' → ys.map dE = (ents X).map dE → (∀ y ∈ ys, RdEM M' y ∧ EB y) → Ent e (SlO a ys.length c 9 (ecs ys) :: SRep M' b X tr kp bytes most n :: Sl.ro M' :: rest) (K (.slice a ys.length c))) :
    Ent e (SRep M b X tr kp bytes most n :: Sl.ro M :: rest) (store_Store_Entries (ptr b) K) := by
  (refine Ent.fn store_Store_Entries_ok ?_; unfold store_Store_Entries_sh)
  refine Ent.alloc' fun lc => ?_
  refine Ent.bring (A := SRep M b X tr kp bytes most n) ?_
  refine SRep.open fun lb hk => ?_
  have hX := hk.len
  (refine Ent.fn store_Store_all_ok ?_; unfold store_Store_all_sh)
  refine Ent.box' fun sb => ?_
  refine Ent.rf callable_all (args := fun q => [.func (.yield (q + 1)) #[] #[], ptr sb]) (fun q => rfl) fun q r0 hr => ?_
  refine Ent.imp (ctx' := Sl.ob (q + 1) (lp r0 .ready none) :: pt sb [ptr b] :: pt lc [.slice none 0 0] :: pt b (SC X lb bytes most (used X)) :: Sl.ro M :: Lr.LRep lb tr kp (most * 2 / 3) n :: Sl.ob q (.deferred (some [])) :: rest) (by (focus ((repeat ((with_reducible apply Imp.pick); (repeat (first | exact Pick.hd | apply Pick.tl)))); (repeat (first | exact Imp.refl _ | exact Imp.nil _ | apply Imp.drop)); done))) ?_
  refine all_iter hX _ (fun k => exs (fun (y : Hp × List Et × Option Addr × Nat) => sepL [pur (Hp.le M y.1 ∧ y.2.1.map dE = (ents (X.take k)).map dE ∧ (∀ z ∈ y.2.1, RdEM y.1 z ∧ EB z)), pt lc [.slice y.2.2.1 y.2.1.length y.2.2.2], SlO y.2.2.1 y.2.1.length y.2.2.2 9 (ecs y.2.1), Sl.ro y.1]) :: pt b (SC X lb bytes most (used X)) :: Lr.LRep lb tr kp (most * 2 / 3) n :: Sl.ob q (.deferred (some [])) :: rest) (.tl .hd) ?_ (fun k x cc hx hk64 hnext => ?_) (fun k hkn => ?_) ?_
  · refine Imp.exs (M, [], none, 0) (Imp.g4 (Imp.pur ⟨Hp.le_refl _, by simp [ents], fun z hz => by cases hz⟩ ?_))
    refine Imp.trans (Imp.slN (sz := 9) (Imp.refl _)) ?_
    show Imp _ (pt lc [.slice none 0 0] :: SlO none 0 0 9 [] :: Sl.ro M :: _)
    (focus ((repeat ((with_reducible apply Imp.pick); (repeat (first | exact Pick.hd | apply Pick.tl)))); (repeat (first | exact Imp.refl _ | exact Imp.nil _ | apply Imp.drop)); done))
  · obtain ⟨hrx, hbx⟩ := hk.rd x (List.mem_of_getElem? hx)
    have hel := ents_len (k := k) hX
    refine Ent.imp (Imp.perm (.swap _ _ _)) ?_
    refine Ent.exs fun ⟨M1, ys, a, c⟩ => Ent.g4 (Ent.pur fun ⟨f1, f2, f3⟩ => ?_)
    dsimp only at f1 f2 f3
    dsimp only
    have hyl : ys.length ≤ 64 := by have := congrArg List.length f2; simp at this; omega
    refine Ent.imp (ctx' := Sl.ob (q + 1) (lp r0 .ready none) :: pt lc [.slice a ys.length c] :: SlO a ys.length c 9 (ecs ys) :: Sl.ro M1 :: pt b (SC X lb bytes most (used X)) :: Lr.LRep lb tr kp (most * 2 / 3) n :: Sl.ob q (.deferred (some [])) :: rest) (by (focus ((repeat ((with_reducible apply Imp.pick); (repeat (first | exact Pick.hd | apply Pick.tl)))); (repeat (first | exact Imp.refl _ | exact Imp.nil _ | apply Imp.drop)); done))) ?_
    refine Ent.yield hr (by (repeat (first | exact Has.hd | apply Has.tl))) ?_
    show Ent e _ (oR _ _)
    refine Ent.alloc' fun eb => ?_
    (refine Ent.go ?_)
    refine Ent.bg (by (repeat (first | exact Upd.hd | apply Upd.tl))) ?_
    refine Ent.draw [pt lc [.slice a ys.length c], pt eb (ec x)] (by (focus ((repeat ((with_reducible apply Imp.pick); (repeat (first | exact Pick.hd | apply Pick.tl)))); (repeat (first | exact Imp.refl _ | exact Imp.nil _ | apply Imp.drop)); done))) ?_
    (refine Ent.go ?_)
    refine Ent.stR (v := .agg (ec x).toArray) (st_loadA (n := 9) (.tl .hd) rfl rfl rfl) ?_
    refine copied_spec ((hrx.mono f1).rd (by (repeat (first | exact Has.hd | apply Has.tl)))) hbx fun y hy => ?_
    refine Ent.wand ?_
    refine Ent.imp (ctx' := OwnE y (Sl.ro M1 :: pt eb (ec x) :: Sl.ob (q + 1) (lp r0 .busy none) :: pt lc [.slice a ys.length c] :: SlO a ys.length c 9 (ecs ys) :: pt b (SC X lb bytes most (used X)) :: Lr.LRep lb tr kp (most * 2 / 3) n :: Sl.ob q (.deferred (some [])) :: rest)) (by (focus ((repeat ((with_reducible apply Imp.pick); (repeat (first | exact Pick.hd | apply Pick.tl)))); (repeat (first | exact Imp.refl _ | exact Imp.nil _ | apply Imp.drop)); done))) ?_
    refine keepE fun M2 hl2 hry => ?_
    refine Ent.app1a (sz := 9) (cs := ec y) (by (focus ((repeat ((with_reducible apply Imp.pick); (repeat (first | exact Pick.hd | apply Pick.tl)))); (repeat (first | exact Imp.refl _ | exact Imp.nil _ | apply Imp.drop)); done))) (fun a2 c2 => ?_)
    (refine Ent.go ?_)
    refine Ent.dn (by (repeat (first | exact Upd.hd | apply Upd.tl))) ?_
    refine Ent.imp ?_ hnext
    refine Imp.trans ?_ (Imp.perm (.swap _ _ _))
    refine Imp.exs (M2, ys ++ [y], a2, c2) (Imp.g4 (Imp.pur ⟨Hp.le_trans f1 hl2, ?_, fun z hz => ?_⟩ ?_))
    · rw [ents_take hx]
      simp [f2, hy]
    · rcases List.mem_append.1 hz with hz | hz
      · exact ⟨(f3 z hz).1.mono hl2, (f3 z hz).2⟩
      · rw [List.mem_singleton.1 hz]; exact ⟨hry, EB.of hy hbx⟩
    · have e1 : (ys ++ [y]).length = ys.length + 1 := by simp
      have e2 : ecs (ys ++ [y]) = ecs ys ++ ec y := by rw [ecs_app]; simp [ecs]
      rw [e1, e2]
      (focus ((repeat ((with_reducible apply Imp.pick); (repeat (first | exact Pick.hd | apply Pick.tl)))); (repeat (first | exact Imp.refl _ | exact Imp.nil _ | apply Imp.drop)); done))
  · rw [ents_take hkn, List.append_nil]
    exact Imp.refl _
  · refine Ent.imp (Imp.perm (.swap _ _ _)) ?_
    refine Ent.exs fun ⟨M1, ys, a, c⟩ => Ent.g4 (Ent.pur fun ⟨f1, f2, f3⟩ => ?_)
    dsimp only at f1 f2 f3
    dsimp only
    rw [List.take_of_length_le (by omega)] at f2
    refine Ent.ed (st := .ready) (fun h => by cases h) (by (repeat (first | exact Upd.hd | apply Upd.tl))) ?_
    show Ent e _ (JmK _ _ _ none)
    unfold JmK
    dsimp only
    (refine Ent.go ?_)
    refine Ent.tk (by (repeat (first | exact Upd.hd | apply Upd.tl))) ?_
    refine Ent.imp ?_ (h M1 ys a c f1 f2 f3)
    refine Imp.trans (b := pt b (SC X lb bytes most (used X)) :: Lr.LRep lb tr kp (most * 2 / 3) n :: SlO a ys.length c 9 (ecs ys) :: Sl.ro M1 :: rest) (by (focus ((repeat ((with_reducible apply Imp.pick); (repeat (first | exact Pick.hd | apply Pick.tl)))); (repeat (first | exact Imp.refl _ | exact Imp.nil _ | apply Imp.drop)); done))) ?_
    refine (SRep.shut (lb := lb) (hk.mono f1)).trans ?_
    (focus ((repeat ((with_reducible apply Imp.pick); (repeat (first | exact Pick.hd | apply Pick.tl)))); (repeat (first | exact Imp.refl _ | exact Imp.nil _ | apply Imp.drop)); done))
end
end Go.Proofs.YtfofnagocedlgaaDoor.Tx
end
section
/-
  THE STORE (layer 21): Put.
-/
set_option maxRecDepth 100000
set_option linter.unusedVariables false
set_option linter.unusedSectionVars false
set_option linter.unusedSimpArgs false
set_option maxHeartbeats 0
namespace Go.Proofs.YtfofnagocedlgaaDoor.Tx
open Go Sh Sl
open Go.RowKit
attribute [local irreducible] condK ArK NilK OpK FnK StK joinK loopK DrawK andK PuK NxK EnK vS uS bS callS invokeS
/-- slots, tried, kept -/
structure St3 where
  X : List (Option Et)
  tr : List Int
  kp : List Int
def full (most bytes sz : Nat) (s : St3) : Bool := decide (most ≤ cnt s.X) || decide (bytes < used s.X + sz)
def ev1 (s : St3) : St3 := ⟨s.X.set (Lr.vic s.tr s.kp).1.toNat none, Lr.out s.tr (Lr.vic s.tr s.kp).1, Lr.out s.kp (Lr.vic s.tr s.kp).1⟩
def evS (most bytes sz : Nat) : Nat → St3 → St3
  | 0, s => s
  | f + 1, s => if full most bytes sz s then evS most bytes sz f (ev1 s) else s
def gone3 (pd : Et → Bool) (s : St3) : St3 := ⟨gX pd s.X 64, gL pd s.X 64 s.tr, gL pd s.X 64 s.kp⟩
abbrev pdP (x : Et) (z : Et) : Bool := decide (z.url = x.url) && decide (z.wl = x.wl)
/-- the first slot that is free -/
def free (X : List (Option Et)) : Nat := X.findIdx (fun o => !o.isSome)
theorem vic_mem {tr kp : List Int} (h : tr ++ kp ≠ []) : (Lr.vic tr kp).2 = true ∧ (Lr.vic tr kp).1 ∈ tr ++ kp := by
  unfold Lr.vic
  cases h1 : tr.getLast? with
  | some x => exact ⟨rfl, List.mem_append_left _ (List.mem_of_getLast? h1)⟩
  | none =>
    have ht : tr = [] := List.getLast?_eq_none_iff.1 h1
    subst ht
    cases h2 : kp.getLast? with
    | some x => exact ⟨rfl, List.mem_append_right _ (List.mem_of_getLast? h2)⟩
    | none =>
      have := List.getLast?_eq_none_iff.1 h2
      subst this
      exact absurd rfl h
theorem out_len (l : List Int) (x : Int) : (Lr.out l x).length ≤ l.length := List.length_filter_le _ _
theorem out_lt {l : List Int} {x : Int} (h : x ∈ l) : (Lr.out l x).length < l.length := by
  unfold Lr.out
  exact List.length_filter_lt_length_iff_exists.2 ⟨x, h, by simp⟩
theorem used_none {X : List (Option Et)} (h : ∀ (i : Nat) x, X[i]? ≠ some (some x)) : used X = 0 ∧ cnt X = 0 := by
  induction X with
  | nil => exact ⟨rfl, rfl⟩
  | cons o X ih =>
    have ih' := ih fun i x hx => h (i + 1) x (by simpa using hx)
    cases o with
    | some x => exact absurd rfl (h 0 x)
    | none =>
      refine ⟨?_, ?_⟩
      · have := ih'.1; simp [used] at this ⊢; exact this
      · have := ih'.2; simp [cnt] at this ⊢; exact this
theorem cnt_lt {X : List (Option Et)} {most : Nat} (h : cnt X < most) (hm : most ≤ X.length) (hl : ∀ i : Nat, most ≤ i → ∀ x, X[i]? ≠ some (some x)) : free X < most ∧ X[free X]? = some none ∧ ∀ j, j < free X → ∃ x, X[j]? = some (some x) := by
  have hlt : free X < most := by
    rcases Nat.lt_or_ge (free X) most with h1 | h1
    · exact h1
    · exfalso
      have hall : ∀ j, j < most → ∃ x, X[j]? = some (some x) := fun j hj => by
        have hjl : j < X.length := by omega
        have := List.not_of_lt_findIdx (p := fun o : Option Et => !o.isSome) (xs := X) (i := j) (by unfold free at h1; omega)
        cases ho : X[j] with
        | none => rw [ho] at this; simp at this
        | some x => exact ⟨x, by rw [List.getElem?_eq_getElem hjl, ho]⟩
      have h2 : (X.take most).filter (·.isSome) = X.take most := by
        refine List.filter_eq_self.2 fun o ho => ?_
        obtain ⟨j, hj, hjo⟩ := List.mem_iff_getElem.1 ho
        have hjm : j < most := by simp at hj; omega
        obtain ⟨x, hx⟩ := hall j hjm
        rw [List.getElem_take] at hjo
        rw [List.getElem?_eq_getElem (by omega)] at hx
        rw [← hjo, Option.some.inj hx]; rfl
      have h3 : most ≤ cnt X := by
        unfold cnt
        have h4 : ((X.take most).filter (·.isSome)).length ≤ (X.filter (·.isSome)).length := ((List.take_sublist most X).filter _).length_le
        rw [h2, List.length_take] at h4
        omega
      omega
  have hfl : free X < X.length := by omega
  refine ⟨hlt, ?_, fun j hj => ?_⟩
  · have := List.findIdx_getElem (p := fun o : Option Et => !o.isSome) (xs := X) (w := hfl)
    cases ho : X[free X]'hfl with
    | none => rw [List.getElem?_eq_getElem hfl, ho]
    | some x =>
      have h9 : (!(X[free X]'hfl).isSome) = true := this
      rw [ho] at h9; simp at h9
  · have hjl : j < X.length := by omega
    have := List.not_of_lt_findIdx (p := fun o : Option Et => !o.isSome) (xs := X) (i := j) hj
    cases ho : X[j] with
    | none => rw [ho] at this; simp at this
    | some x => exact ⟨x, by rw [List.getElem?_eq_getElem hjl, ho]⟩
theorem used_put {X : List (Option Et)} {i : Nat} {x : Et} (h : X[i]? = some none) : used (X.set i (some x)) = used X + size x := by
  induction X generalizing i with
  | nil => simp at h
  | cons o X ih =>
    cases i with
    | zero =>
      simp only [List.getElem?_cons_zero, Option.some.injEq] at h
      subst h
      simp [used]; omega
    | succ i =>
      simp only [List.getElem?_cons_succ] at h
      have := ih h
      simp [used] at this ⊢
      omega
theorem size_of {x y : Et} (h : dE y = dE x) : size y = size x := by
  obtain ⟨h1, _, _, h4, h5⟩ := dE_iff.1 h
  have h6 := (Prod.mk.inj h5).2
  have h7 := (Prod.mk.inj h6).1
  have h8 := (Prod.mk.inj (Prod.mk.inj (Prod.mk.inj h6).2).2)
  unfold size
  rw [h1, h4, h7, h8.1, h8.2]
theorem SOk.put {M : Hp} {X : List (Option Et)} {tr kp : List Int} {bytes most i : Nat} {y : Et} (hk : SOk M X tr kp bytes most) (hi : X[i]? = some none) (him : i < most) (hy : RdEM M y) (hb : EB y) (hs : used X + size y ≤ bytes) : SOk M (X.set i (some y)) ((i : Int) :: tr) kp bytes most := by
  have hil := (List.getElem?_eq_some_iff.1 hi).1
  refine ⟨by rw [List.length_set]; exact hk.len, fun z hz => ?_, fun j => ?_, ?_, hk.by_, hk.ms, fun j hj z hz => ?_⟩
  · rcases List.mem_or_eq_of_mem_set hz with h | h
    · exact hk.rd z h
    · cases h; exact ⟨hy, hb⟩
  · have := hk.mem j
    rw [List.getElem?_set]
    by_cases hij : i = j
    · subst hij
      simp [hil]
    · rw [if_neg hij, this]
      have : ¬ (j : Int) = (i : Int) := by omega
      simp [this]
  · rw [used_put hi]; exact hs
  · rw [List.getElem?_set] at hz
    split at hz
    · omega
    · exact hk.lt j hj z hz
section
variable {e : Env} {ctx ctx' rest R : List HProp} {M : Hp} {b : Nat} {X : List (Option Et)} {tr kp : List Int} {bytes most n : Nat}
theorem st_slP {b : Nat} {h : Nat} (hh : h ≤ 64) : Pu (vS (Instr.sliceAt 47 (.pointer (some ⟨b, 0 + 0, none⟩)) none (some (.int .i64 (h : Int))) none)) (.slice (some ⟨b, 0, none⟩) h 64) := Still.of_run fun w => by
  have ha : P.underlying 47 = some (.array (P.arrayLen 47) (P.elem 47)) := by kernel_rfl
  have hl : P.arrayLen 47 = 64 := by kernel_rfl
  have he : P.elem 47 = 46 := by kernel_rfl
  obtain ⟨i', h2, h3, _⟩ := szof_spec (t := 46) (n := 10) (b := (szof 46).get!.2) (by rfl)
  rw [run_sliceAt_array_h w _ _ ha .i64 h (by omega) (by rw [hl]; omega), he, run_sizeOf' h2, hl]
  simp only [Result.andThen_ok, slicedAt, Int.toNat_natCast, Nat.zero_add, Nat.sub_zero, Nat.zero_mul]
  have : (if (64 : Nat) = 0 then (⟨b, 0, none⟩ : Addr) else Addr.add ⟨b, 0, none⟩ 0) = ⟨b, 0, none⟩ := by rw [if_neg (by decide), Addr.add_lit]
  rw [this]
theorem ixf_spec {K : Int → WP} {lb : Nat} {by_ ms us : Int} (hX : X.length = 64) (hh : Has rest (pt b (SC X lb by_ ms us))) (hm : most ≤ 64) (hf : free X < most) (hn : X[free X]? = some none) (hs : ∀ j, j < free X → ∃ x, X[j]? = some (some x)) (h : Ent e rest (K (free X : Int))) :
    Ent e rest (slices_IndexFunc_slot (.slice (some ⟨b, 0, none⟩) most 64) (.func (.func 22) #[] #[]) K) := by
  (refine Ent.fn slices_IndexFunc_slot_ok ?_; unfold slices_IndexFunc_slot_sh)
  (refine Ent.go ?_)
  refine Ent.rngL0 (free X) (fun k => rest) rfl (Imp.refl _) ?_
  intro k hk K' hK
  obtain ⟨o, ho⟩ : ∃ o, X[k]? = some o := ⟨_, List.getElem?_eq_getElem (by omega)⟩
  refine Ent.wT ?_ (decide_eq_true (by omega))
  refine Ent.opR (st_ix (sz := 10) (by_ := (szof 46).get!.2) rfl (by rfl) (by omega) (by omega)).still ?_
  refine Ent.opR (v := .agg (slC o).toArray) (st_loadA (n := 10) hh rfl (by rw [Int.toNat_natCast, Nat.zero_add]; exact SC_slot ho) rfl) ?_
  refine Ent.callF (cap := #[]) (by rfl) ?_
  refine Ent.fn (sh := store_Store_Put_c2_sh (.agg (slC o).toArray) _) (fun w h => store_Store_Put_c2_ok w h) ?_
  refine Ent.box' fun xb => ?_
  (refine Ent.go ?_)
  by_cases hkn : k < free X
  · obtain ⟨x, hx⟩ := hs k hkn
    rw [ho] at hx
    cases hx
    refine Ent.wF ?_ rfl
    (refine Ent.go ?_)
    exact Ent.imp (by (focus ((repeat ((with_reducible apply Imp.pick); (repeat (first | exact Pick.hd | apply Pick.tl)))); (repeat (first | exact Imp.refl _ | exact Imp.nil _ | apply Imp.drop)); done))) (hK hkn)
  · have hkf : k = free X := by omega
    subst hkf
    rw [ho] at hn
    cases hn
    refine Ent.wT ?_ rfl
    exact Ent.imp (by (focus ((repeat ((with_reducible apply Imp.pick); (repeat (first | exact Pick.hd | apply Pick.tl)))); (repeat (first | exact Imp.refl _ | exact Imp.nil _ | apply Imp.drop)); done))) h
end
end Go.Proofs.YtfofnagocedlgaaDoor.Tx
end
section
/-
  THE STORE (layer 21): Put, whole.
-/
set_option maxRecDepth 100000
set_option linter.unusedVariables false
set_option linter.unusedSectionVars false
set_option linter.unusedSimpArgs false
set_option maxHeartbeats 0
namespace Go.Proofs.YtfofnagocedlgaaDoor.Tx
open Go Sh Sl
open Go.RowKit
attribute [local irreducible] condK ArK NilK OpK FnK StK joinK loopK DrawK andK PuK NxK EnK vS uS bS callS invokeS
section
variable {e : Env} {ctx ctx' rest R : List HProp} {M : Hp} {b : Nat} {X : List (Option Et)} {tr kp : List Int} {bytes most n : Nat}
theorem put_c1 {R : List HProp} {x z : Et} {eb : Nat} {k : Bool → WP} (hx : RdE R x) (hz : RdE R z) (bx : EB x) (bz : EB z) (h : Ent e ([pt eb (ec x)] ++ R) (k (pdP x z))) :
    Ent e ([pt eb (ec x)] ++ R) (FnK P (.one .bool) 15 (#[.agg (ec z).toArray] ++ [ptr eb].toArray) k) := by
  have h5 := bx.w
  have g5 := bz.w
  have hfl := fsz_len x.wl
  have gfl := fsz_len z.wl
  refine Ent.fn (sh := store_Store_Put_c1_sh (.agg (ec z).toArray) (ptr eb) k) (fun w h => store_Store_Put_c1_ok w h) ?_
  show Ent e (pt eb (ec x) :: R) _
  refine Ent.box' fun zb => ?_
  (refine Ent.go ?_)
  by_cases h1 : z.url = x.url
  · refine Ent.wT ?_ (decide_eq_true (by rw [h1]))
    (refine Ent.go ?_)
    refine vary_same_spec hz.w.tl.tl hx.w.tl.tl (by omega) (by omega) ?_
    have : decide (z.wl = x.wl) = pdP x z := by unfold pdP; rw [decide_eq_true h1]; rfl
    rw [this]
    exact Ent.imp (by show Imp _ (_ :: R); (focus ((repeat ((with_reducible apply Imp.pick); (repeat (first | exact Pick.hd | apply Pick.tl)))); (repeat (first | exact Imp.refl _ | exact Imp.nil _ | apply Imp.drop)); done))) h
  · refine Ent.wF ?_ (decide_eq_false fun hh => h1 (ba_inj.1 hh))
    have : pdP x z = false := by unfold pdP; rw [decide_eq_false h1]; rfl
    rw [← this]
    exact Ent.imp (by show Imp _ (_ :: R); (focus ((repeat ((with_reducible apply Imp.pick); (repeat (first | exact Pick.hd | apply Pick.tl)))); (repeat (first | exact Imp.refl _ | exact Imp.nil _ | apply Imp.drop)); done))) h
theorem SRep.ok {p : WP} (h : SOk M X tr kp bytes most → (tr ++ kp).Nodup → (∀ x, x ∈ tr ++ kp → 0 ≤ x ∧ x < 64) → Ent e (SRep M b X tr kp bytes most n :: rest) p) : Ent e (SRep M b X tr kp bytes most n :: rest) p :=
  SRep.open fun lb hk => Ent.imp (Imp.perm (.swap _ _ _)) (Lr.LRep.ok fun ⟨m, t, hok⟩ _ => Ent.imp ((Imp.perm (.swap _ _ _)).trans (SRep.shut hk)) (h hk hok.nd (fun x hx => hok.ids x hx)))
theorem evS_step {bytes most sz f : Nat} {s : St3} (h : full most bytes sz s = true) : evS most bytes sz (f + 1) s = evS most bytes sz f (ev1 s) := by simp [evS, h]
theorem evS_stop {bytes most sz f : Nat} {s : St3} (h : full most bytes sz s = false) : evS most bytes sz (f + 1) s = s := by simp [evS, h]
theorem put_spec {K : Int → WP} {x : Et} (hr : RdE rest x) (hb : EB x) (hn : n < 4503599627370496)
    (h7 : (size x > bytes ∨ most = 0) → Ent e (SRep M b (gone3 (pdP x) ⟨X, tr, kp⟩).X (gone3 (pdP x) ⟨X, tr, kp⟩).tr (gone3 (pdP x) ⟨X, tr, kp⟩).kp bytes most n :: Sl.ro M :: rest) (K 7))
    (h0 : ∀ M' y, Hp.le M M' → dE y = dE x → RdEM M' y → size x ≤ bytes → 0 < most → ∀ s2, s2 = evS most bytes (size x) 65 (gone3 (pdP x) ⟨X, tr, kp⟩) → full most bytes (size x) s2 = false →
      Ent e (SRep M' b (s2.X.set (free s2.X) (some y)) ((free s2.X : Int) :: s2.tr) s2.kp bytes most (n + 1) :: Sl.ro M' :: rest) (K 0)) :
    Ent e (SRep M b X tr kp bytes most n :: Sl.ro M :: rest) (store_Store_Put (ptr b) (.agg (ec x).toArray) K) := by
  have hsz := size_b hb
  (refine Ent.fn store_Store_Put_ok ?_; unfold store_Store_Put_sh)
  refine Ent.box' fun eb => ?_
  refine Ent.join ?_
  refine Ent.opB (by apply Pu.still; exact st_nilP rfl (.inr rfl)) ?_
  refine Ent.wF ?_ rfl
  refine Ent.bring (A := SRep M b X tr kp bytes most n) ?_
  refine SRep.open fun lb hk => ?_
  refine nRat (off := 640) rfl rfl .hd (SC_list hk.len) ?_
  refine Ent.opB (by apply Pu.still; exact st_nilP rfl (.inr rfl)) ?_
  refine Ent.wF ?_ rfl
  refine Ent.imp (SRep.shut hk) ?_
  refine Ent.imp (ctx' := SRep M b X tr kp bytes most n :: Sl.ro M :: ([pt eb (ec x)] ++ rest)) (by show Imp _ (_ :: _ :: _ :: rest); (focus ((repeat ((with_reducible apply Imp.pick); (repeat (first | exact Pick.hd | apply Pick.tl)))); (repeat (first | exact Imp.refl _ | exact Imp.nil _ | apply Imp.drop)); done))) ?_
  refine gone_spec (cap := [ptr eb]) (pdP x) (by rfl) (fun R z k hM hR hrz hbz hk => put_c1 (hr.mono hR) (hrz.rd hM) hb hbz hk) ?_
  show Ent e (_ :: _ :: pt eb (ec x) :: rest) _
  obtain ⟨s0, hs0⟩ : ∃ s0, s0 = gone3 (pdP x) ⟨X, tr, kp⟩ := ⟨_, rfl⟩
  have eX : gX (pdP x) X 64 = s0.X := by rw [hs0]; rfl
  have etr : gL (pdP x) X 64 tr = s0.tr := by rw [hs0]; rfl
  have ekp : gL (pdP x) X 64 kp = s0.kp := by rw [hs0]; rfl
  rw [eX, etr, ekp]
  rw [← hs0] at h7 h0
  clear eX etr ekp hk
  (refine Ent.go ?_)
  refine size_spec (hr.mono (by (focus (repeat (first | exact Imp.refl _ | exact Imp.nil _ | apply Imp.drop))))) hb ?_
  refine Ent.join1 (kd := .bool) (fun v => pur (v = (decide (bytes < size x) || decide (most = 0))) :: SRep M b s0.X s0.tr s0.kp bytes most n :: Sl.ro M :: pt eb (ec x) :: rest) ?_ ?_
  rotate_left
  · intro k' hk'
    refine SRep.open fun lb hk => ?_
    have hbb := hk.by_
    refine nIat (off := 641) rfl .hd (SC_bytes hk.len) ?_
    by_cases h1 : bytes < size x
    · refine Ent.wT ?_ (decide_eq_true (by omega))
      refine Ent.imp ((SRep.shut hk).trans (Imp.pur ?_ (Imp.refl _))) (hk' _)
      rw [decide_eq_true h1]; rfl
    · refine Ent.wF ?_ (decide_eq_false (by omega))
      refine nIat (off := 642) rfl .hd (SC_most hk.len) ?_
      refine Ent.imp ((SRep.shut hk).trans (Imp.pur ?_ (Imp.refl _))) (hk' _)
      rw [decide_eq_false h1, Bool.false_or]
      by_cases h2 : most = 0
      · subst h2; rfl
      · rw [decide_eq_false h2]
        exact beq_eq_false_iff_ne.2 (by omega)
  intro v
  refine Ent.pur fun hv => ?_
  subst hv
  by_cases hbad : size x > bytes ∨ most = 0
  · refine Ent.wT ?_ (by rcases hbad with h1 | h1 <;> simp [h1])
    exact Ent.imp (by (focus ((repeat ((with_reducible apply Imp.pick); (repeat (first | exact Pick.hd | apply Pick.tl)))); (repeat (first | exact Imp.refl _ | exact Imp.nil _ | apply Imp.drop)); done))) (h7 hbad)
  have hle : size x ≤ bytes := by omega
  have hmp : 0 < most := by omega
  refine Ent.wF ?_ (by rw [decide_eq_false (by omega), decide_eq_false (by omega)]; rfl)
  refine SRep.ok fun hk0 hnd0 hid0 => ?_
  have hl0 : (s0.tr ++ s0.kp).length ≤ 64 := Lr.len_le 64 _ hnd0 hid0
  refine Ent.loop0 (fun N => exs (fun (s : St3) => sepL [pur (evS most bytes (size x) 65 s0 = evS most bytes (size x) N s ∧ s.tr.length + s.kp.length < N), SRep M b s.X s.tr s.kp bytes most n]) :: Sl.ro M :: pt eb (ec x) :: rest) 65 ?_ ?_
  · refine Imp.exs s0 (Imp.g2 (Imp.pur ⟨rfl, ?_⟩ (Imp.refl _)))
    rw [List.length_append] at hl0
    omega
  intro N K' hK
  refine Ent.exs fun s => Ent.g2 (Ent.pur fun ⟨f1, f2⟩ => ?_)
  obtain ⟨N', rfl⟩ : ∃ N', N = N' + 1 := ⟨N - 1, by omega⟩
  refine SRep.ok fun hk hnd hid => ?_
  have hus := hk.us
  have hbb := hk.by_
  refine Ent.join1 (kd := .bool) (fun v => pur (v = full most bytes (size x) s) :: SRep M b s.X s.tr s.kp bytes most n :: Sl.ro M :: pt eb (ec x) :: rest) ?_ ?_
  rotate_left
  · intro k' hk'
    refine SRep.open fun lb hk => ?_
    refine Ent.draw [pt b (SC s.X lb bytes most (used s.X))] (by (focus ((repeat ((with_reducible apply Imp.pick); (repeat (first | exact Pick.hd | apply Pick.tl)))); (repeat (first | exact Imp.refl _ | exact Imp.nil _ | apply Imp.drop)); done))) ?_
    refine hIat (off := 642) rfl .hd (SC_most hk.len) ?_
    refine count_spec hk.len .hd ?_
    refine Ent.wand ?_
    by_cases h1 : most ≤ cnt s.X
    · refine Ent.wT ?_ (decide_eq_true (by omega))
      refine Ent.imp ((SRep.shut hk).trans (Imp.pur ?_ (Imp.refl _))) (hk' _)
      unfold full; rw [decide_eq_true h1]; rfl
    · refine Ent.wF ?_ (decide_eq_false (by omega))
      refine hIat (off := 641) rfl .hd (SC_bytes hk.len) ?_
      refine hIat (off := 643) rfl .hd (SC_used hk.len) ?_
      refine Ent.ar (in_i64 (by omega) (by omega)) ?_
      refine Ent.imp ((SRep.shut hk).trans (Imp.pur ?_ (Imp.refl _))) (hk' _)
      unfold full
      rw [decide_eq_false h1, Bool.false_or]
      exact decide_eq_decide.2 (by omega)
  intro v
  refine Ent.pur fun hv => ?_
  subst hv
  cases hfl : full most bytes (size x) s with
  | true =>
    refine Ent.wT ?_
    have hne : s.tr ++ s.kp ≠ [] := by
      intro hh
      have hno : ∀ (i : Nat) z, s.X[i]? ≠ some (some z) := fun i z hz => by
        have := (hk.mem i).1 ⟨z, hz⟩
        rw [hh] at this; cases this
      obtain ⟨u1, u2⟩ := used_none hno
      unfold full at hfl
      rw [u1, u2, decide_eq_false (by omega), decide_eq_false (by omega)] at hfl
      cases hfl
    obtain ⟨v1, v2⟩ := vic_mem hne
    obtain ⟨w1, w2⟩ := hid _ v2
    obtain ⟨vi, hvi⟩ := Int.eq_ofNat_of_zero_le w1
    have hmemv := (hk.mem vi).2 (by rw [← hvi]; exact v2)
    obtain ⟨z, hz⟩ := hmemv
    refine SRep.open fun lb hk => ?_
    refine nRat (off := 640) rfl rfl .hd (SC_list hk.len) ?_
    refine Ent.bring (A := Lr.LRep lb s.tr s.kp (most * 2 / 3) n) ?_
    refine Lr.victim_spec ?_
    rw [v1, hvi]
    refine Ent.wF ?_
    refine Ent.imp ((Imp.perm (.swap _ _ _)).trans (SRep.shut hk)) ?_
    refine out_spec hz ?_
    have e1 : ev1 s = ⟨s.X.set vi none, Lr.out s.tr vi, Lr.out s.kp vi⟩ := by unfold ev1; rw [hvi, Int.toNat_natCast]
    refine Ent.imp ?_ (hK N' (by omega))
    refine Imp.exs ⟨s.X.set vi none, Lr.out s.tr vi, Lr.out s.kp vi⟩ (Imp.g2 (Imp.pur ⟨?_, ?_⟩ (Imp.refl _)))
    · rw [f1, evS_step hfl, e1]
    · dsimp only
      have h1 := out_len s.tr vi
      have h2 := out_len s.kp vi
      rw [hvi] at v2
      rcases List.mem_append.1 v2 with h3 | h3
      · have := out_lt h3; omega
      · have := out_lt h3; omega
  | false =>
    refine Ent.wF ?_
    have hfin : evS most bytes (size x) 65 s0 = s := by rw [f1, evS_stop hfl]
    have hfl2 := hfl
    unfold full at hfl2
    rw [Bool.or_eq_false_iff, decide_eq_false_iff_not, decide_eq_false_iff_not] at hfl2
    obtain ⟨g1, g2⟩ := hfl2
    have hms := hk.ms
    obtain ⟨c1, c2, c3⟩ := cnt_lt (X := s.X) (most := most) (by omega) (by rw [hk.len]; omega) hk.lt
    refine SRep.open fun lb hk => ?_
    have hX := hk.len
    refine Ent.draw [pt b (SC s.X lb bytes most (used s.X))] (by (focus ((repeat ((with_reducible apply Imp.pick); (repeat (first | exact Pick.hd | apply Pick.tl)))); (repeat (first | exact Imp.refl _ | exact Imp.nil _ | apply Imp.drop)); done))) ?_
    refine Ent.nil ?_
    refine Ent.puR (st_field (off := 0) rfl) ?_
    refine hIat (off := 642) rfl .hd (SC_most hX) ?_
    refine Ent.puR (st_slP hms) ?_
    refine ixf_spec hX .hd hms c1 c2 c3 ?_
    refine Ent.wand ?_
    refine Ent.draw [pt eb (ec x)] (by (focus ((repeat ((with_reducible apply Imp.pick); (repeat (first | exact Pick.hd | apply Pick.tl)))); (repeat (first | exact Imp.refl _ | exact Imp.nil _ | apply Imp.drop)); done))) ?_
    refine Ent.stR (v := .agg (ec x).toArray) (st_loadA (n := 9) .hd rfl rfl rfl) ?_
    refine Ent.nil ?_
    refine Ent.puR (st_field (off := 0) rfl) ?_
    refine copied_spec (hr.mono (by (focus (repeat (first | exact Imp.refl _ | exact Imp.nil _ | apply Imp.drop))))) hb fun y hy => ?_
    refine Ent.puR (v := .agg (slC (some y)).toArray) (by apply st_build; exact rfl; exact rfl; exact rfl) ?_
    refine Ent.puR (st_ixA (m := 64) (sz := 10) rfl rfl (by omega) (by omega)) ?_
    refine Ent.storeA (l := SC s.X lb bytes most (used s.X)) (vs := slC (some y)) (n := 10) (by (repeat (first | exact Upd.hd | apply Upd.tl))) rfl rfl rfl (by rw [SC_len hX, Int.toNat_natCast]; omega) ?_
    rw [Int.toNat_natCast, SC_setSlot (by omega)]
    have hX2 : (s.X.set (free s.X) (some y)).length = 64 := by rw [List.length_set]; exact hX
    refine nIat (off := 643) rfl (by (repeat (first | exact Has.hd | apply Has.tl))) (SC_used hX2) ?_
    refine Ent.ar (in_i64 (by omega) (by omega)) ?_
    refine Ent.nil ?_
    refine Ent.opR (st_field (off := 643) rfl).still ?_
    refine Ent.store (l := SC (s.X.set (free s.X) (some y)) lb bytes most (used s.X)) (by (repeat (first | exact Upd.hd | apply Upd.tl))) rfl rfl (by rw [SC_len hX2]; omega) ?_
    rw [SC_setUsed hX2]
    refine nRat (off := 640) rfl rfl (by (repeat (first | exact Has.hd | apply Has.tl))) (SC_list hX2) ?_
    have hup := used_put (x := y) c2
    have hsy := size_of hy
    have eus : ((used s.X : Int) + (size x : Int)) = ((used (s.X.set (free s.X) (some y)) : Nat) : Int) := by omega
    rw [eus]
    refine Ent.bring (A := Lr.LRep lb s.tr s.kp (most * 2 / 3) n) ?_
    have hnm : (free s.X : Int) ∉ s.tr ++ s.kp := fun hh => by
      obtain ⟨z, hz⟩ := (hk.mem (free s.X)).2 hh
      rw [c2] at hz; cases hz
    refine Lr.add_spec hn (fun hh => absurd ?_ hh) fun _ _ _ => ?_
    · unfold Lr.addC
      rw [if_neg (by omega), if_neg hnm]
    refine Ent.imp (ctx' := OwnE y (Sl.ro M :: Lr.LRep lb ((free s.X : Int) :: s.tr) s.kp (most * 2 / 3) (n + 1) :: pt b (SC (s.X.set (free s.X) (some y)) lb bytes most (used (s.X.set (free s.X) (some y)) : Nat)) :: pt eb (ec x) :: rest)) (by (focus ((repeat ((with_reducible apply Imp.pick); (repeat (first | exact Pick.hd | apply Pick.tl)))); (repeat (first | exact Imp.refl _ | exact Imp.nil _ | apply Imp.drop)); done))) ?_
    refine keepE fun M' hl hry => ?_
    refine Ent.imp ?_ (h0 M' y hl hy hry hle hmp s hfin.symm hfl)
    refine Imp.trans ?_ (SRep.shut (lb := lb) ((hk.mono hl).put c2 c1 hry (EB.of hy hb) (by omega)))
    (focus ((repeat ((with_reducible apply Imp.pick); (repeat (first | exact Pick.hd | apply Pick.tl)))); (repeat (first | exact Imp.refl _ | exact Imp.nil _ | apply Imp.drop)); done))
end
end Go.Proofs.YtfofnagocedlgaaDoor.Tx
end
