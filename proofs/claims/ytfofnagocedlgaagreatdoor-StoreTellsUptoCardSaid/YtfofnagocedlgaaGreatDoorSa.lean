/-
  THE STORE (layer 21): how it lies in memory; the range over its entries.
-/
import Derived.Test.YtfofnagocedlgaaGreatDoorSg
import Derived.Test.YtfofnagocedlgaaGreatDoorLx
set_option maxRecDepth 100000
set_option linter.unusedVariables false
set_option linter.unusedSectionVars false
set_option linter.unusedSimpArgs false
set_option maxHeartbeats 0
namespace Go.Proofs.YtfofnagocedlgaaGreatDoor.Tx
open Go Sh Sl
open Go.RowKit
attribute [local irreducible] condK ArK NilK OpK FnK StK joinK loopK DrawK andK PuK NxK EnK vS uS bS callS invokeS
def ez : Et := ⟨[], 0, 0, none, 0, [], 0, [], 0, none, 0, [], none, 0, []⟩
abbrev slC (o : Option Et) : List Value := ec (o.getD ez) ++ [.bool o.isSome]
theorem slC_len (o : Option Et) : (slC o).length = 10 := rfl
def SC (X : List (Option Et)) (lb : Nat) (bytes most used : Int) : List Value := (X.map slC).flatten ++ [.pointer (some ⟨lb, 0, none⟩), .int .i64 bytes, .int .i64 most, .int .i64 used]
section
variable {X : List (Option Et)} {lb : Nat} {bytes most used : Int}
theorem flat10 (X : List (Option Et)) : ((X.map slC).flatten).length = X.length * 10 := flat_len slC 10 (fun _ => rfl) X
theorem SC_len (hX : X.length = 64) : (SC X lb bytes most used).length = 644 := by unfold SC; rw [List.length_append, flat10, hX]; rfl
theorem SC_tl (hX : X.length = 64) {j : Nat} {v : Value} (h : [Value.pointer (some ⟨lb, 0, none⟩), .int .i64 bytes, .int .i64 most, .int .i64 used][j]? = some v) : (SC X lb bytes most used)[0 + (640 + j)]? = some v := by
  unfold SC
  rw [List.getElem?_append_right (by rw [flat10, hX]; omega), flat10, hX]
  have : 0 + (640 + j) - 64 * 10 = j := by omega
  rw [this]; exact h
theorem SC_list (hX : X.length = 64) : (SC X lb bytes most used)[0 + 640]? = some (.pointer (some ⟨lb, 0, none⟩)) := SC_tl hX (j := 0) rfl
theorem SC_bytes (hX : X.length = 64) : (SC X lb bytes most used)[0 + 641]? = some (.int .i64 bytes) := SC_tl hX (j := 1) rfl
theorem SC_most (hX : X.length = 64) : (SC X lb bytes most used)[0 + 642]? = some (.int .i64 most) := SC_tl hX (j := 2) rfl
theorem SC_used (hX : X.length = 64) : (SC X lb bytes most used)[0 + 643]? = some (.int .i64 used) := SC_tl hX (j := 3) rfl
theorem SC_arr (hX : X.length = 64) : ((SC X lb bytes most used).drop 0).take 640 = (X.map slC).flatten := by
  unfold SC
  rw [List.drop_zero, List.take_append_of_le_length (by rw [flat10, hX]; omega), List.take_of_length_le (by rw [flat10, hX]; omega)]
theorem SC_slot {i : Nat} {o : Option Et} (h : X[i]? = some o) : ((SC X lb bytes most used).drop (i * 10)).take 10 = slC o := by
  have hi := (List.getElem?_eq_some_iff.1 h).1
  unfold SC
  rw [List.drop_append_of_le_length (by rw [flat10]; omega), List.take_append_of_le_length (by rw [List.length_drop, flat10]; omega)]
  exact flat_sub slC 10 (fun _ => rfl) h
theorem SC_entry {i : Nat} {x : Et} (h : X[i]? = some (some x)) : ((SC X lb bytes most used).drop (i * 10)).take 9 = ec x := by
  have h1 := SC_slot (lb := lb) (bytes := bytes) (most := most) (used := used) h
  have h2 := congrArg (List.take 9) h1
  rw [List.take_take] at h2
  exact h2
theorem flat_set {α : Type} (f : α → List Value) (k : Nat) (hf : ∀ x, (f x).length = k) (y : α) : ∀ (xs : List α) (i : Nat), i < xs.length → ((xs.map f).flatten).take (i * k) ++ f y ++ ((xs.map f).flatten).drop (i * k + k) = ((xs.set i y).map f).flatten
  | [], i, h => by simp at h
  | x :: xs, 0, _ => by
    simp only [List.map_cons, List.flatten_cons, Nat.zero_mul, List.take_zero, List.nil_append, Nat.zero_add, List.set_cons_zero]
    rw [List.drop_append_of_le_length (by rw [hf]; omega), List.drop_eq_nil_of_le (by rw [hf]; omega), List.nil_append]
  | x :: xs, i + 1, h => by
    have ih := flat_set f k hf y xs i (by simpa using h)
    simp only [List.map_cons, List.flatten_cons, List.set_cons_succ]
    rw [← ih]
    have e1 : (i + 1) * k = k + i * k := by rw [Nat.add_mul, Nat.one_mul, Nat.add_comm]
    rw [e1, List.take_append, List.drop_append, hf, List.take_of_length_le (by rw [hf]; omega), List.drop_eq_nil_of_le (by rw [hf]; omega)]
    have e2 : k + i * k - k = i * k := by omega
    have e3 : k + i * k + k - k = i * k + k := by omega
    rw [e2, e3]
    simp
theorem SC_setSlot {i : Nat} (hi : i < X.length) (o : Option Et) : (SC X lb bytes most used).take (0 + 0 + i * 10) ++ slC o ++ (SC X lb bytes most used).drop (0 + 0 + i * 10 + (slC o).length) = SC (X.set i o) lb bytes most used := by
  unfold SC
  rw [show 0 + 0 + i * 10 = i * 10 by omega, slC_len, List.take_append_of_le_length (by rw [flat10]; omega), List.drop_append_of_le_length (by rw [flat10]; omega), ← List.append_assoc, flat_set slC 10 (fun _ => rfl) o X i hi]
theorem SC_setUsed (hX : X.length = 64) (u : Int) : (SC X lb bytes most used).set (0 + 643) (.int .i64 u) = SC X lb bytes most u := by
  unfold SC
  rw [List.set_append_right _ _ (by rw [flat10, hX]; omega), flat10, hX]
  rfl
end
/-- entries' texts lie still -/
structure RdEM (M : Hp) (x : Et) : Prop where
  w : RdM M x.wa (fc x.wl)
  f : RdM M x.fa (fc x.fl)
  b : RdM M x.ba_ (u8 x.bl)
theorem RdEM.rd {M : Hp} {ctx : List HProp} {x : Et} (h : RdEM M x) (hh : Has ctx (Sl.ro M)) : RdE ctx x := ⟨h.w.rd hh, h.f.rd hh, h.b.rd hh⟩
theorem RdEM.mono {M M' : Hp} {x : Et} (h : RdEM M x) (hl : Hp.le M M') : RdEM M' x := ⟨h.w.mono hl, h.f.mono hl, h.b.mono hl⟩
def used (X : List (Option Et)) : Nat := (X.map fun o => match o with | some x => size x | none => 0).sum
def cnt (X : List (Option Et)) : Nat := (X.filter (·.isSome)).length
structure SOk (M : Hp) (X : List (Option Et)) (tr kp : List Int) (bytes most : Nat) : Prop where
  len : X.length = 64
  rd : ∀ x, some x ∈ X → RdEM M x ∧ EB x
  mem : ∀ i : Nat, (∃ x, X[i]? = some (some x)) ↔ (i : Int) ∈ tr ++ kp
  us : used X ≤ bytes
  by_ : bytes ≤ 262144
  ms : most ≤ 64
  lt : ∀ i : Nat, most ≤ i → ∀ x, X[i]? ≠ some (some x)
def SRep (M : Hp) (b : Nat) (X : List (Option Et)) (tr kp : List Int) (bytes most n : Nat) : HProp := exs fun (lb : Nat) =>
  sepL [pur (SOk M X tr kp bytes most), pt b (SC X lb bytes most (used X)), Lr.LRep lb tr kp (most * 2 / 3) n]
section
variable {e : Env} {ctx ctx' rest R : List HProp} {M : Hp} {b : Nat} {X : List (Option Et)} {tr kp : List Int} {bytes most n : Nat}
theorem SRep.open {p : WP} (h : ∀ lb, SOk M X tr kp bytes most → Ent e (pt b (SC X lb bytes most (used X)) :: Lr.LRep lb tr kp (most * 2 / 3) n :: rest) p) : Ent e (SRep M b X tr kp bytes most n :: rest) p :=
  Ent.exs fun lb => Ent.g3 (Ent.pur fun hk => h lb hk)
theorem SRep.shut {lb : Nat} (hk : SOk M X tr kp bytes most) : Imp (pt b (SC X lb bytes most (used X)) :: Lr.LRep lb tr kp (most * 2 / 3) n :: rest) (SRep M b X tr kp bytes most n :: rest) :=
  Imp.exs lb (Imp.g3 (Imp.pur hk (Imp.refl _)))
abbrev ptr (b : Nat) : Value := .pointer (some ⟨b, 0, none⟩)
theorem st_ixSlot {xs : List (Option Et)} {i : Nat} {y : Option Et} (hy : xs[i]? = some y) (hi : i < 64) : Pu (vS (Instr.index 70 (.agg ((xs.map slC).flatten).toArray) (.int .i64 (i : Int)))) (.agg (slC y).toArray) := Still.of_run fun w => by
  obtain ⟨i', h2, h3, _⟩ := szof_spec (t := 69) (n := 10) (b := (szof 69).get!.2) (by rfl)
  obtain ⟨_, _, h4, _, h5, h6⟩ := ag_spec (t := 69) (n := 10) (by rfl)
  rw [h2] at h4; cases h4
  have hf := flat_sub slC 10 (fun _ => rfl) hy
  have h1' : (i : Int) < ((64 : Nat) : Int) := by omega
  have h0 : (0 : Int) ≤ (i : Int) := by omega
  have hil := (List.getElem?_eq_some_iff.1 hy).1
  have hlen := flat10 xs
  simp only [Instr.index, asIntOf, Sem.run_bind, Sem.run_pure, Result.andThen_ok, run_underlying (dd_arr (t := 70) (n := 64) (x := 69) rfl), h0, h1', and_self, if_true, run_sizeOf' h2, h5, part, h6, Int.toNat_natCast]
  have e1 : ((xs.map slC).flatten).toArray.extract (i * 10) (i * 10 + 10) = (slC y).toArray := by
    apply Array.toList_inj.1
    rw [Array.toList_extract]
    simp only [List.extract]
    rw [show i * 10 + 10 - i * 10 = 10 by omega]
    exact hf
  simp only [Sem.run_ite, if_true, e1, Sem.run_pure, Result.andThen_ok, h5]
/-- the range over the entries of a store -/
theorem all_iter {K : Value → WP} {q sb lb : Nat} {r0 : Loop} {by_ ms us : Int} (hX : X.length = 64) (J : List HProp) (I : Nat → List HProp) (hh : Has J (pt b (SC X lb by_ ms us))) (hJ : Imp J (I 0))
    (hy : ∀ (k : Nat) (x : Et) (c : Bool → WP), X[k]? = some (some x) → k < 64 → Ent e (Sl.ob (q + 1) (lp r0 .ready none) :: I (k + 1)) (c true) →
      Ent e (Sl.ob (q + 1) (lp r0 .ready none) :: I k) (OpK P (.one .bool) (callS (.func (.yield (q + 1)) #[] #[]) #[.int .i64 (k : Int), .agg (ec x).toArray]) c))
    (hn : ∀ k, X[k]? = some none → Imp (I k) (I (k + 1))) (h : Ent e (Sl.ob (q + 1) (lp r0 .ready none) :: I 64) (K (.tuple #[]))) :
    Ent e (Sl.ob (q + 1) (lp r0 .ready none) :: pt sb [ptr b] :: J) (store_Store_all_c1 (.func (.yield (q + 1)) #[] #[]) (ptr sb) K) := by
  (refine Ent.fn store_Store_all_c1_ok ?_; unfold store_Store_all_c1_sh)
  (refine Ent.go ?_)
  refine Ent.opR (v := .agg ((X.map slC).flatten).toArray) (st_loadA (n := 640) (.tl (.tl hh)) (by rfl) (SC_arr hX) (by rw [flat10, hX])) ?_
  refine Ent.rngL0 64 (fun k => Sl.ob (q + 1) (lp r0 .ready none) :: I k) rfl (Imp.cons (Imp.drop hJ)) ?_
  intro k hk K' hK
  by_cases hkn : k < 64
  · obtain ⟨o, ho⟩ : ∃ o, X[k]? = some o := ⟨_, List.getElem?_eq_getElem (by omega)⟩
    refine Ent.wT ?_ (decide_eq_true (by omega))
    refine Ent.opR (v := .agg (slC o).toArray) (st_ixSlot ho (by omega)).still ?_
    refine Ent.alloc' fun xb => ?_
    (refine Ent.go ?_)
    cases o with
    | none =>
      (refine Ent.go ?_)
      refine Ent.imp ?_ (hK hkn)
      exact Imp.drop (Imp.cons (hn k ho))
    | some x =>
      refine Ent.wT ?_ rfl
      (refine Ent.go ?_)
      refine Ent.imp (Imp.drop (Imp.refl _)) ?_
      refine hy k x _ ho hkn ?_
      (refine Ent.go ?_)
      exact hK hkn
  · have : k = 64 := by omega
    subst this
    (refine Ent.go ?_)
    exact h
end
end Go.Proofs.YtfofnagocedlgaaGreatDoor.Tx
