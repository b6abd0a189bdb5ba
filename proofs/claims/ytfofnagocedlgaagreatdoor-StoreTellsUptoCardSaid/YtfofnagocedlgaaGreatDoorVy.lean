/-
  FIELDS (layers 5, 11, 16): Get, Elements, Names, Select, Same, of the program and of the document.
-/
import Derived.Test.YtfofnagocedlgaaGreatDoorTr
import Derived.Laws.StructEq
set_option maxRecDepth 100000
set_option linter.unusedVariables false
set_option linter.unusedSectionVars false
set_option linter.unusedSimpArgs false
set_option maxHeartbeats 0
namespace Go.Proofs.YtfofnagocedlgaaGreatDoor.Tx
open Go Sh Sl
attribute [local irreducible] condK ArK NilK OpK FnK StK joinK loopK DrawK andK PuK NxK EnK vS uS bS callS invokeS
abbrev Fd := Bs × Bs
abbrev fdC (x : Fd) : List Value := [.string (ba x.1), .string (ba x.2)]
def fc (l : List Fd) : List Value := (l.map fdC).flatten
@[simp] theorem fc_len (l : List Fd) : (fc l).length = l.length * 2 := flat_len fdC 2 (fun _ => rfl) l
@[simp] theorem fc_nil : fc [] = [] := rfl
theorem fc_app (l r : List Fd) : fc (l ++ r) = fc l ++ fc r := by simp [fc]
theorem fc_at {l : List Fd} {i : Nat} {f : Fd} (h : l[i]? = some f) : (fc l)[i * 2]? = some (.string (ba f.1)) ∧ (fc l)[i * 2 + 1]? = some (.string (ba f.2)) := by
  have h1 := flat_sub fdC 2 (fun _ => rfl) h
  have h2 : (((l.map fdC).flatten.drop (i * 2)).take 2)[0]? = some (.string (ba f.1)) := by rw [h1]; rfl
  have h3 : (((l.map fdC).flatten.drop (i * 2)).take 2)[1]? = some (.string (ba f.2)) := by rw [h1]; rfl
  rw [List.getElem?_take, if_pos (by omega), List.getElem?_drop] at h2
  rw [List.getElem?_take, if_pos (by omega), List.getElem?_drop] at h3
  exact ⟨by simpa [fc] using h2, by simpa [fc] using h3⟩
/-- how much is there -/
def fsz (l : List Fd) : Nat := (l.map fun f => f.1.length + f.2.length + 2).sum
def get (l : List Fd) (n : Bs) : List Bs := (l.filter fun f => decide (lower f.1 = lower n)).map (·.2)
def elems (l : List Fd) (n : Bs) : List Bs := (get l n).flatMap lst
theorem fsz_mem {l : List Fd} {f : Fd} (h : f ∈ l) : f.1.length + f.2.length + 2 ≤ fsz l := by
  induction l with
  | nil => cases h
  | cons g l ih =>
    rcases List.mem_cons.1 h with rfl | h
    · simp [fsz]
    · have := ih h; simp [fsz] at this ⊢; omega
theorem fsz_len (l : List Fd) : l.length * 2 ≤ fsz l := by
  induction l with
  | nil => simp [fsz]
  | cons g l ih => simp [fsz] at ih ⊢; omega
theorem get_cons (f : Fd) (l : List Fd) (n : Bs) : get (f :: l) n = if lower f.1 = lower n then f.2 :: get l n else get l n := by
  unfold get
  by_cases h : lower f.1 = lower n <;> simp [h]
theorem get_snoc (l : List Fd) (f : Fd) (n : Bs) : get (l ++ [f]) n = if lower f.1 = lower n then get l n ++ [f.2] else get l n := by
  unfold get
  by_cases h : lower f.1 = lower n <;> simp [h]
theorem get_tot (l : List Fd) (n : Bs) : tot (get l n) + (get l n).length * 2 ≤ fsz l := by
  induction l with
  | nil => simp [get, tot, fsz]
  | cons f l ih =>
    rw [get_cons]
    have : fsz (f :: l) = f.1.length + f.2.length + 2 + fsz l := by simp [fsz]
    split
    · simp [tot] at ih ⊢; omega
    · omega
theorem mem_tot {l : List Bs} {x : Bs} (h : x ∈ l) : x.length ≤ tot l := by
  induction l with
  | nil => cases h
  | cons g l ih =>
    rcases List.mem_cons.1 h with rfl | h
    · simp [tot]
    · have := ih h; simp [tot] at this ⊢; omega
theorem flat_tot (l : List Bs) : tot (l.flatMap lst) + (l.flatMap lst).length ≤ tot l + l.length := by
  induction l with
  | nil => simp [tot]
  | cons x l ih =>
    have := lst_tot x
    simp [tot] at ih this ⊢
    omega
theorem elems_tot (l : List Fd) (n : Bs) : tot (elems l n) + (elems l n).length ≤ fsz l := by
  have h1 := flat_tot (get l n)
  have h2 := get_tot l n
  unfold elems
  omega
section
variable {e : Env} {ctx ctx' rest R : List HProp}
/-- a field of an element -/
theorem fdAt {a : Option Addr} {n c i j : Nat} {l : List Fd} {f : Fd} {v : Bs} {K : ByteArray → WP} (hr : Rd ctx a (fc l)) (hi : l[i]? = some f) (hn : i < n) (hj : (j = 0 ∧ v = f.1) ∨ (j = 1 ∧ v = f.2)) (h : Ent e ctx (K (ba v))) :
    Ent e ctx (oR (vS (Instr.indexAt 23 (.slice a n c) (.int .i64 (i : Int)))) fun t => fS 55 t j 9 K) := by
  have hil := (List.getElem?_eq_some_iff.1 hi).1
  obtain ⟨b, off, rfl, hrd⟩ := rd_some hr (by simp; omega)
  refine Ent.opR (st_ix rfl rfl (by omega) (by omega)).still ?_
  have hf := fc_at hi
  rw [Int.toNat_natCast]
  rcases hj with ⟨rfl, rfl⟩ | ⟨rfl, rfl⟩
  · refine Ent.opR (st_field (off := 0) rfl).still ?_
    exact Ent.opS (st_loadR (i := i * 2) hrd rfl hf.1) h
  · refine Ent.opR (st_field (off := 1) rfl).still ?_
    have := st_loadR (e := e) (t := 9) (i := i * 2 + 1) hrd rfl hf.2
    rw [← Nat.add_assoc] at this
    exact Ent.opS this h
/-- in a drawn region -/
theorem fdAtQ {a : Option Addr} {n c i j : Nat} {l : List Fd} {f : Fd} {v : Bs} {K : ByteArray → WP} (hr : Rd R a (fc l)) (hi : l[i]? = some f) (hn : i < n) (hj : (j = 0 ∧ v = f.1) ∨ (j = 1 ∧ v = f.2)) (h : Ent e ctx (K (ba v))) :
    Ent e ctx (qR (vS (Instr.indexAt 23 (.slice a n c) (.int .i64 (i : Int)))) fun t => gS (Sat e (sepL R)) 55 t j 9 K) := by
  have hil := (List.getElem?_eq_some_iff.1 hi).1
  obtain ⟨b, off, rfl, hrd⟩ := rd_some hr (by simp; omega)
  refine Ent.puR (st_ix rfl rfl (by omega) (by omega)) ?_
  have hf := fc_at hi
  rw [Int.toNat_natCast]
  rcases hj with ⟨rfl, rfl⟩ | ⟨rfl, rfl⟩
  · refine Ent.puR (st_field (off := 0) rfl) ?_
    exact Ent.stS (st_loadR (i := i * 2) hrd rfl hf.1) h
  · refine Ent.puR (st_field (off := 1) rfl) ?_
    have := st_loadR (e := e) (t := 9) (i := i * 2 + 1) hrd rfl hf.2
    rw [← Nat.add_assoc] at this
    exact Ent.stS this h
/-- a field whole -/
theorem fdR {a : Option Addr} {n c i : Nat} {l : List Fd} {f : Fd} {K : Value → WP} (hr : Rd ctx a (fc l)) (hi : l[i]? = some f) (hn : i < n) (h : Ent e ctx (K (.agg (fdC f).toArray))) :
    Ent e ctx (iR 23 (.slice a n c) .i64 (i : Int) 55 K) := by
  have hx : l[((i : Int)).toNat]? = some f := by rw [Int.toNat_natCast]; exact hi
  exact Ent.wiAr (f := fdC) hr h rfl rfl rfl (by omega) (by omega) (fun _ => rfl) (by decide) hx
theorem fdJ {a : Option Addr} {n c i : Nat} {l : List Fd} {f : Fd} {K : Value → WP} (hr : Rd R a (fc l)) (hi : l[i]? = some f) (hn : i < n) (h : Ent e ctx (K (.agg (fdC f).toArray))) :
    Ent e ctx (jR (Sat e (sepL R)) 23 (.slice a n c) .i64 (i : Int) 55 K) := by
  have hil := (List.getElem?_eq_some_iff.1 hi).1
  obtain ⟨b, off, rfl, hrd⟩ := rd_some hr (by simp; omega)
  refine Ent.puR (st_ix rfl rfl (by omega) (by omega)) ?_
  rw [Int.toNat_natCast]
  exact Ent.stR (st_loadRA hrd rfl (flat_sub fdC 2 (fun _ => rfl) hi) rfl) h
theorem fdF : (P.fieldsOf 55).toList.map (fun f => (decide (f.name ≠ "_"), f.type, f.offset)) = [(true, 9, 0), (true, 9, 1)] := by kernel_rfl
theorem st_neFd {X Y : Operand} {f g : Fd} : Pu (bS .neq 55 X Y (.agg (fdC f).toArray) (.agg (fdC g).toArray)) (.bool (!decide (f = g))) :=
  still_bS (fun w => run_eqGuard_agg w _ _ _ _ _ _ (by kernel_rfl)) fun w => by
    have hF := fdF
    obtain ⟨f1, f2, hff⟩ : ∃ f1 f2, (P.fieldsOf 55).toList = [f1, f2] := by
      have hl := congrArg List.length hF
      simp only [List.length_map] at hl
      generalize (P.fieldsOf 55).toList = L at hl
      match L, hl with
      | [f1, f2], _ => exact ⟨f1, f2, rfl⟩
    rw [hff] at hF
    simp only [List.map_cons, List.map_nil, List.cons.injEq, Prod.mk.injEq, and_true, decide_eq_true_eq] at hF
    obtain ⟨⟨a1, a2, a3⟩, b1, b2, b3⟩ := hF
    have ht : P.underlying 55 = some (.struct (P.fieldsOf 55)) := by kernel_rfl
    have hp : P.stoodInHeld 55 = false := by kernel_rfl
    have hs : P.underlying 9 = some .string := dd_str rfl
    have hag : ∀ w, (isAgg 9).run P w = .ok false w := by
      obtain ⟨_, _, _, _, _, h4⟩ := sc_spec (t := 9) rfl
      exact h4
    rw [run_neq_struct, run_equalIn_agg w 9999 _ _ _ ht hp, hff]
    have e1 : (ba f.1 = ba g.1) ↔ f.1 = g.1 := by simp [ba]
    have e2 : (ba f.2 = ba g.2) ↔ f.2 = g.2 := by simp [ba]
    have hd : decide (f = g) = (decide (ba f.1 = ba g.1) && decide (ba f.2 = ba g.2)) := by
      rw [← Bool.decide_and, decide_eq_decide, e1, e2, Prod.ext_iff]
    rw [hd]
    simp only [Op.eqFields, a1, a2, a3, b1, b2, b3, not_false_eq_true, if_true, ne_eq, Sem.run_bind, part, hag, Result.andThen_ok, Bool.false_eq_true, if_false]
    simp [run_equalIn_string w _ _ _ _ hs, ba_eq]
    by_cases h1 : f.1 = g.1 <;> by_cases h2 : f.2 = g.2 <;> simp [h1, h2, e1, e2]
end
end Go.Proofs.YtfofnagocedlgaaGreatDoor.Tx
