/-
  TEXT (layer 2): trimmed texts; the parts of a list.
-/
import Derived.Test.YtfofnagocedlgaaGreatDoorTx
import Derived.Lib.SlTrimSet
import Derived.Lib.MapLaws
import Derived.Lib.TrimUEq
set_option maxRecDepth 100000
set_option linter.unusedVariables false
set_option linter.unusedSectionVars false
set_option linter.unusedSimpArgs false
set_option maxHeartbeats 0
namespace Go.Proofs.YtfofnagocedlgaaGreatDoor.Tx
open Go Sh Sl
attribute [local irreducible] condK ArK NilK OpK FnK StK joinK loopK DrawK andK PuK NxK EnK vS uS bS callS invokeS
def isB (c : UInt8) : Bool := ([32, 9] : Bs).contains c
def trim (l : Bs) : Bs := Lib.trimS l [32, 9]
theorem isB_nat (c : UInt8) : isB c = (decide (c.toNat = 32) || decide (c.toNat = 9)) := by
  have h1 : c = 32 ↔ c.toNat = 32 := ⟨fun h => by subst h; rfl, fun h => UInt8.toNat_inj.1 h⟩
  have h2 : c = 9 ↔ c.toNat = 9 := ⟨fun h => by subst h; rfl, fun h => UInt8.toNat_inj.1 h⟩
  by_cases a : c.toNat = 32
  · rw [h1.2 a]; rfl
  · by_cases b : c.toNat = 9
    · rw [h2.2 b]; rfl
    · have : ¬ (c = 32 ∨ c = 9) := by rw [h1, h2]; omega
      simp [isB, a, b, h1, h2]
theorem dw_all {l : Bs} (h : ∀ c ∈ l, isB c = true) (r : Bs) : (l ++ r).dropWhile isB = r.dropWhile isB := by
  induction l with
  | nil => rfl
  | cons c l ih =>
    rw [List.cons_append, List.dropWhile_cons, if_pos (h c List.mem_cons_self)]
    exact ih fun d hd => h d (List.mem_cons_of_mem _ hd)
theorem dw_stop {c : UInt8} {l : Bs} (h : isB c = false) : (c :: l).dropWhile isB = c :: l := by rw [List.dropWhile_cons, h]; rfl
theorem trim_mid {a m b : Bs} (ha : ∀ c ∈ a, isB c = true) (hb : ∀ c ∈ b, isB c = true) (h1 : ∀ c r, m = c :: r → isB c = false) (h2 : ∀ c r, m = r ++ [c] → isB c = false) : trim (a ++ m ++ b) = m := by
  show ((((a ++ m ++ b).reverse.dropWhile isB).reverse).dropWhile isB) = m
  have e1 : (a ++ m ++ b).reverse = b.reverse ++ (m.reverse ++ a.reverse) := by simp
  rw [e1, dw_all (fun c hc => hb c (List.mem_reverse.1 hc))]
  cases hm : m.reverse with
  | nil =>
    have : m = [] := by simpa using hm
    subst this
    have e2 : ([] ++ a.reverse : Bs) = a.reverse ++ [] := by simp
    rw [e2, dw_all (fun c hc => ha c (List.mem_reverse.1 hc))]
    rfl
  | cons c r =>
    have hmr : m = r.reverse ++ [c] := by
      have := congrArg List.reverse hm
      simpa using this
    rw [List.cons_append, dw_stop (h2 c _ hmr)]
    have e3 : (c :: (r ++ a.reverse)).reverse = a ++ m := by rw [hmr]; simp
    rw [e3, dw_all ha]
    cases m with
    | nil => rfl
    | cons d s => exact dw_stop (h1 d s rfl)
theorem trim_len (l : Bs) : (trim l).length ≤ l.length := by
  show ((((l).reverse.dropWhile isB).reverse).dropWhile isB).length ≤ l.length
  have h1 := (List.dropWhile_sublist isB (l := (l.reverse.dropWhile isB).reverse)).length_le
  have h2 := (List.dropWhile_sublist isB (l := l.reverse)).length_le
  simp at h1 h2 ⊢
  omega
/-! the parts of a list -/
structure Ls where
  q : Bool
  mm : Bool
  cur : Bs
  out : List Bs
def emit (cur : Bs) (out : List Bs) : List Bs := if trim cur = [] then out else out ++ [trim cur]
def stp (s : Ls) (c : UInt8) : Ls :=
  if s.mm then ⟨s.q, false, s.cur ++ [c], s.out⟩
  else if s.q && decide (c.toNat = 92) then ⟨s.q, true, s.cur ++ [c], s.out⟩
  else if c.toNat = 34 then ⟨!s.q, false, s.cur ++ [c], s.out⟩
  else if c.toNat = 44 ∧ s.q = false then ⟨s.q, false, [], emit s.cur s.out⟩
  else ⟨s.q, false, s.cur ++ [c], s.out⟩
def lst (l : Bs) : List Bs := let s := l.foldl stp ⟨false, false, [], []⟩; emit s.cur s.out
theorem stp_high {s : Ls} {c : UInt8} (h : 128 ≤ c.toNat) : stp s c = ⟨s.q, false, s.cur ++ [c], s.out⟩ := by
  unfold stp
  split
  · rfl
  · have h1 : ¬ c.toNat = 92 := by omega
    have h2 : ¬ c.toNat = 34 := by omega
    have h3 : ¬ c.toNat = 44 := by omega
    simp [h1, h2, h3]
theorem fold_high (m : Bs) : ∀ s : Ls, (∀ c ∈ m, 128 ≤ c.toNat) → m ≠ [] → m.foldl stp s = ⟨s.q, false, s.cur ++ m, s.out⟩ := by
  induction m with
  | nil => intro s _ h; exact absurd rfl h
  | cons c m ih =>
    intro s h _
    rw [List.foldl_cons, stp_high (h c List.mem_cons_self)]
    by_cases hm : m = []
    · subst hm; rfl
    · rw [ih _ (fun d hd => h d (List.mem_cons_of_mem _ hd)) hm]
      simp
/-- the parts are no longer than the text, together -/
def tot (l : List Bs) : Nat := (l.map List.length).sum
theorem tot_app (l r : List Bs) : tot (l ++ r) = tot l + tot r := by simp [tot]
theorem emit_tot (cur : Bs) (out : List Bs) : tot (emit cur out) + (emit cur out).length ≤ tot out + out.length + cur.length + 1 := by
  unfold emit
  split
  · omega
  · have := trim_len cur
    rw [tot_app]; simp [tot]; omega
theorem fold_tot (m : Bs) : ∀ s : Ls, tot (m.foldl stp s).out + (m.foldl stp s).out.length + (m.foldl stp s).cur.length ≤ tot s.out + s.out.length + s.cur.length + m.length := by
  induction m with
  | nil => intro s; simp
  | cons c m ih =>
    intro s
    rw [List.foldl_cons]
    refine Nat.le_trans (ih _) ?_
    have : tot (stp s c).out + (stp s c).out.length + (stp s c).cur.length ≤ tot s.out + s.out.length + s.cur.length + 1 := by
      have he := emit_tot s.cur s.out
      unfold stp
      split
      · simp
        omega
      split
      · simp
        omega
      split
      · simp
        omega
      split
      · simp
        omega
      · simp
        omega
    simp only [List.length_cons]
    omega
theorem lst_tot (l : Bs) : tot (lst l) + (lst l).length ≤ l.length + 1 := by
  have h1 := fold_tot l ⟨false, false, [], []⟩
  have h2 := emit_tot (l.foldl stp ⟨false, false, [], []⟩).cur (l.foldl stp ⟨false, false, [], []⟩).out
  unfold lst
  simp [tot] at h1 h2 ⊢
  omega
/-! decoding -/
theorem dec (l : Bs) (p : Nat) (hp : p < l.length) :
    (∃ c, l[p]? = some c ∧ c.toNat < 128 ∧ Utf8.decode (ba l) p = (c.toNat, 1)) ∨
    (∃ r w, Utf8.decode (ba l) p = (r, w) ∧ 128 ≤ r ∧ r ≤ 2147483647 ∧ 1 ≤ w ∧ p + w ≤ l.length ∧ ∀ c ∈ (l.drop p).take w, 128 ≤ c.toNat) := by
  obtain ⟨x, hx⟩ : ∃ x, l[p]? = some x := ⟨_, List.getElem?_eq_getElem hp⟩
  have hd : Utf8.decode (ba l) p = Lib.decodeN (l.length - p) (l.getD p 0).toNat (l.getD (p + 1) 0).toNat (l.getD (p + 2) 0).toNat (l.getD (p + 3) 0).toNat := by
    rw [Lib.decode_N]
  have hx0 : (l.getD p 0) = x := by simp [List.getD, hx]
  rw [hx0] at hd
  have hsh := Lib.decodeN_shape (l.length - p) x.toNat (l.getD (p + 1) 0).toNat (l.getD (p + 2) 0).toNat (l.getD (p + 3) 0).toNat
  have allw : ∀ w, (∀ j, j < w → 128 ≤ (l.getD (p + j) 0).toNat) → ∀ c ∈ (l.drop p).take w, 128 ≤ c.toNat := by
    intro w h c hc
    obtain ⟨j, hj, hcj⟩ := List.mem_iff_getElem.1 hc
    have hjw : j < w := by simp at hj; omega
    have := h j hjw
    rw [List.getElem_take, List.getElem_drop] at hcj
    have hlt : p + j < l.length := by simp at hj; omega
    have e1 : l.getD (p + j) 0 = c := by simp [List.getD, List.getElem?_eq_getElem hlt, hcj]
    rw [e1] at this; exact this
  by_cases h128 : x.toNat < 128
  · refine .inl ⟨x, hx, h128, ?_⟩
    rw [hd]; simp [Lib.decodeN, h128]
  · refine .inr ?_
    have g0 : l.getD (p + 0) 0 = x := by simpa using hx0
    rcases hsh with ⟨c, e⟩ | ⟨c1, c2, c3, cv, e⟩ | ⟨c1, c2, c3, c4, cv, cs, e⟩ | ⟨c1, c2, c3, c4, c5, cv, cw, e⟩ | e
    · omega
    · refine ⟨_, _, hd.trans e, by omega, by omega, by omega, by omega, allw _ fun j hj => ?_⟩
      rcases j with _ | _ | j
      · rw [g0]; omega
      · first | omega | (simp only [Nat.zero_add, Nat.reduceAdd]; omega)
      · first | omega | (simp only [Nat.zero_add, Nat.reduceAdd]; omega)
    · refine ⟨_, _, hd.trans e, by omega, by omega, by omega, by omega, allw _ fun j hj => ?_⟩
      rcases j with _ | _ | _ | j
      · rw [g0]; omega
      · first | omega | (simp only [Nat.zero_add, Nat.reduceAdd]; omega)
      · first | omega | (simp only [Nat.zero_add, Nat.reduceAdd]; omega)
      · first | omega | (simp only [Nat.zero_add, Nat.reduceAdd]; omega)
    · refine ⟨_, _, hd.trans e, by omega, by omega, by omega, by omega, allw _ fun j hj => ?_⟩
      rcases j with _ | _ | _ | _ | j
      · rw [g0]; omega
      · first | omega | (simp only [Nat.zero_add, Nat.reduceAdd]; omega)
      · first | omega | (simp only [Nat.zero_add, Nat.reduceAdd]; omega)
      · first | omega | (simp only [Nat.zero_add, Nat.reduceAdd]; omega)
      · first | omega | (simp only [Nat.zero_add, Nat.reduceAdd]; omega)
    · refine ⟨_, _, hd.trans e, by omega, by omega, by omega, by omega, allw _ fun j hj => ?_⟩
      rcases j with _ | j
      · rw [g0]; omega
      · first | omega | (simp only [Nat.zero_add, Nat.reduceAdd]; omega)
section
variable {e : Env} {ctx ctx' rest : List HProp}
/-- a range over a text -/
theorem Ent.srange {s : ByteArray} {c : Value → WP} (h : ∀ i, Ent e (Sl.ob i (.stringIter s 0) :: ctx) (c (.pointer (some ⟨i, 0, none⟩)))) : Ent e ctx (OpK P (.one .raw) (vS (Instr.range 9 (.string s))) c) := Ent.act fun w hw => by
  refine ⟨.pointer (some ⟨w.heap.size, 0, none⟩), w.alloc (.stringIter s 0), .inl (run_vS ?_), _, rfl, h w.heap.size _ (hw.alloc _)⟩
  simp only [Instr.range, Sem.run_bind, run_underlying (dd_str (t := 9) rfl), Result.andThen_ok, Sem.run_pure]
  rfl
theorem Ent.snext {s : ByteArray} {i pos ty : Nat} {c0 : WP} {c1 : Int → Int → WP} (hp : Pick ctx (Sl.ob i (.stringIter s pos)) ctx')
    (h0 : ¬ pos < s.size → Ent e (Sl.ob i (.stringIter s pos) :: ctx') c0)
    (h1 : pos < s.size → Ent e (Sl.ob i (.stringIter s (pos + (Utf8.decode s pos).2)) :: ctx') (c1 pos (Utf8.decode s pos).1)) :
    Ent e ctx (NxK P (vS (Instr.next (.pointer (some ⟨i, 0, none⟩)) true ty)) (.int .i64) (.int .i32) c0 c1) := fun w hw => by
  have hw2 := hw.imp (sepL_perm hp.perm)
  have hb : w.heap[i]? = some (.stringIter s pos) := Has.ob .hd hw2
  have hg : (getObj i).run P w = .ok (.stringIter s pos) w := by simp [getObj, Sem.run, hb]
  unfold NxK NextK
  by_cases hlt : pos < s.size
  · have hset : (setObj i (.stringIter s (pos + (Utf8.decode s pos).2))).run P w = .ok () { w with heap := w.heap.setIfInBounds i (.stringIter s (pos + (Utf8.decode s pos).2)) } := by
      have hi : i < w.heap.size := (Array.getElem?_eq_some_iff.1 hb).1
      have hg9 : w.heap[i] = .stringIter s pos := (Array.getElem?_eq_some_iff.1 hb).2
      simp [setObj, Sem.run, hi, hg9]
    have hrun : (Instr.next (.pointer (some ⟨i, 0, none⟩)) true ty).run P w = .ok (.tuple #[.bool true, goInt pos, .int .i32 (Utf8.decode s pos).1]) { w with heap := w.heap.setIfInBounds i (.stringIter s (pos + (Utf8.decode s pos).2)) } := by
      simp only [Instr.next, Sem.run_bind, hg, Result.andThen_ok, if_pos hlt, hset, Sem.run_pure]
    rw [run_vS hrun]
    refine .inr ⟨_, _, rfl, ?_⟩
    have hs := MapKept.heap_set (o' := .stringIter s (pos + (Utf8.decode s pos).2)) hb
    exact h1 hlt _ (Sat.turn (A := Sl.ob i (.stringIter s pos)) (B := Sl.ob i (.stringIter s (pos + (Utf8.decode s pos).2))) (o := .stringIter s pos) (o' := .stringIter s (pos + (Utf8.decode s pos).2)) hw2 (fun _ k => k) (fun _ k => k) rfl rfl rfl hs.1 hs.2)
  · have hrun : (Instr.next (.pointer (some ⟨i, 0, none⟩)) true ty).run P w = .ok (.tuple #[.bool false]) w := by
      simp only [Instr.next, Sem.run_bind, hg, Result.andThen_ok, if_neg hlt, Sem.run_pure]
    rw [run_vS hrun]
    exact .inl ⟨rfl, h0 hlt w hw2⟩
end
end Go.Proofs.YtfofnagocedlgaaGreatDoor.Tx
