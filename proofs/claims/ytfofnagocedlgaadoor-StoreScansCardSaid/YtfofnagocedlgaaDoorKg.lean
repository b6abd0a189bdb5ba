/- The texts Ty Shelf Tz Tl Tr Vy Vz Vn, laid together. -/
import Derived.Lib.SlTrimSet
import Derived.Lib.MapLaws
import Derived.Lib.TrimUEq
import Derived.Shelf.Strings.Builder1
import Derived.Shelf.Strings.Builder2
import Derived.Shelf.Strings.OnBuilder
import Derived.Shelf.Strings.Trim
import Derived.Shelf.Small.Utf8
import Derived.Shelf.Small.Bits
import Derived.Shelf.Small.Strs
import Derived.Shelf.Strings.BuilderF
import Derived.Shelf.Strings.BuilderK
import Derived.Shelf.Strings.Builder2Cap
import Derived.Shelf.Strconv.Itoa0
import Derived.Shelf.Strings.Search1
import Derived.Shelf.Unicode.Decode
import Derived.Shelf.Strings.Runes
import Derived.Shelf.Strings.AsciiSet
import Derived.Shelf.Unicode.DecodeSlow
import Derived.Shelf.Unicode.DecodeAny
import Derived.Shelf.Unicode.DecodeLast
import Derived.Shelf.Strings.BuilderCap
import Derived.Ground.SlsfProg
import Derived.Shelf.SlSortCmp.Insertion
import Derived.Shelf.SlSortCmp.SiftDown1
import Derived.Shelf.SlSortCmp.HeapSort1
import Derived.Shelf.SlSortCmp.Insertion1
import Derived.Shelf.SlSortCmp.Median1
import Derived.Shelf.SlSortCmp.Pivot1
import Derived.Shelf.SlSortCmp.ReverseRange1
import Derived.Shelf.SlSortCmp.PartialInsertion1
import Derived.Shelf.SlSortCmp.PartitionEqual1
import Derived.Shelf.SlSortCmp.Partition1
import Derived.Shelf.SlSortCmp.Pdq1
import Derived.Shelf.SlSortCmp.Whole1
import Derived.Shelf.SlSortCmp.NoneTotal
import Derived.Test.YtfofnagocedlgaaDoorProg
import Derived.Shelf.Strings.SlTrimAscii
import Derived.Laws.StructEq
import Derived.Test.YtfofnagocedlgaaDoorKf
section
/-
  TEXT (layer 2): trimmed texts; the parts of a list.
-/
set_option maxRecDepth 100000
set_option linter.unusedVariables false
set_option linter.unusedSectionVars false
set_option linter.unusedSimpArgs false
set_option maxHeartbeats 0
namespace Go.Proofs.YtfofnagocedlgaaDoor.Tx
open Go Sh Sl
attribute [local irreducible] condK ArK NilK OpK FnK StK joinK loopK DrawK andK PuK NxK EnK vS uS bS callS invokeS
def isB (c : UInt8) : Bool := ([32, 9] : Bs).contains c
def trim (l : Bs) : Bs := Lib.trimS l [32, 9]
theorem isB_nat (c : UInt8) : isB c = (decide (c.toNat = 32) || decide (c.toNat = 9)) := by
  have h1 : c = 32 ↔ c.toNat = 32 := ⟨fun h => by subst h; rfl, fun h => UInt8.toNat_inj.1 h⟩
  have h2 : c = 9 ↔ c.toNat = 9 := ⟨fun h => by subst h; rfl, fun h => UInt8.toNat_inj.1 h⟩
  by_cases a : c.toNat = 32
  · rw [h1.2 a]; rfl
  · by_cases b : c.toNat = 9
    · rw [h2.2 b]; rfl
    · have : ¬ (c = 32 ∨ c = 9) := by rw [h1, h2]; omega
      simp [isB, a, b, h1, h2]
theorem dw_all {l : Bs} (h : ∀ c ∈ l, isB c = true) (r : Bs) : (l ++ r).dropWhile isB = r.dropWhile isB := by
  induction l with
  | nil => rfl
  | cons c l ih =>
    rw [List.cons_append, List.dropWhile_cons, if_pos (h c List.mem_cons_self)]
    exact ih fun d hd => h d (List.mem_cons_of_mem _ hd)
theorem dw_stop {c : UInt8} {l : Bs} (h : isB c = false) : (c :: l).dropWhile isB = c :: l := by rw [List.dropWhile_cons, h]; rfl
theorem trim_mid {a m b : Bs} (ha : ∀ c ∈ a, isB c = true) (hb : ∀ c ∈ b, isB c = true) (h1 : ∀ c r, m = c :: r → isB c = false) (h2 : ∀ c r, m = r ++ [c] → isB c = false) : trim (a ++ m ++ b) = m := by
  show ((((a ++ m ++ b).reverse.dropWhile isB).reverse).dropWhile isB) = m
  have e1 : (a ++ m ++ b).reverse = b.reverse ++ (m.reverse ++ a.reverse) := by simp
  rw [e1, dw_all (fun c hc => hb c (List.mem_reverse.1 hc))]
  cases hm : m.reverse with
  | nil =>
    have : m = [] := by simpa using hm
    subst this
    have e2 : ([] ++ a.reverse : Bs) = a.reverse ++ [] := by simp
    rw [e2, dw_all (fun c hc => ha c (List.mem_reverse.1 hc))]
    rfl
  | cons c r =>
    have hmr : m = r.reverse ++ [c] := by
      have := congrArg List.reverse hm
      simpa using this
    rw [List.cons_append, dw_stop (h2 c _ hmr)]
    have e3 : (c :: (r ++ a.reverse)).reverse = a ++ m := by rw [hmr]; simp
    rw [e3, dw_all ha]
    cases m with
    | nil => rfl
    | cons d s => exact dw_stop (h1 d s rfl)
theorem trim_len (l : Bs) : (trim l).length ≤ l.length := by
  show ((((l).reverse.dropWhile isB).reverse).dropWhile isB).length ≤ l.length
  have h1 := (List.dropWhile_sublist isB (l := (l.reverse.dropWhile isB).reverse)).length_le
  have h2 := (List.dropWhile_sublist isB (l := l.reverse)).length_le
  simp at h1 h2 ⊢
  omega
/-! the parts of a list -/
structure Ls where
  q : Bool
  mm : Bool
  cur : Bs
  out : List Bs
def emit (cur : Bs) (out : List Bs) : List Bs := if trim cur = [] then out else out ++ [trim cur]
def stp (s : Ls) (c : UInt8) : Ls :=
  if s.mm then ⟨s.q, false, s.cur ++ [c], s.out⟩
  else if s.q && decide (c.toNat = 92) then ⟨s.q, true, s.cur ++ [c], s.out⟩
  else if c.toNat = 34 then ⟨!s.q, false, s.cur ++ [c], s.out⟩
  else if c.toNat = 44 ∧ s.q = false then ⟨s.q, false, [], emit s.cur s.out⟩
  else ⟨s.q, false, s.cur ++ [c], s.out⟩
def lst (l : Bs) : List Bs := let s := l.foldl stp ⟨false, false, [], []⟩; emit s.cur s.out
theorem stp_high {s : Ls} {c : UInt8} (h : 128 ≤ c.toNat) : stp s c = ⟨s.q, false, s.cur ++ [c], s.out⟩ := by
  unfold stp
  split
  · rfl
  · have h1 : ¬ c.toNat = 92 := by omega
    have h2 : ¬ c.toNat = 34 := by omega
    have h3 : ¬ c.toNat = 44 := by omega
    simp [h1, h2, h3]
theorem fold_high (m : Bs) : ∀ s : Ls, (∀ c ∈ m, 128 ≤ c.toNat) → m ≠ [] → m.foldl stp s = ⟨s.q, false, s.cur ++ m, s.out⟩ := by
  induction m with
  | nil => intro s _ h; exact absurd rfl h
  | cons c m ih =>
    intro s h _
    rw [List.foldl_cons, stp_high (h c List.mem_cons_self)]
    by_cases hm : m = []
    · subst hm; rfl
    · rw [ih _ (fun d hd => h d (List.mem_cons_of_mem _ hd)) hm]
      simp
/-- the parts are no longer than the text, together -/
def tot (l : List Bs) : Nat := (l.map List.length).sum
theorem tot_app (l r : List Bs) : tot (l ++ r) = tot l + tot r := by simp [tot]
theorem emit_tot (cur : Bs) (out : List Bs) : tot (emit cur out) + (emit cur out).length ≤ tot out + out.length + cur.length + 1 := by
  unfold emit
  split
  · omega
  · have := trim_len cur
    rw [tot_app]; simp [tot]; omega
theorem fold_tot (m : Bs) : ∀ s : Ls, tot (m.foldl stp s).out + (m.foldl stp s).out.length + (m.foldl stp s).cur.length ≤ tot s.out + s.out.length + s.cur.length + m.length := by
  induction m with
  | nil => intro s; simp
  | cons c m ih =>
    intro s
    rw [List.foldl_cons]
    refine Nat.le_trans (ih _) ?_
    have : tot (stp s c).out + (stp s c).out.length + (stp s c).cur.length ≤ tot s.out + s.out.length + s.cur.length + 1 := by
      have he := emit_tot s.cur s.out
      unfold stp
      split
      · simp
        omega
      split
      · simp
        omega
      split
      · simp
        omega
      split
      · simp
        omega
      · simp
        omega
    simp only [List.length_cons]
    omega
theorem lst_tot (l : Bs) : tot (lst l) + (lst l).length ≤ l.length + 1 := by
  have h1 := fold_tot l ⟨false, false, [], []⟩
  have h2 := emit_tot (l.foldl stp ⟨false, false, [], []⟩).cur (l.foldl stp ⟨false, false, [], []⟩).out
  unfold lst
  simp [tot] at h1 h2 ⊢
  omega
/-! decoding -/
theorem dec (l : Bs) (p : Nat) (hp : p < l.length) :
    (∃ c, l[p]? = some c ∧ c.toNat < 128 ∧ Utf8.decode (ba l) p = (c.toNat, 1)) ∨
    (∃ r w, Utf8.decode (ba l) p = (r, w) ∧ 128 ≤ r ∧ r ≤ 2147483647 ∧ 1 ≤ w ∧ p + w ≤ l.length ∧ ∀ c ∈ (l.drop p).take w, 128 ≤ c.toNat) := by
  obtain ⟨x, hx⟩ : ∃ x, l[p]? = some x := ⟨_, List.getElem?_eq_getElem hp⟩
  have hd : Utf8.decode (ba l) p = Lib.decodeN (l.length - p) (l.getD p 0).toNat (l.getD (p + 1) 0).toNat (l.getD (p + 2) 0).toNat (l.getD (p + 3) 0).toNat := by
    rw [Lib.decode_N]
  have hx0 : (l.getD p 0) = x := by simp [List.getD, hx]
  rw [hx0] at hd
  have hsh := Lib.decodeN_shape (l.length - p) x.toNat (l.getD (p + 1) 0).toNat (l.getD (p + 2) 0).toNat (l.getD (p + 3) 0).toNat
  have allw : ∀ w, (∀ j, j < w → 128 ≤ (l.getD (p + j) 0).toNat) → ∀ c ∈ (l.drop p).take w, 128 ≤ c.toNat := by
    intro w h c hc
    obtain ⟨j, hj, hcj⟩ := List.mem_iff_getElem.1 hc
    have hjw : j < w := by simp at hj; omega
    have := h j hjw
    rw [List.getElem_take, List.getElem_drop] at hcj
    have hlt : p + j < l.length := by simp at hj; omega
    have e1 : l.getD (p + j) 0 = c := by simp [List.getD, List.getElem?_eq_getElem hlt, hcj]
    rw [e1] at this; exact this
  by_cases h128 : x.toNat < 128
  · refine .inl ⟨x, hx, h128, ?_⟩
    rw [hd]; simp [Lib.decodeN, h128]
  · refine .inr ?_
    have g0 : l.getD (p + 0) 0 = x := by simpa using hx0
    rcases hsh with ⟨c, e⟩ | ⟨c1, c2, c3, cv, e⟩ | ⟨c1, c2, c3, c4, cv, cs, e⟩ | ⟨c1, c2, c3, c4, c5, cv, cw, e⟩ | e
    · omega
    · refine ⟨_, _, hd.trans e, by omega, by omega, by omega, by omega, allw _ fun j hj => ?_⟩
      rcases j with _ | _ | j
      · rw [g0]; omega
      · first | omega | (simp only [Nat.zero_add, Nat.reduceAdd]; omega)
      · first | omega | (simp only [Nat.zero_add, Nat.reduceAdd]; omega)
    · refine ⟨_, _, hd.trans e, by omega, by omega, by omega, by omega, allw _ fun j hj => ?_⟩
      rcases j with _ | _ | _ | j
      · rw [g0]; omega
      · first | omega | (simp only [Nat.zero_add, Nat.reduceAdd]; omega)
      · first | omega | (simp only [Nat.zero_add, Nat.reduceAdd]; omega)
      · first | omega | (simp only [Nat.zero_add, Nat.reduceAdd]; omega)
    · refine ⟨_, _, hd.trans e, by omega, by omega, by omega, by omega, allw _ fun j hj => ?_⟩
      rcases j with _ | _ | _ | _ | j
      · rw [g0]; omega
      · first | omega | (simp only [Nat.zero_add, Nat.reduceAdd]; omega)
      · first | omega | (simp only [Nat.zero_add, Nat.reduceAdd]; omega)
      · first | omega | (simp only [Nat.zero_add, Nat.reduceAdd]; omega)
      · first | omega | (simp only [Nat.zero_add, Nat.reduceAdd]; omega)
    · refine ⟨_, _, hd.trans e, by omega, by omega, by omega, by omega, allw _ fun j hj => ?_⟩
      rcases j with _ | j
      · rw [g0]; omega
      · first | omega | (simp only [Nat.zero_add, Nat.reduceAdd]; omega)
section
variable {e : Env} {ctx ctx' rest : List HProp}
/-- a range over a text -/
theorem Ent.srange {s : ByteArray} {c : Value → WP} (h : ∀ i, Ent e (Sl.ob i (.stringIter s 0) :: ctx) (c (.pointer (some ⟨i, 0, none⟩)))) : Ent e ctx (OpK P (.one .raw) (vS (Instr.range 9 (.string s))) c) := Ent.act fun w hw => by
  refine ⟨.pointer (some ⟨w.heap.size, 0, none⟩), w.alloc (.stringIter s 0), .inl (run_vS ?_), _, rfl, h w.heap.size _ (hw.alloc _)⟩
  simp only [Instr.range, Sem.run_bind, run_underlying (dd_str (t := 9) rfl), Result.andThen_ok, Sem.run_pure]
  rfl
theorem Ent.snext {s : ByteArray} {i pos ty : Nat} {c0 : WP} {c1 : Int → Int → WP} (hp : Pick ctx (Sl.ob i (.stringIter s pos)) ctx')
    (h0 : ¬ pos < s.size → Ent e (Sl.ob i (.stringIter s pos) :: ctx') c0)
    (h1 : pos < s.size → Ent e (Sl.ob i (.stringIter s (pos + (Utf8.decode s pos).2)) :: ctx') (c1 pos (Utf8.decode s pos).1)) :
    Ent e ctx (NxK P (vS (Instr.next (.pointer (some ⟨i, 0, none⟩)) true ty)) (.int .i64) (.int .i32) c0 c1) := fun w hw => by
  have hw2 := hw.imp (sepL_perm hp.perm)
  have hb : w.heap[i]? = some (.stringIter s pos) := Has.ob .hd hw2
  have hg : (getObj i).run P w = .ok (.stringIter s pos) w := by simp [getObj, Sem.run, hb]
  unfold NxK NextK
  by_cases hlt : pos < s.size
  · have hset : (setObj i (.stringIter s (pos + (Utf8.decode s pos).2))).run P w = .ok () { w with heap := w.heap.setIfInBounds i (.stringIter s (pos + (Utf8.decode s pos).2)) } := by
      have hi : i < w.heap.size := (Array.getElem?_eq_some_iff.1 hb).1
      have hg9 : w.heap[i] = .stringIter s pos := (Array.getElem?_eq_some_iff.1 hb).2
      simp [setObj, Sem.run, hi, hg9]
    have hrun : (Instr.next (.pointer (some ⟨i, 0, none⟩)) true ty).run P w = .ok (.tuple #[.bool true, goInt pos, .int .i32 (Utf8.decode s pos).1]) { w with heap := w.heap.setIfInBounds i (.stringIter s (pos + (Utf8.decode s pos).2)) } := by
      simp only [Instr.next, Sem.run_bind, hg, Result.andThen_ok, if_pos hlt, hset, Sem.run_pure]
    rw [run_vS hrun]
    refine .inr ⟨_, _, rfl, ?_⟩
    have hs := MapKept.heap_set (o' := .stringIter s (pos + (Utf8.decode s pos).2)) hb
    exact h1 hlt _ (Sat.turn (A := Sl.ob i (.stringIter s pos)) (B := Sl.ob i (.stringIter s (pos + (Utf8.decode s pos).2))) (o := .stringIter s pos) (o' := .stringIter s (pos + (Utf8.decode s pos).2)) hw2 (fun _ k => k) (fun _ k => k) rfl rfl rfl hs.1 hs.2)
  · have hrun : (Instr.next (.pointer (some ⟨i, 0, none⟩)) true ty).run P w = .ok (.tuple #[.bool false]) w := by
      simp only [Instr.next, Sem.run_bind, hg, Result.andThen_ok, if_neg hlt, Sem.run_pure]
    rw [run_vS hrun]
    exact .inl ⟨rfl, h0 hlt w hw2⟩
end
end Go.Proofs.YtfofnagocedlgaaDoor.Tx
end
section
/-
  DERIVED: THE SHELF's CONTRACTS AT THIS DUMP, IN PLAIN WORDS (tools/lay-plain.mjs out of 'YtfofnagocedlgaaDoorShelf.lean', which tools/lay-shelf.mjs wrote): THE SAME DECLARATIONS UNDER THE SAME NAMES: 'import', 'namespace', 'open', 'def', 'theorem' AND NOTHING ELSE: no command of the shelf's: FOR A HAND-IN. Each laying: the table of numbers ('.._ren') and one theorem, a field a fact of the dump's own or the kernel's comparison; each contract: ONE APPLICATION.
-/
namespace Go.Proofs
open Go.Shelf
def Tryd.lays156_ren : Go.Shelf.Ren := ⟨fun | 156 => 50 | 165 => 56 | 166 => 57 | 169 => 58 | 240 => 71 | 241 => 72 | 276 => 79 | 277 => 80 | n => n, fun | 31 => 89 | 9 => 9 | 3 => 3 | 4 => 4 | 0 => 0 | 20 => 20 | 72 => 108 | 76 => 111 | 70 => 106 | 37 => 31 | 75 => 110 | 127 => 124 | 164 => 132 | 5 => 5 | 80 => 113 | n => n, fun | n => n⟩
theorem Tryd.lays156 : Go.Proofs.Lays.n156 Tryd.prog Tryd.lays156_ren := {
  mixed := by kernel_rfl
  f156 := Tryd.func50.trans (congrArg some (by kernel_rfl))
  f165 := Tryd.func56.trans (congrArg some (by kernel_rfl))
  f166 := Tryd.func57.trans (congrArg some (by kernel_rfl))
  f169 := Tryd.func58.trans (congrArg some (by kernel_rfl))
  f240 := Tryd.func71.trans (congrArg some (by kernel_rfl))
  f241 := Tryd.func72.trans (congrArg some (by kernel_rfl))
  f276 := Tryd.func79.trans (congrArg some (by kernel_rfl))
  f277 := Tryd.func80.trans (congrArg some (by kernel_rfl))
  t0 := Tryd.underlying0
  a0 := Tryd.isAgg0
  z0 := Tryd.sizeOf0
  v0 := Tryd.zeroValue0
  t3 := Tryd.underlying3
  a3 := Tryd.isAgg3
  z3 := Tryd.sizeOf3
  v3 := Tryd.zeroValue3
  t4 := Tryd.underlying4
  a4 := Tryd.isAgg4
  z4 := Tryd.sizeOf4
  v4 := Tryd.zeroValue4
  t9 := Tryd.underlying9
  a9 := Tryd.isAgg9
  z9 := Tryd.sizeOf9
  v9 := Tryd.zeroValue9
  t20 := Tryd.underlying20
  a20 := Tryd.isAgg20
  z20 := Tryd.sizeOf20
  v20 := Tryd.zeroValue20
  t31 := Tryd.underlying89
  a31 := Tryd.isAgg89
  z31 := Tryd.sizeOf89
  v31 := Tryd.zeroValue89
  t37 := Tryd.underlying31
  a37 := Tryd.isAgg31
  z37 := Tryd.sizeOf31
  v37 := Tryd.zeroValue31
  t70 := Tryd.underlying106
  a70 := Tryd.isAgg106
  z70 := Tryd.sizeOf106
  v70 := Tryd.zeroValue106
  t72 := Tryd.underlying108
  a72 := Tryd.isAgg108
  z72 := Tryd.sizeOf108
  v72 := Tryd.zeroValue108
  t75 := Tryd.underlying110
  a75 := Tryd.isAgg110
  z75 := Tryd.sizeOf110
  v75 := Tryd.zeroValue110
  t76 := Tryd.underlying111
  a76 := Tryd.isAgg111
  z76 := Tryd.sizeOf111
  v76 := Tryd.zeroValue111
  t127 := Tryd.underlying124
  a127 := Tryd.isAgg124
  z127 := Tryd.sizeOf124
  v127 := Tryd.zeroValue124
  t164 := Tryd.underlying132
  a164 := Tryd.isAgg132
  z164 := Tryd.sizeOf132
  v164 := Tryd.zeroValue132 }
theorem Tryd.Builder_Extra_156 : Builder.Extra Tryd.prog Tryd.lays156_ren := {
  sizeBuilder := by kernel_rfl
  liesBuilder := by kernel_rfl
  t5 := Tryd.underlying5
  a5 := Tryd.isAgg5
  z5 := Tryd.sizeOf5
  v5 := Tryd.zeroValue5
  infoByte := by kernel_rfl
  cellsByte := by kernel_rfl
  sizeByte := by kernel_rfl
  neB5 := by decide }
open Go.RowKit in
/-- No element: the empty string; the world is as it was. (Whatever the slice's address and capacity: a nil slice too.) (LAID: no walk: one application.) -/
theorem Tryd.strings_Join_none (a : Option Addr) (c : Nat) (sep : ByteArray) (w : World) :
    Calls Tryd.prog 50 #[.slice a 0 c, .string sep] w fun e w' => e = .returned (.string ⟨#[]⟩) ∧ w' = w := Any.strings_Join_none Tryd.lays156 Tryd.Builder_Extra_156 a c sep w
open Go.RowKit in
/-- strings.Join: "Join concatenates the elements of its first argument to create a single string. The separator string sep is placed between elements in the resulting string.": HOWEVER MANY ELEMENTS. Below the heap's end the world is as it was. (LAID: no walk: one application.) -/
theorem Tryd.strings_Join (bk o c : Nat) (xs : List ByteArray) (sep : ByteArray) (w : World) (hcells : ∀ (j : Nat) x, xs[j]? = some x → w.cell? ⟨bk, o + j, none⟩ = some (.string x)) (hbk : bk < w.heap.size) (hN : xs.length ≤ 140737488355328) (hcap : xs.length ≤ c) (hlen : (Lib.join (xs.map (·.data.toList)) sep.data.toList).length ≤ 140737488355328) :
    Calls Tryd.prog 50 #[.slice (some ⟨bk, o, none⟩) xs.length c, .string sep] w fun e w' => e = .returned (.string ⟨(Lib.join (xs.map (·.data.toList)) sep.data.toList).toArray⟩) ∧ Below w.heap.size w w' := Any.strings_Join Tryd.lays156 Tryd.Builder_Extra_156 bk o c xs sep w hcells hbk hN hcap hlen
def Tryd.lays160_ren : Go.Shelf.Ren := ⟨fun | 160 => 78 | 232 => 83 | 231 => 82 | 227 => 84 | 234 => 86 | 233 => 85 | 236 => 88 | 235 => 87 | 228 => 89 | 271 => 92 | 151 => 91 | 197 => 90 | 120 => 95 | 152 => 94 | 260 => 93 | 137 => 96 | 119 => 97 | 224 => 98 | 225 => 99 | 217 => 100 | 266 => 101 | n => n, fun | 9 => 9 | 4 => 4 | 3 => 3 | 5 => 5 | 117 => 141 | 116 => 140 | 0 => 0 | 124 => 144 | 21 => 21 | 105 => 146 | 46 => 40 | 119 => 150 | 139 => 153 | 138 => 152 | n => n, fun | 3 => 1 | 4 => 2 | n => n⟩
theorem Tryd.lays160 : Go.Proofs.Lays.n160 Tryd.prog Tryd.lays160_ren := {
  mixed := by kernel_rfl
  f119 := Tryd.func97.trans (congrArg some (by kernel_rfl))
  f120 := Tryd.func95.trans (congrArg some (by kernel_rfl))
  f137 := Tryd.func96.trans (congrArg some (by kernel_rfl))
  f151 := Tryd.func91.trans (congrArg some (by kernel_rfl))
  f152 := Tryd.func94.trans (congrArg some (by kernel_rfl))
  f160 := Tryd.func78.trans (congrArg some (by kernel_rfl))
  f197 := Tryd.func90.trans (congrArg some (by kernel_rfl))
  f217 := Tryd.func100.trans (congrArg some (by kernel_rfl))
  f224 := Tryd.func98.trans (congrArg some (by kernel_rfl))
  f225 := Tryd.func99.trans (congrArg some (by kernel_rfl))
  f227 := Tryd.func84.trans (congrArg some (by kernel_rfl))
  f228 := Tryd.func89.trans (congrArg some (by kernel_rfl))
  f231 := Tryd.func82.trans (congrArg some (by kernel_rfl))
  f232 := Tryd.func83.trans (congrArg some (by kernel_rfl))
  f233 := Tryd.func85.trans (congrArg some (by kernel_rfl))
  f234 := Tryd.func86.trans (congrArg some (by kernel_rfl))
  f235 := Tryd.func87.trans (congrArg some (by kernel_rfl))
  f236 := Tryd.func88.trans (congrArg some (by kernel_rfl))
  f260 := Tryd.func93.trans (congrArg some (by kernel_rfl))
  f266 := Tryd.func101.trans (congrArg some (by kernel_rfl))
  f271 := Tryd.func92.trans (congrArg some (by kernel_rfl))
  t0 := Tryd.underlying0
  a0 := Tryd.isAgg0
  z0 := Tryd.sizeOf0
  v0 := Tryd.zeroValue0
  t3 := Tryd.underlying3
  a3 := Tryd.isAgg3
  z3 := Tryd.sizeOf3
  v3 := Tryd.zeroValue3
  t4 := Tryd.underlying4
  a4 := Tryd.isAgg4
  z4 := Tryd.sizeOf4
  v4 := Tryd.zeroValue4
  t5 := Tryd.underlying5
  a5 := Tryd.isAgg5
  z5 := Tryd.sizeOf5
  v5 := Tryd.zeroValue5
  t9 := Tryd.underlying9
  a9 := Tryd.isAgg9
  z9 := Tryd.sizeOf9
  v9 := Tryd.zeroValue9
  t21 := Tryd.underlying21
  a21 := Tryd.isAgg21
  z21 := Tryd.sizeOf21
  v21 := Tryd.zeroValue21
  t46 := Tryd.underlying40
  a46 := Tryd.isAgg40
  z46 := Tryd.sizeOf40
  v46 := Tryd.zeroValue40
  t105 := Tryd.underlying146
  a105 := Tryd.isAgg146
  z105 := Tryd.sizeOf146
  v105 := Tryd.zeroValue146
  t116 := Tryd.underlying140
  a116 := Tryd.isAgg140
  z116 := Tryd.sizeOf140
  t117 := Tryd.underlying141
  a117 := Tryd.isAgg141
  z117 := Tryd.sizeOf141
  v117 := Tryd.zeroValue141
  t119 := Tryd.underlying150
  a119 := Tryd.isAgg150
  z119 := Tryd.sizeOf150
  t124 := Tryd.underlying144
  a124 := Tryd.isAgg144
  z124 := Tryd.sizeOf144
  v124 := Tryd.zeroValue144
  t138 := Tryd.underlying152
  a138 := Tryd.isAgg152
  z138 := Tryd.sizeOf152
  v138 := Tryd.zeroValue152
  t139 := Tryd.underlying153
  a139 := Tryd.isAgg153
  z139 := Tryd.sizeOf153
  v139 := Tryd.zeroValue153
  g3 := by kernel_rfl
  g4 := by kernel_rfl }
open Go.RowKit in
/-- strings.Trim: "Trim returns a slice of the string s with all leading and trailing Unicode code points contained in cutset removed.": AT A cutset OF ONE ASCII BYTE. THE WORLD BEHIND IT: as it was, or (where s is not empty) with ONE DRAW MORE off the tape: the statement 'return trimLeftByte(trimRightByte(s, c), c)' draws its order of evaluation. (LAID: no walk: one application.) -/
theorem Tryd.strings_Trim_one (s : ByteArray) (c : UInt8) (hc : c.toNat < 128) (w : World) (hs : s.size ≤ 9223372036854775807) :
    Calls Tryd.prog 78 #[.string s, .string ⟨#[c]⟩] w fun e w' => e = .returned (.string ⟨(Lib.trimB s.data.toList c).toArray⟩) ∧ (w' = w ∨ w' = w.drew) := Any.strings_Trim_one Tryd.lays160 s c hc w hs
def Tryd.laysSlF6_f43_ren : Go.Shelf.Ren := ⟨fun | 6 => 43 | 15 => 52 | 14 => 51 | 28 => 67 | 29 => 68 | 20 => 59 | 21 => 60 | 22 => 61 | 23 => 62 | 24 => 63 | 25 => 64 | 26 => 65 | 27 => 66 | 46 => 73 | 47 => 74 | 48 => 75 | 49 => 76 | 50 => 77 | 57 => 81 | n => n, fun | 22 => 77 | 24 => 3 | 25 => 95 | 3 => 3 | 39 => 40 | 0 => 0 | 53 => 122 | 55 => 29 | 4 => 4 | 46 => 116 | 45 => 115 | 50 => 58 | 5 => 5 | 9 => 9 | 66 => 125 | 70 => 129 | 76 => 135 | 77 => 136 | n => n, fun | n => n⟩
theorem Tryd.laysSlF6_f43 : Go.Proofs.SlLaysF.n6 Tryd.prog Tryd.laysSlF6_f43_ren := {
  mixed := by kernel_rfl
  f6 := ⟨Tryd.f43.name, by decide, Tryd.func43.trans (congrArg some (by kernel_rfl))⟩
  f14 := ⟨Tryd.f51.name, by decide, Tryd.func51.trans (congrArg some (by kernel_rfl))⟩
  f15 := Tryd.func52.trans (congrArg some (by kernel_rfl))
  f20 := ⟨Tryd.f59.name, by decide, Tryd.func59.trans (congrArg some (by kernel_rfl))⟩
  f21 := ⟨Tryd.f60.name, by decide, Tryd.func60.trans (congrArg some (by kernel_rfl))⟩
  f22 := ⟨Tryd.f61.name, by decide, Tryd.func61.trans (congrArg some (by kernel_rfl))⟩
  f23 := ⟨Tryd.f62.name, by decide, Tryd.func62.trans (congrArg some (by kernel_rfl))⟩
  f24 := ⟨Tryd.f63.name, by decide, Tryd.func63.trans (congrArg some (by kernel_rfl))⟩
  f25 := ⟨Tryd.f64.name, by decide, Tryd.func64.trans (congrArg some (by kernel_rfl))⟩
  f26 := ⟨Tryd.f65.name, by decide, Tryd.func65.trans (congrArg some (by kernel_rfl))⟩
  f27 := ⟨Tryd.f66.name, by decide, Tryd.func66.trans (congrArg some (by kernel_rfl))⟩
  f28 := Tryd.func67.trans (congrArg some (by kernel_rfl))
  f29 := Tryd.func68.trans (congrArg some (by kernel_rfl))
  f46 := ⟨Tryd.f73.name, by decide, Tryd.func73.trans (congrArg some (by kernel_rfl))⟩
  f47 := Tryd.func74.trans (congrArg some (by kernel_rfl))
  f48 := Tryd.func75.trans (congrArg some (by kernel_rfl))
  f49 := ⟨Tryd.f76.name, by decide, Tryd.func76.trans (congrArg some (by kernel_rfl))⟩
  f50 := ⟨Tryd.f77.name, by decide, Tryd.func77.trans (congrArg some (by kernel_rfl))⟩
  f57 := ⟨Tryd.f81.name, by decide, Tryd.func81.trans (congrArg some (by kernel_rfl))⟩
  t0 := Tryd.underlying0
  a0 := Tryd.isAgg0
  z0 := Tryd.sizeOf0
  v0 := Tryd.zeroValue0
  t3 := Tryd.underlying3
  a3 := Tryd.isAgg3
  z3 := Tryd.sizeOf3
  v3 := Tryd.zeroValue3
  t4 := Tryd.underlying4
  a4 := Tryd.isAgg4
  z4 := Tryd.sizeOf4
  v4 := Tryd.zeroValue4
  t5 := Tryd.underlying5
  a5 := Tryd.isAgg5
  z5 := Tryd.sizeOf5
  v5 := Tryd.zeroValue5
  t9 := Tryd.underlying9
  a9 := Tryd.isAgg9
  z9 := Tryd.sizeOf9
  v9 := Tryd.zeroValue9
  t22 := Tryd.underlying77
  a22 := Tryd.isAgg77
  z22 := Tryd.sizeOf77
  v22 := Tryd.zeroValue77
  a24 := Tryd.isAgg3
  z24 := Tryd.sizeOf3
  t25 := Tryd.underlying95
  a25 := Tryd.isAgg95
  z25 := Tryd.sizeOf95
  v25 := Tryd.zeroValue95
  t39 := Tryd.underlying40
  a39 := Tryd.isAgg40
  z39 := Tryd.sizeOf40
  v39 := Tryd.zeroValue40
  t45 := Tryd.underlying115
  a45 := Tryd.isAgg115
  z45 := Tryd.sizeOf115
  v45 := Tryd.zeroValue115
  t46 := Tryd.underlying116
  a46 := Tryd.isAgg116
  z46 := Tryd.sizeOf116
  v46 := Tryd.zeroValue116
  t50 := Tryd.underlying58
  a50 := Tryd.isAgg58
  z50 := Tryd.sizeOf58
  v50 := Tryd.zeroValue58
  t53 := Tryd.underlying122
  a53 := Tryd.isAgg122
  z53 := Tryd.sizeOf122
  v53 := Tryd.zeroValue122
  t55 := Tryd.underlying29
  a55 := Tryd.isAgg29
  z55 := Tryd.sizeOf29
  v55 := Tryd.zeroValue29
  t66 := Tryd.underlying125
  a66 := Tryd.isAgg125
  z66 := Tryd.sizeOf125
  v66 := Tryd.zeroValue125
  t70 := Tryd.underlying129
  a70 := Tryd.isAgg129
  z70 := Tryd.sizeOf129
  v70 := Tryd.zeroValue129
  t76 := Tryd.underlying135
  a76 := Tryd.isAgg135
  z76 := Tryd.sizeOf135
  v76 := Tryd.zeroValue135
  t77 := Tryd.underlying136
  a77 := Tryd.isAgg136
  z77 := Tryd.sizeOf136
  v77 := Tryd.zeroValue136 }
open Go.RowKit Go.Lib Go.Sort in
/-- **slices.SortFunc, IN THE DOCUMENTATION's OWN TERMS: A PERMUTATION OF WHAT THE ROW HELD, SORTED BY 'cmp(a, b) < 0'.** Which of two equals comes first is left open ("The sort is not guaranteed to be stable"). (LAID AT THE INSTANCE 'slices.SortFunc[[]int,int]': no walk: one application.) -/
theorem Tryd.slices_SortFunc {α : Type} [Inhabited α] (enc : α → Value) (h1 : OneCell enc) (cf : α → α → Int) (hO : SWO (ltOf cf)) (g : Nat) (cb : Array Value) (blk off cap : Nat) (d : Array α) (w : World) (eg : ∀ args w, (callFunc g args).run Tryd.prog w = .ok (.enter g args) w) (hcmp : CmpLays1 Tryd.prog g cb enc cf blk off d.size w) (hH : Holds enc w blk off d) (hblk : blk < w.heap.size) (hsz : d.size < 4611686018427387904) :
    Calls Tryd.prog 43 #[.slice (some ⟨blk, off, none⟩) d.size cap, .func (.func g) #[] cb] w fun e w' =>
      e = .returned (.tuple #[]) ∧ ∃ d' n os, PermIn 0 d.size d d' ∧ SortedIn (ltOf cf) 0 d.size d' ∧ w' = sortWorld enc w blk off n d' os := Any.slices_SortFunc Tryd.laysSlF6_f43 enc h1 cf hO g cb blk off cap d w eg hcmp hH hblk hsz
def Tryd.laysSlF06_f43_ren : Go.Shelf.Ren := ⟨fun | 6 => 43 | 15 => 52 | 14 => 51 | 28 => 67 | 29 => 68 | 20 => 59 | 21 => 60 | 22 => 61 | 23 => 62 | 24 => 63 | 25 => 64 | 26 => 65 | 27 => 66 | 46 => 73 | 47 => 74 | 48 => 75 | 49 => 76 | 50 => 77 | 57 => 81 | n => n, fun | 22 => 77 | 24 => 3 | 25 => 95 | 3 => 3 | 39 => 40 | 0 => 0 | 53 => 122 | 55 => 29 | 4 => 4 | 46 => 116 | 45 => 115 | 50 => 58 | 5 => 5 | 9 => 9 | 66 => 125 | 70 => 129 | 76 => 135 | 77 => 136 | n => n, fun | n => n⟩
theorem Tryd.laysSlF06_f43 : Go.Proofs.SlLaysF0.n6 Tryd.prog Tryd.laysSlF06_f43_ren := {
  mixed := by kernel_rfl
  f6 := ⟨Tryd.f43.name, by decide, Tryd.func43.trans (congrArg some (by kernel_rfl))⟩
  f14 := ⟨Tryd.f51.name, by decide, Tryd.func51.trans (congrArg some (by kernel_rfl))⟩
  f15 := Tryd.func52.trans (congrArg some (by kernel_rfl))
  f20 := ⟨Tryd.f59.name, by decide, Tryd.func59.trans (congrArg some (by kernel_rfl))⟩
  f21 := ⟨Tryd.f60.name, by decide, Tryd.func60.trans (congrArg some (by kernel_rfl))⟩
  f22 := ⟨Tryd.f61.name, by decide, Tryd.func61.trans (congrArg some (by kernel_rfl))⟩
  f23 := ⟨Tryd.f62.name, by decide, Tryd.func62.trans (congrArg some (by kernel_rfl))⟩
  f24 := ⟨Tryd.f63.name, by decide, Tryd.func63.trans (congrArg some (by kernel_rfl))⟩
  f25 := ⟨Tryd.f64.name, by decide, Tryd.func64.trans (congrArg some (by kernel_rfl))⟩
  f26 := ⟨Tryd.f65.name, by decide, Tryd.func65.trans (congrArg some (by kernel_rfl))⟩
  f27 := ⟨Tryd.f66.name, by decide, Tryd.func66.trans (congrArg some (by kernel_rfl))⟩
  f28 := Tryd.func67.trans (congrArg some (by kernel_rfl))
  f29 := Tryd.func68.trans (congrArg some (by kernel_rfl))
  f46 := ⟨Tryd.f73.name, by decide, Tryd.func73.trans (congrArg some (by kernel_rfl))⟩
  f47 := Tryd.func74.trans (congrArg some (by kernel_rfl))
  f48 := Tryd.func75.trans (congrArg some (by kernel_rfl))
  f49 := ⟨Tryd.f76.name, by decide, Tryd.func76.trans (congrArg some (by kernel_rfl))⟩
  f50 := ⟨Tryd.f77.name, by decide, Tryd.func77.trans (congrArg some (by kernel_rfl))⟩
  f57 := ⟨Tryd.f81.name, by decide, Tryd.func81.trans (congrArg some (by kernel_rfl))⟩
  t0 := Tryd.underlying0
  a0 := Tryd.isAgg0
  z0 := Tryd.sizeOf0
  v0 := Tryd.zeroValue0
  t3 := Tryd.underlying3
  a3 := Tryd.isAgg3
  z3 := Tryd.sizeOf3
  v3 := Tryd.zeroValue3
  t4 := Tryd.underlying4
  a4 := Tryd.isAgg4
  z4 := Tryd.sizeOf4
  v4 := Tryd.zeroValue4
  t5 := Tryd.underlying5
  a5 := Tryd.isAgg5
  z5 := Tryd.sizeOf5
  v5 := Tryd.zeroValue5
  t9 := Tryd.underlying9
  a9 := Tryd.isAgg9
  z9 := Tryd.sizeOf9
  v9 := Tryd.zeroValue9
  t22 := Tryd.underlying77
  a22 := Tryd.isAgg77
  z22 := Tryd.sizeOf77
  v22 := Tryd.zeroValue77
  t25 := Tryd.underlying95
  a25 := Tryd.isAgg95
  z25 := Tryd.sizeOf95
  v25 := Tryd.zeroValue95
  t39 := Tryd.underlying40
  a39 := Tryd.isAgg40
  z39 := Tryd.sizeOf40
  v39 := Tryd.zeroValue40
  t45 := Tryd.underlying115
  a45 := Tryd.isAgg115
  z45 := Tryd.sizeOf115
  v45 := Tryd.zeroValue115
  t46 := Tryd.underlying116
  a46 := Tryd.isAgg116
  z46 := Tryd.sizeOf116
  v46 := Tryd.zeroValue116
  t50 := Tryd.underlying58
  a50 := Tryd.isAgg58
  z50 := Tryd.sizeOf58
  v50 := Tryd.zeroValue58
  t53 := Tryd.underlying122
  a53 := Tryd.isAgg122
  z53 := Tryd.sizeOf122
  v53 := Tryd.zeroValue122
  t55 := Tryd.underlying29
  a55 := Tryd.isAgg29
  z55 := Tryd.sizeOf29
  v55 := Tryd.zeroValue29
  t66 := Tryd.underlying125
  a66 := Tryd.isAgg125
  z66 := Tryd.sizeOf125
  v66 := Tryd.zeroValue125
  t70 := Tryd.underlying129
  a70 := Tryd.isAgg129
  z70 := Tryd.sizeOf129
  v70 := Tryd.zeroValue129
  t76 := Tryd.underlying135
  a76 := Tryd.isAgg135
  z76 := Tryd.sizeOf135
  v76 := Tryd.zeroValue135
  t77 := Tryd.underlying136
  a77 := Tryd.isAgg136
  z77 := Tryd.sizeOf136
  v77 := Tryd.zeroValue136 }
open Go.RowKit Go.Lib Go.Sort in
/-- **slices.SortFunc AT NO ELEMENT, A nil SLICE TOO: nothing turns.** (LAID AT THE INSTANCE 'slices.SortFunc[[]int,int]': no walk: one application.) -/
theorem Tryd.slices_SortFunc_none {α : Type} [Inhabited α] (p : Option Addr) (cap : Nat) (fv : Value) (w : World) :
    Calls Tryd.prog 43 #[.slice p 0 cap, fv] w fun e w' => e = .returned (.tuple #[]) ∧ w' = w := AnyF.slices_SortFunc_none Tryd.laysSlF06_f43 p cap fv w
end Go.Proofs
end
section
/-
  TEXT (layer 2): Trim and List of the program and of the document's answer; Join.
-/
set_option maxRecDepth 100000
set_option linter.unusedVariables false
set_option linter.unusedSectionVars false
set_option linter.unusedSimpArgs false
set_option maxHeartbeats 0
namespace Go.Proofs.YtfofnagocedlgaaDoor.Tx
open Go Sh Sl
open Go.RowKit
attribute [local irreducible] condK ArK NilK OpK FnK StK joinK loopK DrawK andK PuK NxK EnK vS uS bS callS invokeS
section
variable {e : Env} {ctx ctx' rest : List HProp}
theorem Sat.below {w w' : World} (h : Sat e (sepL ctx) w) (hb : Below w.heap.size w w') : Sat e (sepL ctx) w' :=
  ⟨hb.os.trans h.os, hb.tape.trans h.tape, hb.output.trans h.output, sepL_mono (fun i o hi => by
    have hlt : i < w.heap.size := (Array.getElem?_eq_some_iff.1 hi).1
    show w'.heap[i]? = some o
    rw [hb.block i hlt]; exact hi) h.heap⟩
theorem Ent.libS {f : Nat} {args : Array Value} {s : ByteArray} {K : ByteArray → WP} (hc : ∀ w, Sat e (sepL ctx) w → Calls P f args w fun e' w' => e' = .returned (.string s) ∧ Below w.heap.size w w') (h : Ent e ctx (K s)) : Ent e ctx (FnK P (.one .str) f args K) := fun w hw => by
  unfold FnK CallK
  refine Calls.mono (hc w hw) fun e' w' hh => ?_
  exact ⟨_, hh.1, s, rfl, h w' (Sat.below hw hh.2)⟩
theorem info_trim : (P.info? (Tryd.lays160_ren.t 116)).map (fun i => (i.zero, i.size)) = some (some (.agg (Array.replicate 256 (.bool false))), 256) := by kernel_rfl
theorem trim_spec {K : ByteArray → WP} {l : Bs} (hl : l.length ≤ 1099511627776) (h : Ent e rest (K (ba (trim l)))) : Ent e rest (text_Trim (ba l) K) := by
  (refine Ent.fn text_Trim_ok ?_; unfold text_Trim_sh)
  refine Ent.libS (s := ba (trim l)) (fun w _ => ?_) h
  have hsz : (ba l).size = l.length := by simp [ba, ByteArray.size]
  have := Any.strings_Trim_laid Tryd.lays160 info_trim (ba l) ⟨#[32, 9]⟩ w (by rw [hsz]; omega) (by decide) (ascii_of_all (by decide))
  exact this
theorem st_slSB {l : Bs} {k k' : IntKind} {a b : Int} (h0 : 0 ≤ a) (h1 : a ≤ b) (h2 : b ≤ l.length) :
    Pu (vS (Instr.sliceAt 9 (.string (ba l)) (some (.int k a)) (some (.int k' b)) none)) (.string (ba ((l.take b.toNat).drop a.toNat))) := Still.of_run fun w => by
  have hsz : (ba l).size = l.length := by simp [ba, ByteArray.size]
  rw [run_sliceAt_string w _ _ _ _ _ (dd_str rfl), run_slice_string w _ _ k k' a b (dd_str rfl) h0 h1 (by rw [hsz]; exact h2), ByteArray.extract_mk]
  congr 3
  rw [List.drop_take]
end
end Go.Proofs.YtfofnagocedlgaaDoor.Tx
end
section
/-
  TEXT (layer 2): List, the program's and the document's.
-/
set_option maxRecDepth 100000
set_option linter.unusedVariables false
set_option linter.unusedSectionVars false
set_option linter.unusedSimpArgs false
set_option maxHeartbeats 0
namespace Go.Proofs.YtfofnagocedlgaaDoor.Tx
open Go Sh Sl
attribute [local irreducible] condK ArK NilK OpK FnK StK joinK loopK DrawK andK PuK NxK EnK vS uS bS callS invokeS
/-- the cells of texts -/
def ss (l : List Bs) : List Value := l.map fun x => .string (ba x)
@[simp] theorem ss_len (l : List Bs) : (ss l).length = l.length := by simp [ss]
@[simp] theorem ss_nil : ss [] = [] := rfl
theorem ss_app (l r : List Bs) : ss (l ++ r) = ss l ++ ss r := by simp [ss]
abbrev l0 : Ls := ⟨false, false, [], []⟩
theorem ba_nil {l : Bs} : (ba l = ⟨#[]⟩) ↔ l = [] := by
  constructor
  · intro h; simpa [ba] using h
  · intro h; subst h; rfl
theorem drop_snoc {l : Bs} {p fr : Nat} {c : UInt8} (h : l[p]? = some c) (hf : fr ≤ p) : (l.take (p + 1)).drop fr = (l.take p).drop fr ++ [c] := by
  have hlt := (List.getElem?_eq_some_iff.1 h).1
  rw [List.take_add_one, h]
  show (List.take p l ++ [c]).drop fr = _
  rw [List.drop_append_of_le_length (by simp; omega)]
theorem take_more {l : Bs} {p w fr : Nat} (hf : fr ≤ p) (hp : p ≤ l.length) : (l.take (p + w)).drop fr = (l.take p).drop fr ++ (l.drop p).take w := by
  rw [List.take_add]
  rw [List.drop_append_of_le_length (by simp; omega)]
section
variable {e : Env} {ctx ctx' rest : List HProp}
theorem end_spec {K : Value → WP} {bs bf bl : Nat} {l : Bs} {fr to : Nat} {out : List Bs} {a : Option Addr} {c : Nat} (hl : l.length ≤ 1099511627776) (h1 : fr ≤ to) (h2 : to ≤ l.length) (ho : out.length ≤ l.length)
    (h : ∀ a2 c2, Ent e (pt bs [.string (ba l)] :: pt bf [.int .i64 ((to : Int) + 1)] :: pt bl [.slice a2 (emit ((l.take to).drop fr) out).length c2] :: SlO a2 (emit ((l.take to).drop fr) out).length c2 1 (ss (emit ((l.take to).drop fr) out)) :: rest) (K (.tuple #[]))) :
    Ent e (pt bs [.string (ba l)] :: pt bf [.int .i64 fr] :: pt bl [.slice a out.length c] :: SlO a out.length c 1 (ss out) :: rest) (text_List_c1 to (.pointer (some ⟨bs, 0, none⟩)) (.pointer (some ⟨bf, 0, none⟩)) (.pointer (some ⟨bl, 0, none⟩)) K) := by
  (refine Ent.fn text_List_c1_ok ?_; unfold text_List_c1_sh)
  (refine Ent.go ?_)
  refine Ent.opS (st_slSB (by omega) (by omega) (by omega)).still ?_
  rw [Int.toNat_natCast, Int.toNat_natCast]
  obtain ⟨cur, hcur⟩ : ∃ cur, cur = (l.take to).drop fr := ⟨_, rfl⟩
  rw [← hcur] at h ⊢
  have hcl : cur.length ≤ l.length := by rw [hcur]; simp; omega
  refine trim_spec (by omega) ?_
  (refine Ent.go ?_)
  by_cases ht : trim cur = []
  · have e1 : emit cur out = out := by unfold emit; rw [if_pos ht]
    rw [e1] at h
    refine Ent.wF ?_ (by rw [decide_eq_true (ba_nil.2 ht)]; rfl)
    (refine Ent.go ?_)
    exact Ent.imp (by (focus ((repeat ((with_reducible apply Imp.pick); (repeat (first | exact Pick.hd | apply Pick.tl)))); (repeat (first | exact Imp.refl _ | exact Imp.nil _ | apply Imp.drop)); done))) (h a c)
  · have e1 : emit cur out = out ++ [trim cur] := by unfold emit; rw [if_neg ht]
    rw [e1] at h
    refine Ent.wT ?_ (by rw [decide_eq_false (fun hh => ht (ba_nil.1 hh))]; rfl)
    (refine Ent.go ?_)
    refine Ent.app1 (fun a2 c2 => ?_)
    (refine Ent.go ?_)
    refine Ent.imp ?_ (h a2 c2)
    have e2 : (out ++ [trim cur]).length = out.length + 1 := by simp
    rw [e2, ss_app]
    (focus ((repeat ((with_reducible apply Imp.pick); (repeat (first | exact Pick.hd | apply Pick.tl)))); (repeat (first | exact Imp.refl _ | exact Imp.nil _ | apply Imp.drop)); done))
theorem list_spec {K : Value → WP} {l : Bs} (hl : l.length ≤ 1099511627776) (h : ∀ a c, Ent e (SlO a (lst l).length c 1 (ss (lst l)) :: rest) (K (.slice a (lst l).length c))) : Ent e rest (text_List (ba l) K) := by
  (refine Ent.fn text_List_ok ?_; unfold text_List_sh)
  refine Ent.box' fun bs => ?_
  refine Ent.alloc' fun bl => ?_
  refine Ent.alloc' fun bf => ?_
  (refine Ent.go ?_)
  refine Ent.srange fun it => ?_
  have hsz : (ba l).size = l.length := by simp [ba, ByteArray.size]
  have hout : ∀ p, (l.take p |>.foldl stp l0).out.length ≤ l.length := fun p => by
    have := fold_tot (l.take p) l0
    have h3 : (l.take p).length ≤ l.length := by simp; omega
    simp [tot] at this
    omega
  refine Ent.loop2 (k0 := .bool) (k1 := .bool) (fun N q m => exs (fun (y : Nat × Nat × List Bs × Option Addr × Nat) => sepL [pur ((l.take y.1).foldl stp l0 = ⟨q, m, (l.take y.1).drop y.2.1, y.2.2.1⟩ ∧ y.2.1 ≤ y.1 ∧ y.1 ≤ l.length ∧ N = l.length - y.1), Sl.ob it (.stringIter (ba l) y.1), pt bf [.int .i64 y.2.1], pt bl [.slice y.2.2.2.1 y.2.2.1.length y.2.2.2.2], SlO y.2.2.2.1 y.2.2.1.length y.2.2.2.2 1 (ss y.2.2.1)]) :: pt bs [.string (ba l)] :: rest) l.length ?_ ?_
  · refine Imp.exs (0, 0, [], none, 0) (Imp.g5 (Imp.pur ⟨by simp, Nat.le_refl _, Nat.zero_le _, rfl⟩ ?_))
    refine Imp.trans (Imp.slN (sz := 1) (Imp.refl _)) ?_
    show Imp _ (Sl.ob it (.stringIter (ba l) 0) :: pt bf [.int .i64 0] :: pt bl [.slice none 0 0] :: SlO none 0 0 1 [] :: pt bs [.string (ba l)] :: rest)
    (focus ((repeat ((with_reducible apply Imp.pick); (repeat (first | exact Pick.hd | apply Pick.tl)))); (repeat (first | exact Imp.refl _ | exact Imp.nil _ | apply Imp.drop)); done))
  intro N K' hK q m
  refine Ent.exs fun ⟨p, fr, out, a, c⟩ => Ent.g5 (Ent.pur fun ⟨f1, f2, f3, f4⟩ => ?_)
  dsimp only at f1 f2 f3 f4
  dsimp only
  subst f4
  have hol : out.length ≤ l.length := by have := hout p; rw [f1] at this; exact this
  refine Ent.snext (by (repeat (first | exact Pick.hd | apply Pick.tl))) (fun hp => ?_) (fun hp => ?_)
  · have hpl : p = l.length := by omega
    subst hpl
    (refine Ent.go ?_)
    refine Ent.callF (by rfl) ?_
    refine Ent.imp (ctx' := pt bs [.string (ba l)] :: pt bf [.int .i64 fr] :: pt bl [.slice a out.length c] :: SlO a out.length c 1 (ss out) :: Sl.ob it (.stringIter (ba l) l.length) :: rest) (by (focus ((repeat ((with_reducible apply Imp.pick); (repeat (first | exact Pick.hd | apply Pick.tl)))); (repeat (first | exact Imp.refl _ | exact Imp.nil _ | apply Imp.drop)); done))) ?_
    refine end_spec hl f2 (Nat.le_refl _) hol fun a2 c2 => ?_
    (refine Ent.go ?_)
    have e1 : emit ((l.take l.length).drop fr) out = lst l := by
      rw [List.take_of_length_le (Nat.le_refl _)] at f1 ⊢
      unfold lst
      dsimp only
      rw [f1]
    rw [e1]
    exact Ent.imp (by (focus ((repeat ((with_reducible apply Imp.pick); (repeat (first | exact Pick.hd | apply Pick.tl)))); (repeat (first | exact Imp.refl _ | exact Imp.nil _ | apply Imp.drop)); done))) (h a2 c2)
  · rw [hsz] at hp
    have next : ∀ (w : Nat) (q' m' : Bool) (fr' : Nat) (out' : List Bs) (a' : Option Addr) (c' : Nat), 1 ≤ w → p + w ≤ l.length → (l.take (p + w)).foldl stp l0 = ⟨q', m', (l.take (p + w)).drop fr', out'⟩ → fr' ≤ p + w →
        Ent e (Sl.ob it (.stringIter (ba l) (p + w)) :: pt bf [.int .i64 fr'] :: pt bl [.slice a' out'.length c'] :: SlO a' out'.length c' 1 (ss out') :: pt bs [.string (ba l)] :: rest) (K' q' m') := by
      intro w q' m' fr' out' a' c' hw hpw hf hfr
      refine Ent.imp ?_ (hK (l.length - (p + w)) (by omega) _ _)
      exact Imp.exs (p + w, fr', out', a', c') (Imp.g5 (Imp.pur ⟨hf, hfr, hpw, rfl⟩ (Imp.refl _)))
    rcases dec l p hp with ⟨x, hx, hx1, hd⟩ | ⟨r, w, hd, hr1, hr2, hw1, hw2, hhi⟩
    · rw [hd]
      dsimp only
      have hfold : (l.take (p + 1)).foldl stp l0 = stp ⟨q, m, (l.take p).drop fr, out⟩ x := by
        rw [List.take_add_one, hx]
        show List.foldl stp l0 (List.take p l ++ [x]) = _
        rw [List.foldl_append, f1]; rfl
      have hcur := drop_snoc hx f2
      cases m with
      | true =>
        (refine Ent.go ?_)
        exact next 1 q false fr out a c (by omega) (by omega) (by rw [hfold, hcur]; rfl) (by omega)
      | false =>
        refine Ent.wF ?_
        refine Ent.join ?_
        have h92 : ((x.toNat : Int) == 92) = decide (x.toNat = 92) := by
          by_cases hh : x.toNat = 92 <;> simp [hh]
          omega
        have hcase : ∀ v : Bool, (q && decide (x.toNat = 92)) = v → Ent e (Sl.ob it (.stringIter (ba l) (p + 1)) :: pt bf [.int .i64 fr] :: pt bl [.slice a out.length c] :: SlO a out.length c 1 (ss out) :: pt bs [.string (ba l)] :: rest)
            (condK v (K' q true) (condK ((x.toNat : Int) == 34) (K' (!q) false) (condK ((x.toNat : Int) == 44) (condK (!q) (oR (callS (.func (.func 69) #[] #[.pointer (some ⟨bs, 0, none⟩), .pointer (some ⟨bf, 0, none⟩), .pointer (some ⟨bl, 0, none⟩)]) #[(.int .i64 (p : Int))]) fun _ => K' q false) (K' q false)) (K' q false)))) := by
          intro v hv
          cases v with
          | true =>
            refine Ent.wT ?_
            refine next 1 q true fr out a c (by omega) (by omega) ?_ (by omega)
            rw [hfold, hcur]
            unfold stp
            simp only [Bool.false_eq_true, if_false, hv, if_true]
          | false =>
            refine Ent.wF ?_
            refine Ent.condE (fun h34 => ?_) fun h34 => ?_
            · refine next 1 (!q) false fr out a c (by omega) (by omega) ?_ (by omega)
              rw [hfold, hcur]
              unfold stp
              have : x.toNat = 34 := by omega
              simp only [Bool.false_eq_true, if_false, hv]
              rw [if_pos this]
            · have n34 : ¬ x.toNat = 34 := by omega
              refine Ent.condE (fun h44 => ?_) fun h44 => ?_
              · have y44 : x.toNat = 44 := by omega
                cases q with
                | true =>
                  refine Ent.wF ?_
                  refine next 1 true false fr out a c (by omega) (by omega) ?_ (by omega)
                  rw [hfold, hcur]
                  unfold stp
                  simp only [Bool.false_eq_true, if_false, hv, n34, Bool.true_eq_false, and_false]
                | false =>
                  refine Ent.wT ?_
                  refine Ent.callF (by rfl) ?_
                  refine Ent.imp (ctx' := pt bs [.string (ba l)] :: pt bf [.int .i64 fr] :: pt bl [.slice a out.length c] :: SlO a out.length c 1 (ss out) :: Sl.ob it (.stringIter (ba l) (p + 1)) :: rest) (by (focus ((repeat ((with_reducible apply Imp.pick); (repeat (first | exact Pick.hd | apply Pick.tl)))); (repeat (first | exact Imp.refl _ | exact Imp.nil _ | apply Imp.drop)); done))) ?_
                  refine end_spec hl f2 f3 hol fun a2 c2 => ?_
                  refine Ent.imp ?_ (next 1 false false (p + 1) (emit ((l.take p).drop fr) out) a2 c2 (by omega) (by omega) ?_ (Nat.le_refl _))
                  · show Imp _ (Sl.ob it (.stringIter (ba l) (p + 1)) :: pt bf [.int .i64 ((p : Int) + 1)] :: _)
                    (focus ((repeat ((with_reducible apply Imp.pick); (repeat (first | exact Pick.hd | apply Pick.tl)))); (repeat (first | exact Imp.refl _ | exact Imp.nil _ | apply Imp.drop)); done))
                  · rw [hfold]
                    have : (l.take (p + 1)).drop (p + 1) = [] := List.drop_eq_nil_of_le (by simp; omega)
                    rw [this]
                    unfold stp
                    simp only [Bool.false_eq_true, if_false, hv, n34]
                    rw [if_pos ⟨y44, trivial⟩]
              · have n44 : ¬ x.toNat = 44 := by omega
                refine next 1 q false fr out a c (by omega) (by omega) ?_ (by omega)
                rw [hfold, hcur]
                unfold stp
                simp only [Bool.false_eq_true, if_false, hv, n34, n44, false_and]
        cases q with
        | true =>
          refine Ent.wT ?_
          rw [h92]
          exact hcase _ rfl
        | false =>
          refine Ent.wF ?_
          exact hcase false rfl
    · rw [hd]
      dsimp only
      have hne : (l.drop p).take w ≠ [] := by
        intro hh
        have := congrArg List.length hh
        simp at this
        omega
      have hfold : (l.take (p + w)).foldl stp l0 = ⟨q, false, (l.take (p + w)).drop fr, out⟩ := by
        rw [take_more f2 f3, List.take_add, List.foldl_append, f1, fold_high _ _ hhi hne]
      have n92 : ((r : Int) == 92) = false := beq_eq_false_iff_ne.2 (by omega)
      have n34 : ((r : Int) == 34) = false := beq_eq_false_iff_ne.2 (by omega)
      have n44 : ((r : Int) == 44) = false := beq_eq_false_iff_ne.2 (by omega)
      have fin := next w q false fr out a c hw1 hw2 hfold (by omega)
      rw [n92, n34, n44]
      cases m <;> cases q <;> first | ((refine Ent.go ?_); exact fin) | (refine Ent.wF ?_; refine Ent.join ?_; (refine Ent.go ?_); exact fin)
end
end Go.Proofs.YtfofnagocedlgaaDoor.Tx
end
section
/-
  TEXT (layer 2): the document's List.
-/
set_option maxRecDepth 100000
set_option linter.unusedVariables false
set_option linter.unusedSectionVars false
set_option linter.unusedSimpArgs false
set_option maxHeartbeats 0
namespace Go.Proofs.YtfofnagocedlgaaDoor.Tx
open Go Sh Sl
attribute [local irreducible] condK ArK NilK OpK FnK StK joinK loopK DrawK andK PuK NxK EnK vS uS bS callS invokeS
theorem fold_next {l : Bs} {p : Nat} {c : UInt8} {s : Ls} (h : l[p]? = some c) (hf : (l.take p).foldl stp l0 = s) : (l.take (p + 1)).foldl stp l0 = stp s c := by
  rw [List.take_add_one, h]
  show List.foldl stp l0 (List.take p l ++ [c]) = _
  rw [List.foldl_append, hf]; rfl
section
variable {e : Env} {ctx ctx' rest : List HProp}
end
end Go.Proofs.YtfofnagocedlgaaDoor.Tx
end
section
/-
  FIELDS (layers 5, 11, 16): Get, Elements, Names, Select, Same, of the program and of the document.
-/
set_option maxRecDepth 100000
set_option linter.unusedVariables false
set_option linter.unusedSectionVars false
set_option linter.unusedSimpArgs false
set_option maxHeartbeats 0
namespace Go.Proofs.YtfofnagocedlgaaDoor.Tx
open Go Sh Sl
attribute [local irreducible] condK ArK NilK OpK FnK StK joinK loopK DrawK andK PuK NxK EnK vS uS bS callS invokeS
abbrev Fd := Bs × Bs
abbrev fdC (x : Fd) : List Value := [.string (ba x.1), .string (ba x.2)]
def fc (l : List Fd) : List Value := (l.map fdC).flatten
@[simp] theorem fc_len (l : List Fd) : (fc l).length = l.length * 2 := flat_len fdC 2 (fun _ => rfl) l
@[simp] theorem fc_nil : fc [] = [] := rfl
theorem fc_app (l r : List Fd) : fc (l ++ r) = fc l ++ fc r := by simp [fc]
theorem fc_at {l : List Fd} {i : Nat} {f : Fd} (h : l[i]? = some f) : (fc l)[i * 2]? = some (.string (ba f.1)) ∧ (fc l)[i * 2 + 1]? = some (.string (ba f.2)) := by
  have h1 := flat_sub fdC 2 (fun _ => rfl) h
  have h2 : (((l.map fdC).flatten.drop (i * 2)).take 2)[0]? = some (.string (ba f.1)) := by rw [h1]; rfl
  have h3 : (((l.map fdC).flatten.drop (i * 2)).take 2)[1]? = some (.string (ba f.2)) := by rw [h1]; rfl
  rw [List.getElem?_take, if_pos (by omega), List.getElem?_drop] at h2
  rw [List.getElem?_take, if_pos (by omega), List.getElem?_drop] at h3
  exact ⟨by simpa [fc] using h2, by simpa [fc] using h3⟩
/-- how much is there -/
def fsz (l : List Fd) : Nat := (l.map fun f => f.1.length + f.2.length + 2).sum
def get (l : List Fd) (n : Bs) : List Bs := (l.filter fun f => decide (lower f.1 = lower n)).map (·.2)
def elems (l : List Fd) (n : Bs) : List Bs := (get l n).flatMap lst
theorem fsz_mem {l : List Fd} {f : Fd} (h : f ∈ l) : f.1.length + f.2.length + 2 ≤ fsz l := by
  induction l with
  | nil => cases h
  | cons g l ih =>
    rcases List.mem_cons.1 h with rfl | h
    · simp [fsz]
    · have := ih h; simp [fsz] at this ⊢; omega
theorem fsz_len (l : List Fd) : l.length * 2 ≤ fsz l := by
  induction l with
  | nil => simp [fsz]
  | cons g l ih => simp [fsz] at ih ⊢; omega
theorem get_cons (f : Fd) (l : List Fd) (n : Bs) : get (f :: l) n = if lower f.1 = lower n then f.2 :: get l n else get l n := by
  unfold get
  by_cases h : lower f.1 = lower n <;> simp [h]
theorem get_snoc (l : List Fd) (f : Fd) (n : Bs) : get (l ++ [f]) n = if lower f.1 = lower n then get l n ++ [f.2] else get l n := by
  unfold get
  by_cases h : lower f.1 = lower n <;> simp [h]
theorem get_tot (l : List Fd) (n : Bs) : tot (get l n) + (get l n).length * 2 ≤ fsz l := by
  induction l with
  | nil => simp [get, tot, fsz]
  | cons f l ih =>
    rw [get_cons]
    have : fsz (f :: l) = f.1.length + f.2.length + 2 + fsz l := by simp [fsz]
    split
    · simp [tot] at ih ⊢; omega
    · omega
theorem mem_tot {l : List Bs} {x : Bs} (h : x ∈ l) : x.length ≤ tot l := by
  induction l with
  | nil => cases h
  | cons g l ih =>
    rcases List.mem_cons.1 h with rfl | h
    · simp [tot]
    · have := ih h; simp [tot] at this ⊢; omega
theorem flat_tot (l : List Bs) : tot (l.flatMap lst) + (l.flatMap lst).length ≤ tot l + l.length := by
  induction l with
  | nil => simp [tot]
  | cons x l ih =>
    have := lst_tot x
    simp [tot] at ih this ⊢
    omega
theorem elems_tot (l : List Fd) (n : Bs) : tot (elems l n) + (elems l n).length ≤ fsz l := by
  have h1 := flat_tot (get l n)
  have h2 := get_tot l n
  unfold elems
  omega
section
variable {e : Env} {ctx ctx' rest R : List HProp}
/-- a field of an element -/
theorem fdAt {a : Option Addr} {n c i j : Nat} {l : List Fd} {f : Fd} {v : Bs} {K : ByteArray → WP} (hr : Rd ctx a (fc l)) (hi : l[i]? = some f) (hn : i < n) (hj : (j = 0 ∧ v = f.1) ∨ (j = 1 ∧ v = f.2)) (h : Ent e ctx (K (ba v))) :
    Ent e ctx (oR (vS (Instr.indexAt 30 (.slice a n c) (.int .i64 (i : Int)))) fun t => fS 75 t j 9 K) := by
  have hil := (List.getElem?_eq_some_iff.1 hi).1
  obtain ⟨b, off, rfl, hrd⟩ := rd_some hr (by simp; omega)
  refine Ent.opR (st_ix rfl rfl (by omega) (by omega)).still ?_
  have hf := fc_at hi
  rw [Int.toNat_natCast]
  rcases hj with ⟨rfl, rfl⟩ | ⟨rfl, rfl⟩
  · refine Ent.opR (st_field (off := 0) rfl).still ?_
    exact Ent.opS (st_loadR (i := i * 2) hrd rfl hf.1) h
  · refine Ent.opR (st_field (off := 1) rfl).still ?_
    have := st_loadR (e := e) (t := 9) (i := i * 2 + 1) hrd rfl hf.2
    rw [← Nat.add_assoc] at this
    exact Ent.opS this h
/-- in a drawn region -/
theorem fdAtQ {a : Option Addr} {n c i j : Nat} {l : List Fd} {f : Fd} {v : Bs} {K : ByteArray → WP} (hr : Rd R a (fc l)) (hi : l[i]? = some f) (hn : i < n) (hj : (j = 0 ∧ v = f.1) ∨ (j = 1 ∧ v = f.2)) (h : Ent e ctx (K (ba v))) :
    Ent e ctx (qR (vS (Instr.indexAt 30 (.slice a n c) (.int .i64 (i : Int)))) fun t => gS (Sat e (sepL R)) 75 t j 9 K) := by
  have hil := (List.getElem?_eq_some_iff.1 hi).1
  obtain ⟨b, off, rfl, hrd⟩ := rd_some hr (by simp; omega)
  refine Ent.puR (st_ix rfl rfl (by omega) (by omega)) ?_
  have hf := fc_at hi
  rw [Int.toNat_natCast]
  rcases hj with ⟨rfl, rfl⟩ | ⟨rfl, rfl⟩
  · refine Ent.puR (st_field (off := 0) rfl) ?_
    exact Ent.stS (st_loadR (i := i * 2) hrd rfl hf.1) h
  · refine Ent.puR (st_field (off := 1) rfl) ?_
    have := st_loadR (e := e) (t := 9) (i := i * 2 + 1) hrd rfl hf.2
    rw [← Nat.add_assoc] at this
    exact Ent.stS this h
/-- a field whole -/
theorem fdR {a : Option Addr} {n c i : Nat} {l : List Fd} {f : Fd} {K : Value → WP} (hr : Rd ctx a (fc l)) (hi : l[i]? = some f) (hn : i < n) (h : Ent e ctx (K (.agg (fdC f).toArray))) :
    Ent e ctx (iR 30 (.slice a n c) .i64 (i : Int) 75 K) := by
  have hx : l[((i : Int)).toNat]? = some f := by rw [Int.toNat_natCast]; exact hi
  exact Ent.wiAr (f := fdC) hr h rfl rfl rfl (by omega) (by omega) (fun _ => rfl) (by decide) hx
theorem fdJ {a : Option Addr} {n c i : Nat} {l : List Fd} {f : Fd} {K : Value → WP} (hr : Rd R a (fc l)) (hi : l[i]? = some f) (hn : i < n) (h : Ent e ctx (K (.agg (fdC f).toArray))) :
    Ent e ctx (jR (Sat e (sepL R)) 30 (.slice a n c) .i64 (i : Int) 75 K) := by
  have hil := (List.getElem?_eq_some_iff.1 hi).1
  obtain ⟨b, off, rfl, hrd⟩ := rd_some hr (by simp; omega)
  refine Ent.puR (st_ix rfl rfl (by omega) (by omega)) ?_
  rw [Int.toNat_natCast]
  exact Ent.stR (st_loadRA hrd rfl (flat_sub fdC 2 (fun _ => rfl) hi) rfl) h
theorem fdF : (P.fieldsOf 75).toList.map (fun f => (decide (f.name ≠ "_"), f.type, f.offset)) = [(true, 9, 0), (true, 9, 1)] := by kernel_rfl
theorem st_neFd {X Y : Operand} {f g : Fd} : Pu (bS .neq 75 X Y (.agg (fdC f).toArray) (.agg (fdC g).toArray)) (.bool (!decide (f = g))) :=
  still_bS (fun w => run_eqGuard_agg w _ _ _ _ _ _ (by kernel_rfl)) fun w => by
    have hF := fdF
    obtain ⟨f1, f2, hff⟩ : ∃ f1 f2, (P.fieldsOf 75).toList = [f1, f2] := by
      have hl := congrArg List.length hF
      simp only [List.length_map] at hl
      generalize (P.fieldsOf 75).toList = L at hl
      match L, hl with
      | [f1, f2], _ => exact ⟨f1, f2, rfl⟩
    rw [hff] at hF
    simp only [List.map_cons, List.map_nil, List.cons.injEq, Prod.mk.injEq, and_true, decide_eq_true_eq] at hF
    obtain ⟨⟨a1, a2, a3⟩, b1, b2, b3⟩ := hF
    have ht : P.underlying 75 = some (.struct (P.fieldsOf 75)) := by kernel_rfl
    have hp : P.stoodInHeld 75 = false := by kernel_rfl
    have hs : P.underlying 9 = some .string := dd_str rfl
    have hag : ∀ w, (isAgg 9).run P w = .ok false w := by
      obtain ⟨_, _, _, _, _, h4⟩ := sc_spec (t := 9) rfl
      exact h4
    rw [run_neq_struct, run_equalIn_agg w 9999 _ _ _ ht hp, hff]
    have e1 : (ba f.1 = ba g.1) ↔ f.1 = g.1 := by simp [ba]
    have e2 : (ba f.2 = ba g.2) ↔ f.2 = g.2 := by simp [ba]
    have hd : decide (f = g) = (decide (ba f.1 = ba g.1) && decide (ba f.2 = ba g.2)) := by
      rw [← Bool.decide_and, decide_eq_decide, e1, e2, Prod.ext_iff]
    rw [hd]
    simp only [Op.eqFields, a1, a2, a3, b1, b2, b3, not_false_eq_true, if_true, ne_eq, Sem.run_bind, part, hag, Result.andThen_ok, Bool.false_eq_true, if_false]
    simp [run_equalIn_string w _ _ _ _ hs, ba_eq]
    by_cases h1 : f.1 = g.1 <;> by_cases h2 : f.2 = g.2 <;> simp [h1, h2, e1, e2]
end
end Go.Proofs.YtfofnagocedlgaaDoor.Tx
end
section
/-
  FIELDS (layers 5, 11): Get, Elements; (layer 16, 9) whether fields are the same.
-/
set_option maxRecDepth 100000
set_option linter.unusedVariables false
set_option linter.unusedSectionVars false
set_option linter.unusedSimpArgs false
set_option maxHeartbeats 0
namespace Go.Proofs.YtfofnagocedlgaaDoor.Tx
open Go Sh Sl
attribute [local irreducible] condK ArK NilK OpK FnK StK joinK loopK DrawK andK PuK NxK EnK vS uS bS callS invokeS
section
variable {e : Env} {ctx ctx' rest R : List HProp}
theorem take_snoc {α : Type} {l : List α} {k : Nat} {x : α} (h : l[k]? = some x) : l.take (k + 1) = l.take k ++ [x] := by rw [List.take_add_one, h]; rfl
theorem get_spec {K : Value → WP} {a : Option Addr} {c : Nat} {l : List Fd} {n : Bs} (hr : Rd rest a (fc l)) (hl : fsz l ≤ 1099511627776) (hn : n.length ≤ 1099511627776)
    (h : ∀ a c, Ent e (SlO a (get l n).length c 1 (ss (get l n)) :: rest) (K (.slice a (get l n).length c))) : Ent e rest (head_Get (.slice a l.length c) (ba n) K) := by
  (refine Ent.fn head_Get_ok ?_; unfold head_Get_sh)
  (refine Ent.go ?_)
  have hll := fsz_len l
  refine Ent.rngL1 (k0 := .raw) l.length (fun k v => exs (fun (y : Option Addr × Nat) => sepL [pur (v = .slice y.1 (get (l.take k) n).length y.2), SlO y.1 (get (l.take k) n).length y.2 1 (ss (get (l.take k) n))]) :: rest) rfl ?_ ?_
  · refine Imp.exs (none, 0) (Imp.g2 (Imp.pur (by simp [get]) ?_))
    exact Imp.slN (Imp.refl _)
  intro k hk K' hK v
  refine Ent.exs fun ⟨a2, c2⟩ => Ent.g2 (Ent.pur fun hv => ?_)
  dsimp only at hv
  dsimp only
  subst hv
  by_cases hkn : k < l.length
  · obtain ⟨f, hf⟩ : ∃ f, l[k]? = some f := ⟨_, List.getElem?_eq_getElem hkn⟩
    have hfm := fsz_mem (List.mem_of_getElem? hf)
    have hs := get_snoc (l.take k) f n
    rw [← take_snoc hf] at hs
    have hgl : (get (l.take k) n).length ≤ l.length := by
      unfold get
      have := List.length_filter_le (fun f : Fd => decide (lower f.1 = lower n)) (l.take k)
      simp at this ⊢; omega
    refine Ent.wT ?_ (by simpa using hkn)
    refine fdR hr.tl hf hkn ?_
    refine Ent.alloc' fun fb => ?_
    (refine Ent.go ?_)
    refine same_spec (by omega) hn ?_
    refine Ent.condD (fun he => ?_) fun he => ?_
    · rw [if_pos he] at hs
      (refine Ent.go ?_)
      refine Ent.app1 (fun a3 c3 => ?_)
      (refine Ent.go ?_)
      refine Ent.imp ?_ (hK hkn _)
      refine Imp.exs (a3, c3) (Imp.g2 (Imp.pur ?_ ?_))
      · rw [hs]; simp
      · rw [hs, ss_app, List.length_append]
        (focus ((repeat ((with_reducible apply Imp.pick); (repeat (first | exact Pick.hd | apply Pick.tl)))); (repeat (first | exact Imp.refl _ | exact Imp.nil _ | apply Imp.drop)); done))
    · rw [if_neg he] at hs
      (refine Ent.go ?_)
      refine Ent.imp ?_ (hK hkn _)
      refine Imp.exs (a2, c2) (Imp.g2 (Imp.pur ?_ ?_))
      · rw [hs]
      · rw [hs]
        (focus ((repeat ((with_reducible apply Imp.pick); (repeat (first | exact Pick.hd | apply Pick.tl)))); (repeat (first | exact Imp.refl _ | exact Imp.nil _ | apply Imp.drop)); done))
  · have hkl : k = l.length := by omega
    subst hkl
    refine Ent.wF ?_ (by simp)
    rw [List.take_of_length_le (Nat.le_refl _)]
    exact h a2 c2
theorem elements_spec {K : Value → WP} {a : Option Addr} {c : Nat} {l : List Fd} {n : Bs} (hr : Rd rest a (fc l)) (hl : fsz l ≤ 1099511627776) (hn : n.length ≤ 1099511627776)
    (h : ∀ a c, Ent e (SlO a (elems l n).length c 1 (ss (elems l n)) :: rest) (K (.slice a (elems l n).length c))) : Ent e rest (hop_Elements (.slice a l.length c) (ba n) K) := by
  (refine Ent.fn hop_Elements_ok ?_; unfold hop_Elements_sh)
  refine get_spec hr hl hn fun a1 c1 => ?_
  have ht := get_tot l n
  refine Ent.rdS fun hrd _ => ?_
  obtain ⟨g, hg⟩ : ∃ g, g = get l n := ⟨_, rfl⟩
  rw [← hg] at hrd ht ⊢
  (refine Ent.go ?_)
  refine Ent.rngL1 (k0 := .raw) g.length (fun k v => exs (fun (y : Option Addr × Nat) => sepL [pur (v = .slice y.1 ((g.take k).flatMap lst).length y.2), SlO y.1 ((g.take k).flatMap lst).length y.2 1 (ss ((g.take k).flatMap lst))]) :: SlO a1 g.length c1 1 (ss g) :: rest) rfl ?_ ?_
  · refine Imp.exs (none, 0) (Imp.g2 (Imp.pur (by simp) ?_))
    exact Imp.slN (Imp.refl _)
  intro k hk K' hK v
  refine Ent.exs fun ⟨a2, c2⟩ => Ent.g2 (Ent.pur fun hv => ?_)
  dsimp only at hv
  dsimp only
  subst hv
  have hft := flat_tot (g.take k)
  have htk : tot (g.take k) ≤ tot g := by
    have := tot_app (g.take k) (g.drop k)
    rw [List.take_append_drop] at this
    omega
  have hkl : (g.take k).length ≤ g.length := by simp; omega
  by_cases hkn : k < g.length
  · obtain ⟨x, hx⟩ : ∃ x, g[k]? = some x := ⟨_, List.getElem?_eq_getElem hkn⟩
    have hxt := mem_tot (List.mem_of_getElem? hx)
    have hxl := lst_tot x
    have hv2 : (ss g)[(k : Int).toNat]? = some (.string (ba x)) := by rw [Int.toNat_natCast]; simp [ss, hx]
    have hs : (g.take (k + 1)).flatMap lst = (g.take k).flatMap lst ++ lst x := by rw [take_snoc hx]; simp
    refine Ent.wT ?_ (by simpa using hkn)
    refine Ent.wiSr (hrd _ (by (repeat (first | exact Has.hd | apply Has.tl)))) ?_ rfl rfl rfl (by omega) (by omega) hv2
    refine list_spec (by omega) fun a3 c3 => ?_
    refine Ent.rdS fun hr3 _ => ?_
    refine Ent.appN (hr3 _ (by (repeat (first | exact Has.hd | apply Has.tl)))) (h1 := by intro v hv; simp only [ss, List.mem_map] at hv; obtain ⟨_, _, rfl⟩ := hv; rfl) (fun a4 c4 => ?_)
    (refine Ent.go ?_)
    refine Ent.imp ?_ (hK hkn _)
    refine Imp.exs (a4, c4) (Imp.g2 (Imp.pur ?_ ?_))
    · rw [hs]; simp
    · rw [hs, ss_app, List.length_append]
      (focus ((repeat ((with_reducible apply Imp.pick); (repeat (first | exact Pick.hd | apply Pick.tl)))); (repeat (first | exact Imp.refl _ | exact Imp.nil _ | apply Imp.drop)); done))
  · have hkl : k = g.length := by omega
    subst hkl
    refine Ent.wF ?_ (by simp)
    rw [List.take_of_length_le (Nat.le_refl _)]
    have := h a2 c2
    unfold elems at this
    rw [← hg] at this
    exact Ent.imp (by (focus ((repeat ((with_reducible apply Imp.pick); (repeat (first | exact Pick.hd | apply Pick.tl)))); (repeat (first | exact Imp.refl _ | exact Imp.nil _ | apply Imp.drop)); done))) this
theorem elems_snoc (l : List Fd) (f : Fd) (n : Bs) : elems (l ++ [f]) n = if lower f.1 = lower n then elems l n ++ lst f.2 else elems l n := by
  unfold elems
  rw [get_snoc]
  split <;> simp
theorem fsz_app (l m : List Fd) : fsz (l ++ m) = fsz l + fsz m := by simp [fsz]
theorem elems_take (l : List Fd) (k : Nat) (n : Bs) : (elems (l.take k) n).length ≤ fsz l := by
  have h1 := elems_tot (l.take k) n
  have : fsz (l.take k) ≤ fsz l := by
    have : fsz l = fsz (l.take k) + fsz (l.drop k) := by
      have h9 := fsz_app (l.take k) (l.drop k)
      rwa [List.take_append_drop] at h9
    omega
  omega
/-! the same fields -/
theorem eq_take {l m : List Fd} (hlen : l.length = m.length) {k : Nat} (h : l.take k = m.take k) {f g : Fd} (hf : l[k]? = some f) (hg : m[k]? = some g) : (l.take (k + 1) = m.take (k + 1)) ↔ f = g := by
  rw [take_snoc hf, take_snoc hg, h]
  constructor
  · intro h2
    have := List.append_cancel_left h2
    simpa using this
  · intro h2; rw [h2]
theorem ne_of_at {l m : List Fd} {k : Nat} {f g : Fd} (hf : l[k]? = some f) (hg : m[k]? = some g) (h : f ≠ g) : l ≠ m := by
  intro h2; subst h2; rw [hf] at hg; cases hg; exact h rfl
theorem equal_spec {K : Bool → WP} {a a' : Option Addr} {c c' : Nat} {l m : List Fd} (hr : Rd rest a (fc l)) (hr' : Rd rest a' (fc m)) (hl : l.length ≤ 1099511627776) (hm : m.length ≤ 1099511627776) (h : Ent e rest (K (decide (l = m)))) :
    Ent e rest (slices_Equal_Field (.slice a l.length c) (.slice a' m.length c') K) := by
  (refine Ent.fn slices_Equal_Field_ok ?_; unfold slices_Equal_Field_sh)
  (refine Ent.go ?_)
  by_cases hlen : l.length = m.length
  rotate_left
  · refine Ent.wT ?_ (bne_iff_ne.2 (by omega))
    rw [← decide_eq_false (fun hh => hlen (congrArg List.length hh) : ¬ l = m)]; exact h
  refine Ent.wF ?_ (bne_eq_false_iff_eq.2 (by omega))
  (refine Ent.go ?_)
  refine Ent.rngL0 l.length (fun k => pur (l.take k = m.take k) :: rest) rfl (Imp.pur rfl (Imp.refl _)) ?_
  intro k hk K' hK
  refine Ent.pur fun hv => ?_
  by_cases hkn : k < l.length
  · obtain ⟨f, hf⟩ : ∃ f, l[k]? = some f := ⟨_, List.getElem?_eq_getElem hkn⟩
    obtain ⟨g, hg⟩ : ∃ g, m[k]? = some g := ⟨_, List.getElem?_eq_getElem (by omega)⟩
    refine Ent.wT ?_ (by simpa using hkn)
    refine Ent.draw _ (Imp.refl _) ?_
    refine fdJ hr hf hkn ?_
    refine fdJ hr' hg (by omega) ?_
    refine Ent.puB st_neFd ?_
    by_cases he : f = g
    · refine Ent.wF ?_ (by simp [he])
      (refine Ent.go ?_)
      exact Ent.imp (Imp.pur ((eq_take hlen hv hf hg).2 he) (Imp.refl _)) (hK hkn)
    · refine Ent.wT ?_ (by simp [he])
      rw [← decide_eq_false (ne_of_at hf hg he)]; exact h
  · have hkl : k = l.length := by omega
    subst hkl
    refine Ent.wF ?_ (by simp)
    rw [List.take_of_length_le (Nat.le_refl _), List.take_of_length_le (by omega)] at hv
    rw [← decide_eq_true hv]; exact h
theorem vary_same_spec {K : Bool → WP} {a a' : Option Addr} {c c' : Nat} {l m : List Fd} (hr : Rd rest a (fc l)) (hr' : Rd rest a' (fc m)) (hl : l.length ≤ 1099511627776) (hm : m.length ≤ 1099511627776) (h : Ent e rest (K (decide (l = m)))) :
    Ent e rest (vary_Same (.slice a l.length c) (.slice a' m.length c') K) := by
  (refine Ent.fn vary_Same_ok ?_; unfold vary_Same_sh)
  exact equal_spec hr hr' hl hm h
theorem ref_samef_spec {K : Bool → WP} {a a' : Option Addr} {c c' : Nat} {l m : List Fd} (hr : Rd rest a (fc l)) (hr' : Rd rest a' (fc m)) (hl : l.length ≤ 1099511627776) (hm : m.length ≤ 1099511627776) (h : Ent e rest (K (decide (l = m)))) :
    Ent e rest (ref09_SameFields (.slice a l.length c) (.slice a' m.length c') K) := by
  (refine Ent.fn ref09_SameFields_ok ?_; unfold ref09_SameFields_sh)
  (refine Ent.go ?_)
  by_cases hlen : l.length = m.length
  rotate_left
  · refine Ent.wT ?_ (bne_iff_ne.2 (by omega))
    rw [← decide_eq_false (fun hh => hlen (congrArg List.length hh) : ¬ l = m)]; exact h
  refine Ent.wF ?_ (bne_eq_false_iff_eq.2 (by omega))
  refine Ent.rngL0 l.length (fun k => pur (l.take k = m.take k) :: rest) rfl (Imp.pur rfl (Imp.refl _)) ?_
  intro k hk K' hK
  refine Ent.pur fun hv => ?_
  (refine Ent.go ?_)
  by_cases hkn : k < l.length
  · obtain ⟨f, hf⟩ : ∃ f, l[k]? = some f := ⟨_, List.getElem?_eq_getElem hkn⟩
    obtain ⟨g, hg⟩ : ∃ g, m[k]? = some g := ⟨_, List.getElem?_eq_getElem (by omega)⟩
    refine Ent.wT ?_ (by simpa using hkn)
    refine Ent.draw _ (Imp.refl _) ?_
    refine fdJ hr hf hkn ?_
    refine fdJ hr' hg (by omega) ?_
    refine Ent.puB st_neFd ?_
    by_cases he : f = g
    · refine Ent.wF ?_ (by simp [he])
      (refine Ent.go ?_)
      exact Ent.imp (Imp.pur ((eq_take hlen hv hf hg).2 he) (Imp.refl _)) (hK hkn)
    · refine Ent.wT ?_ (by simp [he])
      rw [← decide_eq_false (ne_of_at hf hg he)]; exact h
  · have hkl : k = l.length := by omega
    subst hkl
    refine Ent.wF ?_ (by simp)
    rw [List.take_of_length_le (Nat.le_refl _), List.take_of_length_le (by omega)] at hv
    rw [← decide_eq_true hv]; exact h
end
end Go.Proofs.YtfofnagocedlgaaDoor.Tx
end
section
/-
  FIELDS (layer 16): Names.
-/
set_option maxRecDepth 100000
set_option linter.unusedVariables false
set_option linter.unusedSectionVars false
set_option linter.unusedSimpArgs false
set_option maxHeartbeats 0
namespace Go.Proofs.YtfofnagocedlgaaDoor.Tx
open Go Sh Sl
attribute [local irreducible] condK ArK NilK OpK FnK StK joinK loopK DrawK andK PuK NxK EnK vS uS bS callS invokeS
def nmS (acc : List Bs) (x : Bs) : List Bs := if lower x = [42] ∨ lower x ∈ acc then acc else acc ++ [lower x]
def nm (xs : List Bs) : List Bs := xs.foldl nmS []
def star (xs : List Bs) : Bool := decide ([42] ∈ xs.map lower)
theorem star_snoc (xs : List Bs) (x : Bs) : star (xs ++ [x]) = (decide (lower x = [42]) || star xs) := by
  unfold star
  rw [Bool.eq_iff_iff]
  simp only [decide_eq_true_eq, Bool.or_eq_true, List.map_append, List.map_cons, List.map_nil, List.mem_append, List.mem_singleton]
  constructor
  · rintro (h | h)
    · exact .inr h
    · exact .inl h.symm
  · rintro (h | h)
    · exact .inr h.symm
    · exact .inl h
theorem nm_snoc (xs : List Bs) (x : Bs) : nm (xs ++ [x]) = nmS (nm xs) x := by simp [nm]
theorem nmS_mem {acc : List Bs} {x n : Bs} : n ∈ nmS acc x ↔ n ∈ acc ∨ (n = lower x ∧ n ≠ [42]) := by
  unfold nmS
  by_cases h1 : lower x = [42]
  · rw [if_pos (.inl h1)]
    constructor
    · exact .inl
    · rintro (h | ⟨h, h2⟩)
      · exact h
      · exact absurd (h.trans h1) h2
  · by_cases h2 : lower x ∈ acc
    · rw [if_pos (.inr h2)]
      constructor
      · exact .inl
      · rintro (h | ⟨h, _⟩)
        · exact h
        · rw [h]; exact h2
    · rw [if_neg (by simp [h1, h2])]
      simp only [List.mem_append, List.mem_singleton]
      constructor
      · rintro (h | h)
        · exact .inl h
        · exact .inr ⟨h, h ▸ h1⟩
      · rintro (h | ⟨h, _⟩)
        · exact .inl h
        · exact .inr h
theorem nm_mem {n : Bs} (xs : List Bs) : n ∈ nm xs ↔ n ∈ xs.map lower ∧ n ≠ [42] := by
  have : ∀ (xs acc : List Bs), n ∈ xs.foldl nmS acc ↔ n ∈ acc ∨ (n ∈ xs.map lower ∧ n ≠ [42]) := by
    intro xs
    induction xs with
    | nil => intro acc; simp
    | cons x xs ih =>
      intro acc
      rw [List.foldl_cons, ih, nmS_mem]
      simp only [List.map_cons, List.mem_cons]
      constructor
      · rintro ((h | ⟨h, h2⟩) | ⟨h, h2⟩)
        · exact .inl h
        · exact .inr ⟨.inl h, h2⟩
        · exact .inr ⟨.inr h, h2⟩
      · rintro (h | ⟨h | h, h2⟩)
        · exact .inl (.inl h)
        · exact .inl (.inr ⟨h, h2⟩)
        · exact .inr ⟨h, h2⟩
  have := this xs []
  simpa [nm] using this
theorem nm_len (xs : List Bs) : (nm xs).length ≤ xs.length := by
  have : ∀ (xs acc : List Bs), (xs.foldl nmS acc).length ≤ acc.length + xs.length := by
    intro xs
    induction xs with
    | nil => intro acc; simp
    | cons x xs ih =>
      intro acc
      rw [List.foldl_cons]
      have h1 := ih (nmS acc x)
      have h2 : (nmS acc x).length ≤ acc.length + 1 := by unfold nmS; split <;> simp
      simp only [List.length_cons]; omega
  have := this xs []
  simpa [nm] using this
theorem nm_size (xs : List Bs) : ∀ n ∈ nm xs, n.length ≤ tot xs := by
  intro n hn
  obtain ⟨h, _⟩ := (nm_mem xs).1 hn
  obtain ⟨x, hx, rfl⟩ := List.mem_map.1 h
  rw [lower_len]; exact mem_tot hx
section
variable {e : Env} {ctx ctx' rest R : List HProp}
abbrev iV (n : Int) : Value := .int .i64 n
theorem ba_inj {a b : Bs} : (ba a = ba b) ↔ a = b := by simp [ba]
theorem names_spec {K : Value → Bool → WP} {a : Option Addr} {c : Nat} {l : List Fd} (hr : Rd rest a (fc l)) (hl : fsz l ≤ 1099511627776)
    (h : ∀ a c, Ent e (SlO a (nm (elems l [118, 97, 114, 121])).length c 1 (ss (nm (elems l [118, 97, 114, 121]))) :: rest) (K (.slice a (nm (elems l [118, 97, 114, 121])).length c) (star (elems l [118, 97, 114, 121])))) : Ent e rest (vary_Names (.slice a l.length c) K) := by
  (refine Ent.fn vary_Names_ok ?_; unfold vary_Names_sh)
  refine Ent.mmake strK iV fun rm => ?_
  refine elements_spec (n := [118, 97, 114, 121]) hr.tl hl (by decide) fun a1 c1 => ?_
  have hel := elems_tot l [118, 97, 114, 121]
  obtain ⟨g, hg⟩ : ∃ g, g = elems l [118, 97, 114, 121] := ⟨_, rfl⟩
  rw [← hg] at h hel ⊢
  refine Ent.rdS fun hrd _ => ?_
  (refine Ent.go ?_)
  refine Ent.rngL1 (k0 := .raw) g.length (fun k v => exs (fun (y : Option Addr × Nat × List (Bs × Int)) => sepL [pur (v = .slice y.1 (nm (g.take k)).length y.2.1 ∧ (∀ n, mfind n y.2.2 = if n ∈ (g.take k).map lower then some 1 else none)), SlO y.1 (nm (g.take k)).length y.2.1 1 (ss (nm (g.take k))), Mp strK iV rm y.2.2]) :: SlO a1 g.length c1 1 (ss g) :: rest) rfl ?_ ?_
  · refine Imp.exs (none, 0, []) (Imp.g3 (Imp.pur ⟨by simp [nm], fun n => by simp [mfind]⟩ ?_))
    refine Imp.trans ?_ (Imp.slN (sz := 1) (Imp.refl _))
    (focus ((repeat ((with_reducible apply Imp.pick); (repeat (first | exact Pick.hd | apply Pick.tl)))); (repeat (first | exact Imp.refl _ | exact Imp.nil _ | apply Imp.drop)); done))
  intro k hk K' hK v
  refine Ent.exs fun ⟨a2, c2, M⟩ => Ent.g3 (Ent.pur fun ⟨hv, hM⟩ => ?_)
  dsimp only at hv hM
  dsimp only
  subst hv
  by_cases hkn : k < g.length
  · obtain ⟨x, hx⟩ : ∃ x, g[k]? = some x := ⟨_, List.getElem?_eq_getElem hkn⟩
    have hxt := mem_tot (List.mem_of_getElem? hx)
    have hv2 : (ss g)[(k : Int).toNat]? = some (.string (ba x)) := by rw [Int.toNat_natCast]; simp [ss, hx]
    have hs := nm_snoc (g.take k) x
    rw [← take_snoc hx] at hs
    have hnl := nm_len (g.take k)
    have htl : (g.take k).length ≤ g.length := by simp; omega
    have hseen : ∀ n, n ∈ (g.take (k + 1)).map lower ↔ n = lower x ∨ n ∈ (g.take k).map lower := fun n => by
      rw [take_snoc hx]; simp [or_comm]
    refine Ent.wT ?_ (by simpa using hkn)
    refine Ent.wiSr (hrd _ (by (repeat (first | exact Has.hd | apply Has.tl)))) ?_ rfl rfl rfl (by omega) (by omega) hv2
    refine lower_spec (by omega) ?_
    have hnew : ∀ n, mfind n (mset (lower x) 1 M) = if n ∈ (g.take (k + 1)).map lower then some 1 else none := fun n => by
      rw [mfind_set, hM n]
      by_cases h1 : n = lower x
      · rw [if_pos h1, if_pos ((hseen n).2 (.inl h1))]
      · rw [if_neg h1]
        by_cases h2 : n ∈ (g.take k).map lower
        · rw [if_pos h2, if_pos ((hseen n).2 (.inr h2))]
        · rw [if_neg h2, if_neg (fun h3 => (hseen n).1 h3 |>.elim h1 h2)]
    refine Ent.join1 (kd := .bool) (fun b => pur (b = decide (lower x ∉ (g.take k).map lower ∧ lower x ≠ [42])) :: SlO a2 (nm (g.take k)).length c2 1 (ss (nm (g.take k))) :: Mp strK iV rm M :: SlO a1 g.length c1 1 (ss g) :: rest) ?_ ?_
    rotate_left
    · intro k' hk'
      by_cases h1 : lower x ∈ (g.take k).map lower
      · have := hM (lower x)
        rw [if_pos h1] at this
        refine Ent.opI (st_mgetT (K := strK) (vf := iV) (a := lower x) (b := 1) (by (repeat (first | exact Has.hd | apply Has.tl))) rfl rfl this) ?_
        refine Ent.wF ?_
        refine Ent.imp (Imp.pur ?_ (Imp.refl _)) (hk' _)
        rw [decide_eq_false (fun hh => hh.1 h1)]
      · have := hM (lower x)
        rw [if_neg h1] at this
        refine Ent.opI (st_mgetF (K := strK) (vf := iV) (a := lower x) (z := .int .i64 0) (by (repeat (first | exact Has.hd | apply Has.tl))) rfl rfl this (by kernel_rfl)) ?_
        refine Ent.wT ?_
        (refine Ent.go ?_)
        refine Ent.imp (Imp.pur ?_ (Imp.refl _)) (hk' _)
        by_cases h2 : lower x = [42]
        · rw [decide_eq_true (show ba (lower x) = ⟨#[42]⟩ by rw [h2]), decide_eq_false (fun hh => hh.2 h2)]; rfl
        · rw [decide_eq_false (fun hh => h2 (ba_inj (b := [42]).1 hh)), decide_eq_true ⟨h1, h2⟩]; rfl
    intro b
    refine Ent.pur fun hb => ?_
    subst hb
    by_cases hc : lower x ∉ (g.take k).map lower ∧ lower x ≠ [42]
    · have e1 : nmS (nm (g.take k)) x = nm (g.take k) ++ [lower x] := by
        unfold nmS
        rw [if_neg]
        rintro (h1 | h1)
        · exact hc.2 h1
        · exact hc.1 ((nm_mem _).1 h1).1
      rw [e1] at hs
      refine Ent.wT ?_ (decide_eq_true hc)
      refine Ent.app1 (fun a3 c3 => ?_)
      refine Ent.mset (K := strK) (vf := iV) (a := lower x) (b := 1) (by (repeat (first | exact Upd.hd | apply Upd.tl))) rfl rfl ?_
      (refine Ent.go ?_)
      refine Ent.imp ?_ (hK hkn _)
      refine Imp.exs (a3, c3, mset (lower x) 1 M) (Imp.g3 (Imp.pur ⟨?_, hnew⟩ ?_))
      · rw [hs]; simp
      · rw [hs, ss_app, List.length_append]
        (focus ((repeat ((with_reducible apply Imp.pick); (repeat (first | exact Pick.hd | apply Pick.tl)))); (repeat (first | exact Imp.refl _ | exact Imp.nil _ | apply Imp.drop)); done))
    · have e1 : nmS (nm (g.take k)) x = nm (g.take k) := by
        unfold nmS
        rw [if_pos]
        by_cases h2 : lower x = [42]
        · exact .inl h2
        · refine .inr ((nm_mem _).2 ⟨?_, h2⟩)
          by_cases h3 : lower x ∈ (g.take k).map lower
          · exact h3
          · exact absurd ⟨h3, h2⟩ hc
      rw [e1] at hs
      refine Ent.wF ?_ (decide_eq_false hc)
      refine Ent.mset (K := strK) (vf := iV) (a := lower x) (b := 1) (by (repeat (first | exact Upd.hd | apply Upd.tl))) rfl rfl ?_
      (refine Ent.go ?_)
      refine Ent.imp ?_ (hK hkn _)
      refine Imp.exs (a2, c2, mset (lower x) 1 M) (Imp.g3 (Imp.pur ⟨?_, hnew⟩ ?_))
      · rw [hs]
      · rw [hs]
        (focus ((repeat ((with_reducible apply Imp.pick); (repeat (first | exact Pick.hd | apply Pick.tl)))); (repeat (first | exact Imp.refl _ | exact Imp.nil _ | apply Imp.drop)); done))
  · have hkl : k = g.length := by omega
    subst hkl
    refine Ent.wF ?_ (by simp)
    rw [List.take_of_length_le (Nat.le_refl _)] at hM ⊢
    refine Ent.draw _ (Imp.refl _) ?_
    have fin := h a2 c2
    unfold star at fin
    by_cases h1 : [42] ∈ g.map lower
    · have := hM [42]
      rw [if_pos h1] at this
      rw [decide_eq_true h1] at fin
      refine Ent.stI (st_mgetT (K := strK) (vf := iV) (a := [42]) (b := 1) (by (repeat (first | exact Has.hd | apply Has.tl))) rfl rfl this) ?_
      exact Ent.imp (by (focus ((repeat ((with_reducible apply Imp.pick); (repeat (first | exact Pick.hd | apply Pick.tl)))); (repeat (first | exact Imp.refl _ | exact Imp.nil _ | apply Imp.drop)); done))) fin
    · have := hM [42]
      rw [if_neg h1] at this
      rw [decide_eq_false h1] at fin
      refine Ent.stI (st_mgetF (K := strK) (vf := iV) (a := [42]) (z := .int .i64 0) (by (repeat (first | exact Has.hd | apply Has.tl))) rfl rfl this (by kernel_rfl)) ?_
      exact Ent.imp (by (focus ((repeat ((with_reducible apply Imp.pick); (repeat (first | exact Pick.hd | apply Pick.tl)))); (repeat (first | exact Imp.refl _ | exact Imp.nil _ | apply Imp.drop)); done))) fin
end
end Go.Proofs.YtfofnagocedlgaaDoor.Tx
end
