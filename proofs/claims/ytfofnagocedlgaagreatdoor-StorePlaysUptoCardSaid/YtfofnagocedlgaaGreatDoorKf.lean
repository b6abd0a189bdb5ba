/- The texts Ty Shelf Tz Tl Tr Vy Vz, laid together. -/
import Derived.Lib.SlTrimSet
import Derived.Lib.MapLaws
import Derived.Lib.TrimUEq
import Derived.Shelf.Strings.Builder1
import Derived.Shelf.Strings.Builder2
import Derived.Shelf.Strings.OnBuilder
import Derived.Shelf.Strings.Trim
import Derived.Shelf.Small.Utf8
import Derived.Shelf.Small.Bits
import Derived.Shelf.Small.Strs
import Derived.Shelf.Strconv.Itoa0
import Derived.Shelf.Strings.Search1
import Derived.Shelf.Strings.Runes
import Derived.Shelf.Strings.AsciiSet
import Derived.Shelf.Unicode.DecodeSlow
import Derived.Ground.SlsfProg
import Derived.Shelf.SlSortCmp.Insertion
import Derived.Shelf.SlSortCmp.SiftDown1
import Derived.Shelf.SlSortCmp.HeapSort1
import Derived.Shelf.SlSortCmp.Insertion1
import Derived.Shelf.SlSortCmp.Median1
import Derived.Shelf.SlSortCmp.Pivot1
import Derived.Shelf.SlSortCmp.ReverseRange1
import Derived.Shelf.SlSortCmp.PartialInsertion1
import Derived.Shelf.SlSortCmp.PartitionEqual1
import Derived.Shelf.SlSortCmp.Partition1
import Derived.Shelf.SlSortCmp.Pdq1
import Derived.Shelf.SlSortCmp.Whole1
import Derived.Shelf.SlSortCmp.NoneTotal
import Derived.Test.YtfofnagocedlgaaGreatDoorProg
import Derived.Shelf.Strings.SlTrimAscii
import Derived.Laws.StructEq
import Derived.Test.YtfofnagocedlgaaGreatDoorKe
section
/-
  TEXT (layer 2): trimmed texts; the parts of a list.
-/
set_option maxRecDepth 100000
set_option linter.unusedVariables false
set_option linter.unusedSectionVars false
set_option linter.unusedSimpArgs false
set_option maxHeartbeats 0
namespace Go.Proofs.YtfofnagocedlgaaGreatDoor.Tx
open Go Sh Sl
attribute [local irreducible] condK ArK NilK OpK FnK StK joinK loopK DrawK andK PuK NxK EnK vS uS bS callS invokeS
def isB (c : UInt8) : Bool := ([32, 9] : Bs).contains c
def trim (l : Bs) : Bs := Lib.trimS l [32, 9]
theorem isB_nat (c : UInt8) : isB c = (decide (c.toNat = 32) || decide (c.toNat = 9)) := by
  have h1 : c = 32 ↔ c.toNat = 32 := ⟨fun h => by subst h; rfl, fun h => UInt8.toNat_inj.1 h⟩
  have h2 : c = 9 ↔ c.toNat = 9 := ⟨fun h => by subst h; rfl, fun h => UInt8.toNat_inj.1 h⟩
  by_cases a : c.toNat = 32
  · rw [h1.2 a]; rfl
  · by_cases b : c.toNat = 9
    · rw [h2.2 b]; rfl
    · have : ¬ (c = 32 ∨ c = 9) := by rw [h1, h2]; omega
      simp [isB, a, b, h1, h2]
theorem dw_all {l : Bs} (h : ∀ c ∈ l, isB c = true) (r : Bs) : (l ++ r).dropWhile isB = r.dropWhile isB := by
  induction l with
  | nil => rfl
  | cons c l ih =>
    rw [List.cons_append, List.dropWhile_cons, if_pos (h c List.mem_cons_self)]
    exact ih fun d hd => h d (List.mem_cons_of_mem _ hd)
theorem dw_stop {c : UInt8} {l : Bs} (h : isB c = false) : (c :: l).dropWhile isB = c :: l := by rw [List.dropWhile_cons, h]; rfl
theorem trim_mid {a m b : Bs} (ha : ∀ c ∈ a, isB c = true) (hb : ∀ c ∈ b, isB c = true) (h1 : ∀ c r, m = c :: r → isB c = false) (h2 : ∀ c r, m = r ++ [c] → isB c = false) : trim (a ++ m ++ b) = m := by
  show ((((a ++ m ++ b).reverse.dropWhile isB).reverse).dropWhile isB) = m
  have e1 : (a ++ m ++ b).reverse = b.reverse ++ (m.reverse ++ a.reverse) := by simp
  rw [e1, dw_all (fun c hc => hb c (List.mem_reverse.1 hc))]
  cases hm : m.reverse with
  | nil =>
    have : m = [] := by simpa using hm
    subst this
    have e2 : ([] ++ a.reverse : Bs) = a.reverse ++ [] := by simp
    rw [e2, dw_all (fun c hc => ha c (List.mem_reverse.1 hc))]
    rfl
  | cons c r =>
    have hmr : m = r.reverse ++ [c] := by
      have := congrArg List.reverse hm
      simpa using this
    rw [List.cons_append, dw_stop (h2 c _ hmr)]
    have e3 : (c :: (r ++ a.reverse)).reverse = a ++ m := by rw [hmr]; simp
    rw [e3, dw_all ha]
    cases m with
    | nil => rfl
    | cons d s => exact dw_stop (h1 d s rfl)
theorem trim_len (l : Bs) : (trim l).length ≤ l.length := by
  show ((((l).reverse.dropWhile isB).reverse).dropWhile isB).length ≤ l.length
  have h1 := (List.dropWhile_sublist isB (l := (l.reverse.dropWhile isB).reverse)).length_le
  have h2 := (List.dropWhile_sublist isB (l := l.reverse)).length_le
  simp at h1 h2 ⊢
  omega
/-! the parts of a list -/
structure Ls where
  q : Bool
  mm : Bool
  cur : Bs
  out : List Bs
def emit (cur : Bs) (out : List Bs) : List Bs := if trim cur = [] then out else out ++ [trim cur]
def stp (s : Ls) (c : UInt8) : Ls :=
  if s.mm then ⟨s.q, false, s.cur ++ [c], s.out⟩
  else if s.q && decide (c.toNat = 92) then ⟨s.q, true, s.cur ++ [c], s.out⟩
  else if c.toNat = 34 then ⟨!s.q, false, s.cur ++ [c], s.out⟩
  else if c.toNat = 44 ∧ s.q = false then ⟨s.q, false, [], emit s.cur s.out⟩
  else ⟨s.q, false, s.cur ++ [c], s.out⟩
def lst (l : Bs) : List Bs := let s := l.foldl stp ⟨false, false, [], []⟩; emit s.cur s.out
theorem stp_high {s : Ls} {c : UInt8} (h : 128 ≤ c.toNat) : stp s c = ⟨s.q, false, s.cur ++ [c], s.out⟩ := by
  unfold stp
  split
  · rfl
  · have h1 : ¬ c.toNat = 92 := by omega
    have h2 : ¬ c.toNat = 34 := by omega
    have h3 : ¬ c.toNat = 44 := by omega
    simp [h1, h2, h3]
theorem fold_high (m : Bs) : ∀ s : Ls, (∀ c ∈ m, 128 ≤ c.toNat) → m ≠ [] → m.foldl stp s = ⟨s.q, false, s.cur ++ m, s.out⟩ := by
  induction m with
  | nil => intro s _ h; exact absurd rfl h
  | cons c m ih =>
    intro s h _
    rw [List.foldl_cons, stp_high (h c List.mem_cons_self)]
    by_cases hm : m = []
    · subst hm; rfl
    · rw [ih _ (fun d hd => h d (List.mem_cons_of_mem _ hd)) hm]
      simp
/-- the parts are no longer than the text, together -/
def tot (l : List Bs) : Nat := (l.map List.length).sum
theorem tot_app (l r : List Bs) : tot (l ++ r) = tot l + tot r := by simp [tot]
theorem emit_tot (cur : Bs) (out : List Bs) : tot (emit cur out) + (emit cur out).length ≤ tot out + out.length + cur.length + 1 := by
  unfold emit
  split
  · omega
  · have := trim_len cur
    rw [tot_app]; simp [tot]; omega
theorem fold_tot (m : Bs) : ∀ s : Ls, tot (m.foldl stp s).out + (m.foldl stp s).out.length + (m.foldl stp s).cur.length ≤ tot s.out + s.out.length + s.cur.length + m.length := by
  induction m with
  | nil => intro s; simp
  | cons c m ih =>
    intro s
    rw [List.foldl_cons]
    refine Nat.le_trans (ih _) ?_
    have : tot (stp s c).out + (stp s c).out.length + (stp s c).cur.length ≤ tot s.out + s.out.length + s.cur.length + 1 := by
      have he := emit_tot s.cur s.out
      unfold stp
      split
      · simp
        omega
      split
      · simp
        omega
      split
      · simp
        omega
      split
      · simp
        omega
      · simp
        omega
    simp only [List.length_cons]
    omega
theorem lst_tot (l : Bs) : tot (lst l) + (lst l).length ≤ l.length + 1 := by
  have h1 := fold_tot l ⟨false, false, [], []⟩
  have h2 := emit_tot (l.foldl stp ⟨false, false, [], []⟩).cur (l.foldl stp ⟨false, false, [], []⟩).out
  unfold lst
  simp [tot] at h1 h2 ⊢
  omega
/-! decoding -/
theorem dec (l : Bs) (p : Nat) (hp : p < l.length) :
    (∃ c, l[p]? = some c ∧ c.toNat < 128 ∧ Utf8.decode (ba l) p = (c.toNat, 1)) ∨
    (∃ r w, Utf8.decode (ba l) p = (r, w) ∧ 128 ≤ r ∧ r ≤ 2147483647 ∧ 1 ≤ w ∧ p + w ≤ l.length ∧ ∀ c ∈ (l.drop p).take w, 128 ≤ c.toNat) := by
  obtain ⟨x, hx⟩ : ∃ x, l[p]? = some x := ⟨_, List.getElem?_eq_getElem hp⟩
  have hd : Utf8.decode (ba l) p = Lib.decodeN (l.length - p) (l.getD p 0).toNat (l.getD (p + 1) 0).toNat (l.getD (p + 2) 0).toNat (l.getD (p + 3) 0).toNat := by
    rw [Lib.decode_N]
  have hx0 : (l.getD p 0) = x := by simp [List.getD, hx]
  rw [hx0] at hd
  have hsh := Lib.decodeN_shape (l.length - p) x.toNat (l.getD (p + 1) 0).toNat (l.getD (p + 2) 0).toNat (l.getD (p + 3) 0).toNat
  have allw : ∀ w, (∀ j, j < w → 128 ≤ (l.getD (p + j) 0).toNat) → ∀ c ∈ (l.drop p).take w, 128 ≤ c.toNat := by
    intro w h c hc
    obtain ⟨j, hj, hcj⟩ := List.mem_iff_getElem.1 hc
    have hjw : j < w := by simp at hj; omega
    have := h j hjw
    rw [List.getElem_take, List.getElem_drop] at hcj
    have hlt : p + j < l.length := by simp at hj; omega
    have e1 : l.getD (p + j) 0 = c := by simp [List.getD, List.getElem?_eq_getElem hlt, hcj]
    rw [e1] at this; exact this
  by_cases h128 : x.toNat < 128
  · refine .inl ⟨x, hx, h128, ?_⟩
    rw [hd]; simp [Lib.decodeN, h128]
  · refine .inr ?_
    have g0 : l.getD (p + 0) 0 = x := by simpa using hx0
    rcases hsh with ⟨c, e⟩ | ⟨c1, c2, c3, cv, e⟩ | ⟨c1, c2, c3, c4, cv, cs, e⟩ | ⟨c1, c2, c3, c4, c5, cv, cw, e⟩ | e
    · omega
    · refine ⟨_, _, hd.trans e, by omega, by omega, by omega, by omega, allw _ fun j hj => ?_⟩
      rcases j with _ | _ | j
      · rw [g0]; omega
      · first | omega | (simp only [Nat.zero_add, Nat.reduceAdd]; omega)
      · first | omega | (simp only [Nat.zero_add, Nat.reduceAdd]; omega)
    · refine ⟨_, _, hd.trans e, by omega, by omega, by omega, by omega, allw _ fun j hj => ?_⟩
      rcases j with _ | _ | _ | j
      · rw [g0]; omega
      · first | omega | (simp only [Nat.zero_add, Nat.reduceAdd]; omega)
      · first | omega | (simp only [Nat.zero_add, Nat.reduceAdd]; omega)
      · first | omega | (simp only [Nat.zero_add, Nat.reduceAdd]; omega)
    · refine ⟨_, _, hd.trans e, by omega, by omega, by omega, by omega, allw _ fun j hj => ?_⟩
      rcases j with _ | _ | _ | _ | j
      · rw [g0]; omega
      · first | omega | (simp only [Nat.zero_add, Nat.reduceAdd]; omega)
      · first | omega | (simp only [Nat.zero_add, Nat.reduceAdd]; omega)
      · first | omega | (simp only [Nat.zero_add, Nat.reduceAdd]; omega)
      · first | omega | (simp only [Nat.zero_add, Nat.reduceAdd]; omega)
    · refine ⟨_, _, hd.trans e, by omega, by omega, by omega, by omega, allw _ fun j hj => ?_⟩
      rcases j with _ | j
      · rw [g0]; omega
      · first | omega | (simp only [Nat.zero_add, Nat.reduceAdd]; omega)
section
variable {e : Env} {ctx ctx' rest : List HProp}
/-- a range over a text -/
theorem Ent.srange {s : ByteArray} {c : Value → WP} (h : ∀ i, Ent e (Sl.ob i (.stringIter s 0) :: ctx) (c (.pointer (some ⟨i, 0, none⟩)))) : Ent e ctx (OpK P (.one .raw) (vS (Instr.range 9 (.string s))) c) := Ent.act fun w hw => by
  refine ⟨.pointer (some ⟨w.heap.size, 0, none⟩), w.alloc (.stringIter s 0), .inl (run_vS ?_), _, rfl, h w.heap.size _ (hw.alloc _)⟩
  simp only [Instr.range, Sem.run_bind, run_underlying (dd_str (t := 9) rfl), Result.andThen_ok, Sem.run_pure]
  rfl
theorem Ent.snext {s : ByteArray} {i pos ty : Nat} {c0 : WP} {c1 : Int → Int → WP} (hp : Pick ctx (Sl.ob i (.stringIter s pos)) ctx')
    (h0 : ¬ pos < s.size → Ent e (Sl.ob i (.stringIter s pos) :: ctx') c0)
    (h1 : pos < s.size → Ent e (Sl.ob i (.stringIter s (pos + (Utf8.decode s pos).2)) :: ctx') (c1 pos (Utf8.decode s pos).1)) :
    Ent e ctx (NxK P (vS (Instr.next (.pointer (some ⟨i, 0, none⟩)) true ty)) (.int .i64) (.int .i32) c0 c1) := fun w hw => by
  have hw2 := hw.imp (sepL_perm hp.perm)
  have hb : w.heap[i]? = some (.stringIter s pos) := Has.ob .hd hw2
  have hg : (getObj i).run P w = .ok (.stringIter s pos) w := by simp [getObj, Sem.run, hb]
  unfold NxK NextK
  by_cases hlt : pos < s.size
  · have hset : (setObj i (.stringIter s (pos + (Utf8.decode s pos).2))).run P w = .ok () { w with heap := w.heap.setIfInBounds i (.stringIter s (pos + (Utf8.decode s pos).2)) } := by
      have hi : i < w.heap.size := (Array.getElem?_eq_some_iff.1 hb).1
      have hg9 : w.heap[i] = .stringIter s pos := (Array.getElem?_eq_some_iff.1 hb).2
      simp [setObj, Sem.run, hi, hg9]
    have hrun : (Instr.next (.pointer (some ⟨i, 0, none⟩)) true ty).run P w = .ok (.tuple #[.bool true, goInt pos, .int .i32 (Utf8.decode s pos).1]) { w with heap := w.heap.setIfInBounds i (.stringIter s (pos + (Utf8.decode s pos).2)) } := by
      simp only [Instr.next, Sem.run_bind, hg, Result.andThen_ok, if_pos hlt, hset, Sem.run_pure]
    rw [run_vS hrun]
    refine .inr ⟨_, _, rfl, ?_⟩
    have hs := MapKept.heap_set (o' := .stringIter s (pos + (Utf8.decode s pos).2)) hb
    exact h1 hlt _ (Sat.turn (A := Sl.ob i (.stringIter s pos)) (B := Sl.ob i (.stringIter s (pos + (Utf8.decode s pos).2))) (o := .stringIter s pos) (o' := .stringIter s (pos + (Utf8.decode s pos).2)) hw2 (fun _ k => k) (fun _ k => k) rfl rfl rfl hs.1 hs.2)
  · have hrun : (Instr.next (.pointer (some ⟨i, 0, none⟩)) true ty).run P w = .ok (.tuple #[.bool false]) w := by
      simp only [Instr.next, Sem.run_bind, hg, Result.andThen_ok, if_neg hlt, Sem.run_pure]
    rw [run_vS hrun]
    exact .inl ⟨rfl, h0 hlt w hw2⟩
end
end Go.Proofs.YtfofnagocedlgaaGreatDoor.Tx
end
section
/-
  DERIVED: THE SHELF's CONTRACTS AT THIS DUMP, IN PLAIN WORDS (tools/lay-plain.mjs out of 'YtfofnagocedlgaaGreatDoorShelf.lean', which tools/lay-shelf.mjs wrote): THE SAME DECLARATIONS UNDER THE SAME NAMES: 'import', 'namespace', 'open', 'def', 'theorem' AND NOTHING ELSE: no command of the shelf's: FOR A HAND-IN. Each laying: the table of numbers ('.._ren') and one theorem, a field a fact of the dump's own or the kernel's comparison; each contract: ONE APPLICATION.
-/
namespace Go.Proofs
open Go.Shelf
def Tryz.lays156_ren : Go.Shelf.Ren := ⟨fun | 156 => 66 | 165 => 86 | 166 => 87 | 169 => 88 | 240 => 95 | 241 => 96 | 276 => 103 | 277 => 104 | n => n, fun | 31 => 61 | 9 => 9 | 3 => 3 | 4 => 4 | 0 => 0 | 20 => 20 | 72 => 124 | 76 => 127 | 70 => 122 | 37 => 24 | 75 => 126 | 127 => 134 | 164 => 140 | 5 => 5 | 80 => 129 | n => n, fun | n => n⟩
theorem Tryz.lays156 : Go.Proofs.Lays.n156 Tryz.prog Tryz.lays156_ren := {
  mixed := by kernel_rfl
  f156 := Tryz.func66.trans (congrArg some (by kernel_rfl))
  f165 := Tryz.func86.trans (congrArg some (by kernel_rfl))
  f166 := Tryz.func87.trans (congrArg some (by kernel_rfl))
  f169 := Tryz.func88.trans (congrArg some (by kernel_rfl))
  f240 := Tryz.func95.trans (congrArg some (by kernel_rfl))
  f241 := Tryz.func96.trans (congrArg some (by kernel_rfl))
  f276 := Tryz.func103.trans (congrArg some (by kernel_rfl))
  f277 := Tryz.func104.trans (congrArg some (by kernel_rfl))
  t0 := Tryz.underlying0
  a0 := Tryz.isAgg0
  z0 := Tryz.sizeOf0
  v0 := Tryz.zeroValue0
  t3 := Tryz.underlying3
  a3 := Tryz.isAgg3
  z3 := Tryz.sizeOf3
  v3 := Tryz.zeroValue3
  t4 := Tryz.underlying4
  a4 := Tryz.isAgg4
  z4 := Tryz.sizeOf4
  v4 := Tryz.zeroValue4
  t9 := Tryz.underlying9
  a9 := Tryz.isAgg9
  z9 := Tryz.sizeOf9
  v9 := Tryz.zeroValue9
  t20 := Tryz.underlying20
  a20 := Tryz.isAgg20
  z20 := Tryz.sizeOf20
  v20 := Tryz.zeroValue20
  t31 := Tryz.underlying61
  a31 := Tryz.isAgg61
  z31 := Tryz.sizeOf61
  v31 := Tryz.zeroValue61
  t37 := Tryz.underlying24
  a37 := Tryz.isAgg24
  z37 := Tryz.sizeOf24
  v37 := Tryz.zeroValue24
  t70 := Tryz.underlying122
  a70 := Tryz.isAgg122
  z70 := Tryz.sizeOf122
  v70 := Tryz.zeroValue122
  t72 := Tryz.underlying124
  a72 := Tryz.isAgg124
  z72 := Tryz.sizeOf124
  v72 := Tryz.zeroValue124
  t75 := Tryz.underlying126
  a75 := Tryz.isAgg126
  z75 := Tryz.sizeOf126
  v75 := Tryz.zeroValue126
  t76 := Tryz.underlying127
  a76 := Tryz.isAgg127
  z76 := Tryz.sizeOf127
  v76 := Tryz.zeroValue127
  t127 := Tryz.underlying134
  a127 := Tryz.isAgg134
  z127 := Tryz.sizeOf134
  v127 := Tryz.zeroValue134
  t164 := Tryz.underlying140
  a164 := Tryz.isAgg140
  z164 := Tryz.sizeOf140
  v164 := Tryz.zeroValue140 }
theorem Tryz.Builder_Extra_156 : Builder.Extra Tryz.prog Tryz.lays156_ren := {
  sizeBuilder := by kernel_rfl
  liesBuilder := by kernel_rfl
  t5 := Tryz.underlying5
  a5 := Tryz.isAgg5
  z5 := Tryz.sizeOf5
  v5 := Tryz.zeroValue5
  infoByte := by kernel_rfl
  cellsByte := by kernel_rfl
  sizeByte := by kernel_rfl
  neB5 := by decide }
open Go.RowKit in
/-- No element: the empty string; the world is as it was. (Whatever the slice's address and capacity: a nil slice too.) (LAID: no walk: one application.) -/
theorem Tryz.strings_Join_none (a : Option Addr) (c : Nat) (sep : ByteArray) (w : World) :
    Calls Tryz.prog 66 #[.slice a 0 c, .string sep] w fun e w' => e = .returned (.string ⟨#[]⟩) ∧ w' = w := Any.strings_Join_none Tryz.lays156 Tryz.Builder_Extra_156 a c sep w
open Go.RowKit in
/-- strings.Join: "Join concatenates the elements of its first argument to create a single string. The separator string sep is placed between elements in the resulting string.": HOWEVER MANY ELEMENTS. Below the heap's end the world is as it was. (LAID: no walk: one application.) -/
theorem Tryz.strings_Join (bk o c : Nat) (xs : List ByteArray) (sep : ByteArray) (w : World) (hcells : ∀ (j : Nat) x, xs[j]? = some x → w.cell? ⟨bk, o + j, none⟩ = some (.string x)) (hbk : bk < w.heap.size) (hN : xs.length ≤ 140737488355328) (hcap : xs.length ≤ c) (hlen : (Lib.join (xs.map (·.data.toList)) sep.data.toList).length ≤ 140737488355328) :
    Calls Tryz.prog 66 #[.slice (some ⟨bk, o, none⟩) xs.length c, .string sep] w fun e w' => e = .returned (.string ⟨(Lib.join (xs.map (·.data.toList)) sep.data.toList).toArray⟩) ∧ Below w.heap.size w w' := Any.strings_Join Tryz.lays156 Tryz.Builder_Extra_156 bk o c xs sep w hcells hbk hN hcap hlen
def Tryz.lays160_ren : Go.Shelf.Ren := ⟨fun | 160 => 102 | 232 => 109 | 231 => 108 | 227 => 110 | 234 => 112 | 233 => 111 | 236 => 114 | 235 => 113 | 228 => 125 | 271 => 128 | 151 => 127 | 197 => 126 | 120 => 136 | 152 => 135 | 260 => 134 | 137 => 138 | 119 => 139 | 224 => 140 | 225 => 141 | 217 => 142 | 266 => 143 | n => n, fun | 9 => 9 | 4 => 4 | 3 => 3 | 5 => 5 | 117 => 150 | 116 => 149 | 0 => 0 | 124 => 153 | 21 => 21 | 105 => 165 | 46 => 145 | 119 => 178 | 139 => 181 | 138 => 180 | n => n, fun | 3 => 1 | 4 => 2 | n => n⟩
theorem Tryz.lays160 : Go.Proofs.Lays.n160 Tryz.prog Tryz.lays160_ren := {
  mixed := by kernel_rfl
  f119 := Tryz.func139.trans (congrArg some (by kernel_rfl))
  f120 := Tryz.func136.trans (congrArg some (by kernel_rfl))
  f137 := Tryz.func138.trans (congrArg some (by kernel_rfl))
  f151 := Tryz.func127.trans (congrArg some (by kernel_rfl))
  f152 := Tryz.func135.trans (congrArg some (by kernel_rfl))
  f160 := Tryz.func102.trans (congrArg some (by kernel_rfl))
  f197 := Tryz.func126.trans (congrArg some (by kernel_rfl))
  f217 := Tryz.func142.trans (congrArg some (by kernel_rfl))
  f224 := Tryz.func140.trans (congrArg some (by kernel_rfl))
  f225 := Tryz.func141.trans (congrArg some (by kernel_rfl))
  f227 := Tryz.func110.trans (congrArg some (by kernel_rfl))
  f228 := Tryz.func125.trans (congrArg some (by kernel_rfl))
  f231 := Tryz.func108.trans (congrArg some (by kernel_rfl))
  f232 := Tryz.func109.trans (congrArg some (by kernel_rfl))
  f233 := Tryz.func111.trans (congrArg some (by kernel_rfl))
  f234 := Tryz.func112.trans (congrArg some (by kernel_rfl))
  f235 := Tryz.func113.trans (congrArg some (by kernel_rfl))
  f236 := Tryz.func114.trans (congrArg some (by kernel_rfl))
  f260 := Tryz.func134.trans (congrArg some (by kernel_rfl))
  f266 := Tryz.func143.trans (congrArg some (by kernel_rfl))
  f271 := Tryz.func128.trans (congrArg some (by kernel_rfl))
  t0 := Tryz.underlying0
  a0 := Tryz.isAgg0
  z0 := Tryz.sizeOf0
  v0 := Tryz.zeroValue0
  t3 := Tryz.underlying3
  a3 := Tryz.isAgg3
  z3 := Tryz.sizeOf3
  v3 := Tryz.zeroValue3
  t4 := Tryz.underlying4
  a4 := Tryz.isAgg4
  z4 := Tryz.sizeOf4
  v4 := Tryz.zeroValue4
  t5 := Tryz.underlying5
  a5 := Tryz.isAgg5
  z5 := Tryz.sizeOf5
  v5 := Tryz.zeroValue5
  t9 := Tryz.underlying9
  a9 := Tryz.isAgg9
  z9 := Tryz.sizeOf9
  v9 := Tryz.zeroValue9
  t21 := Tryz.underlying21
  a21 := Tryz.isAgg21
  z21 := Tryz.sizeOf21
  v21 := Tryz.zeroValue21
  t46 := Tryz.underlying145
  a46 := Tryz.isAgg145
  z46 := Tryz.sizeOf145
  v46 := Tryz.zeroValue145
  t105 := Tryz.underlying165
  a105 := Tryz.isAgg165
  z105 := Tryz.sizeOf165
  v105 := Tryz.zeroValue165
  t116 := Tryz.underlying149
  a116 := Tryz.isAgg149
  z116 := Tryz.sizeOf149
  t117 := Tryz.underlying150
  a117 := Tryz.isAgg150
  z117 := Tryz.sizeOf150
  v117 := Tryz.zeroValue150
  t119 := Tryz.underlying178
  a119 := Tryz.isAgg178
  z119 := Tryz.sizeOf178
  t124 := Tryz.underlying153
  a124 := Tryz.isAgg153
  z124 := Tryz.sizeOf153
  v124 := Tryz.zeroValue153
  t138 := Tryz.underlying180
  a138 := Tryz.isAgg180
  z138 := Tryz.sizeOf180
  v138 := Tryz.zeroValue180
  t139 := Tryz.underlying181
  a139 := Tryz.isAgg181
  z139 := Tryz.sizeOf181
  v139 := Tryz.zeroValue181
  g3 := by kernel_rfl
  g4 := by kernel_rfl }
open Go.RowKit in
/-- strings.Trim: "Trim returns a slice of the string s with all leading and trailing Unicode code points contained in cutset removed.": AT A cutset OF ONE ASCII BYTE. THE WORLD BEHIND IT: as it was, or (where s is not empty) with ONE DRAW MORE off the tape: the statement 'return trimLeftByte(trimRightByte(s, c), c)' draws its order of evaluation. (LAID: no walk: one application.) -/
theorem Tryz.strings_Trim_one (s : ByteArray) (c : UInt8) (hc : c.toNat < 128) (w : World) (hs : s.size ≤ 9223372036854775807) :
    Calls Tryz.prog 102 #[.string s, .string ⟨#[c]⟩] w fun e w' => e = .returned (.string ⟨(Lib.trimB s.data.toList c).toArray⟩) ∧ (w' = w ∨ w' = w.drew) := Any.strings_Trim_one Tryz.lays160 s c hc w hs
def Tryz.laysSlF6_f99_ren : Go.Shelf.Ren := ⟨fun | 6 => 99 | 15 => 106 | 14 => 105 | 28 => 123 | 29 => 124 | 20 => 115 | 21 => 116 | 22 => 117 | 23 => 118 | 24 => 119 | 25 => 120 | 26 => 121 | 27 => 122 | 46 => 129 | 47 => 130 | 48 => 131 | 49 => 132 | 50 => 133 | 57 => 137 | n => n, fun | 22 => 108 | 24 => 3 | 25 => 138 | 3 => 3 | 39 => 145 | 0 => 0 | 53 => 162 | 55 => 22 | 4 => 4 | 46 => 156 | 45 => 155 | 50 => 75 | 5 => 5 | 9 => 9 | 66 => 168 | 70 => 172 | 76 => 175 | 77 => 176 | n => n, fun | n => n⟩
theorem Tryz.laysSlF6_f99 : Go.Proofs.SlLaysF.n6 Tryz.prog Tryz.laysSlF6_f99_ren := {
  mixed := by kernel_rfl
  f6 := ⟨Tryz.f99.name, by decide, Tryz.func99.trans (congrArg some (by kernel_rfl))⟩
  f14 := ⟨Tryz.f105.name, by decide, Tryz.func105.trans (congrArg some (by kernel_rfl))⟩
  f15 := Tryz.func106.trans (congrArg some (by kernel_rfl))
  f20 := ⟨Tryz.f115.name, by decide, Tryz.func115.trans (congrArg some (by kernel_rfl))⟩
  f21 := ⟨Tryz.f116.name, by decide, Tryz.func116.trans (congrArg some (by kernel_rfl))⟩
  f22 := ⟨Tryz.f117.name, by decide, Tryz.func117.trans (congrArg some (by kernel_rfl))⟩
  f23 := ⟨Tryz.f118.name, by decide, Tryz.func118.trans (congrArg some (by kernel_rfl))⟩
  f24 := ⟨Tryz.f119.name, by decide, Tryz.func119.trans (congrArg some (by kernel_rfl))⟩
  f25 := ⟨Tryz.f120.name, by decide, Tryz.func120.trans (congrArg some (by kernel_rfl))⟩
  f26 := ⟨Tryz.f121.name, by decide, Tryz.func121.trans (congrArg some (by kernel_rfl))⟩
  f27 := ⟨Tryz.f122.name, by decide, Tryz.func122.trans (congrArg some (by kernel_rfl))⟩
  f28 := Tryz.func123.trans (congrArg some (by kernel_rfl))
  f29 := Tryz.func124.trans (congrArg some (by kernel_rfl))
  f46 := ⟨Tryz.f129.name, by decide, Tryz.func129.trans (congrArg some (by kernel_rfl))⟩
  f47 := Tryz.func130.trans (congrArg some (by kernel_rfl))
  f48 := Tryz.func131.trans (congrArg some (by kernel_rfl))
  f49 := ⟨Tryz.f132.name, by decide, Tryz.func132.trans (congrArg some (by kernel_rfl))⟩
  f50 := ⟨Tryz.f133.name, by decide, Tryz.func133.trans (congrArg some (by kernel_rfl))⟩
  f57 := ⟨Tryz.f137.name, by decide, Tryz.func137.trans (congrArg some (by kernel_rfl))⟩
  t0 := Tryz.underlying0
  a0 := Tryz.isAgg0
  z0 := Tryz.sizeOf0
  v0 := Tryz.zeroValue0
  t3 := Tryz.underlying3
  a3 := Tryz.isAgg3
  z3 := Tryz.sizeOf3
  v3 := Tryz.zeroValue3
  t4 := Tryz.underlying4
  a4 := Tryz.isAgg4
  z4 := Tryz.sizeOf4
  v4 := Tryz.zeroValue4
  t5 := Tryz.underlying5
  a5 := Tryz.isAgg5
  z5 := Tryz.sizeOf5
  v5 := Tryz.zeroValue5
  t9 := Tryz.underlying9
  a9 := Tryz.isAgg9
  z9 := Tryz.sizeOf9
  v9 := Tryz.zeroValue9
  t22 := Tryz.underlying108
  a22 := Tryz.isAgg108
  z22 := Tryz.sizeOf108
  v22 := Tryz.zeroValue108
  a24 := Tryz.isAgg3
  z24 := Tryz.sizeOf3
  t25 := Tryz.underlying138
  a25 := Tryz.isAgg138
  z25 := Tryz.sizeOf138
  v25 := Tryz.zeroValue138
  t39 := Tryz.underlying145
  a39 := Tryz.isAgg145
  z39 := Tryz.sizeOf145
  v39 := Tryz.zeroValue145
  t45 := Tryz.underlying155
  a45 := Tryz.isAgg155
  z45 := Tryz.sizeOf155
  v45 := Tryz.zeroValue155
  t46 := Tryz.underlying156
  a46 := Tryz.isAgg156
  z46 := Tryz.sizeOf156
  v46 := Tryz.zeroValue156
  t50 := Tryz.underlying75
  a50 := Tryz.isAgg75
  z50 := Tryz.sizeOf75
  v50 := Tryz.zeroValue75
  t53 := Tryz.underlying162
  a53 := Tryz.isAgg162
  z53 := Tryz.sizeOf162
  v53 := Tryz.zeroValue162
  t55 := Tryz.underlying22
  a55 := Tryz.isAgg22
  z55 := Tryz.sizeOf22
  v55 := Tryz.zeroValue22
  t66 := Tryz.underlying168
  a66 := Tryz.isAgg168
  z66 := Tryz.sizeOf168
  v66 := Tryz.zeroValue168
  t70 := Tryz.underlying172
  a70 := Tryz.isAgg172
  z70 := Tryz.sizeOf172
  v70 := Tryz.zeroValue172
  t76 := Tryz.underlying175
  a76 := Tryz.isAgg175
  z76 := Tryz.sizeOf175
  v76 := Tryz.zeroValue175
  t77 := Tryz.underlying176
  a77 := Tryz.isAgg176
  z77 := Tryz.sizeOf176
  v77 := Tryz.zeroValue176 }
open Go.RowKit Go.Lib Go.Sort in
/-- **slices.SortFunc, IN THE DOCUMENTATION's OWN TERMS: A PERMUTATION OF WHAT THE ROW HELD, SORTED BY 'cmp(a, b) < 0'.** Which of two equals comes first is left open ("The sort is not guaranteed to be stable"). (LAID AT THE INSTANCE 'slices.SortFunc[[]int,int]': no walk: one application.) -/
theorem Tryz.slices_SortFunc {α : Type} [Inhabited α] (enc : α → Value) (h1 : OneCell enc) (cf : α → α → Int) (hO : SWO (ltOf cf)) (g : Nat) (cb : Array Value) (blk off cap : Nat) (d : Array α) (w : World) (eg : ∀ args w, (callFunc g args).run Tryz.prog w = .ok (.enter g args) w) (hcmp : CmpLays1 Tryz.prog g cb enc cf blk off d.size w) (hH : Holds enc w blk off d) (hblk : blk < w.heap.size) (hsz : d.size < 4611686018427387904) :
    Calls Tryz.prog 99 #[.slice (some ⟨blk, off, none⟩) d.size cap, .func (.func g) #[] cb] w fun e w' =>
      e = .returned (.tuple #[]) ∧ ∃ d' n os, PermIn 0 d.size d d' ∧ SortedIn (ltOf cf) 0 d.size d' ∧ w' = sortWorld enc w blk off n d' os := Any.slices_SortFunc Tryz.laysSlF6_f99 enc h1 cf hO g cb blk off cap d w eg hcmp hH hblk hsz
def Tryz.laysSlF06_f99_ren : Go.Shelf.Ren := ⟨fun | 6 => 99 | 15 => 106 | 14 => 105 | 28 => 123 | 29 => 124 | 20 => 115 | 21 => 116 | 22 => 117 | 23 => 118 | 24 => 119 | 25 => 120 | 26 => 121 | 27 => 122 | 46 => 129 | 47 => 130 | 48 => 131 | 49 => 132 | 50 => 133 | 57 => 137 | n => n, fun | 22 => 108 | 24 => 3 | 25 => 138 | 3 => 3 | 39 => 145 | 0 => 0 | 53 => 162 | 55 => 22 | 4 => 4 | 46 => 156 | 45 => 155 | 50 => 75 | 5 => 5 | 9 => 9 | 66 => 168 | 70 => 172 | 76 => 175 | 77 => 176 | n => n, fun | n => n⟩
theorem Tryz.laysSlF06_f99 : Go.Proofs.SlLaysF0.n6 Tryz.prog Tryz.laysSlF06_f99_ren := {
  mixed := by kernel_rfl
  f6 := ⟨Tryz.f99.name, by decide, Tryz.func99.trans (congrArg some (by kernel_rfl))⟩
  f14 := ⟨Tryz.f105.name, by decide, Tryz.func105.trans (congrArg some (by kernel_rfl))⟩
  f15 := Tryz.func106.trans (congrArg some (by kernel_rfl))
  f20 := ⟨Tryz.f115.name, by decide, Tryz.func115.trans (congrArg some (by kernel_rfl))⟩
  f21 := ⟨Tryz.f116.name, by decide, Tryz.func116.trans (congrArg some (by kernel_rfl))⟩
  f22 := ⟨Tryz.f117.name, by decide, Tryz.func117.trans (congrArg some (by kernel_rfl))⟩
  f23 := ⟨Tryz.f118.name, by decide, Tryz.func118.trans (congrArg some (by kernel_rfl))⟩
  f24 := ⟨Tryz.f119.name, by decide, Tryz.func119.trans (congrArg some (by kernel_rfl))⟩
  f25 := ⟨Tryz.f120.name, by decide, Tryz.func120.trans (congrArg some (by kernel_rfl))⟩
  f26 := ⟨Tryz.f121.name, by decide, Tryz.func121.trans (congrArg some (by kernel_rfl))⟩
  f27 := ⟨Tryz.f122.name, by decide, Tryz.func122.trans (congrArg some (by kernel_rfl))⟩
  f28 := Tryz.func123.trans (congrArg some (by kernel_rfl))
  f29 := Tryz.func124.trans (congrArg some (by kernel_rfl))
  f46 := ⟨Tryz.f129.name, by decide, Tryz.func129.trans (congrArg some (by kernel_rfl))⟩
  f47 := Tryz.func130.trans (congrArg some (by kernel_rfl))
  f48 := Tryz.func131.trans (congrArg some (by kernel_rfl))
  f49 := ⟨Tryz.f132.name, by decide, Tryz.func132.trans (congrArg some (by kernel_rfl))⟩
  f50 := ⟨Tryz.f133.name, by decide, Tryz.func133.trans (congrArg some (by kernel_rfl))⟩
  f57 := ⟨Tryz.f137.name, by decide, Tryz.func137.trans (congrArg some (by kernel_rfl))⟩
  t0 := Tryz.underlying0
  a0 := Tryz.isAgg0
  z0 := Tryz.sizeOf0
  v0 := Tryz.zeroValue0
  t3 := Tryz.underlying3
  a3 := Tryz.isAgg3
  z3 := Tryz.sizeOf3
  v3 := Tryz.zeroValue3
  t4 := Tryz.underlying4
  a4 := Tryz.isAgg4
  z4 := Tryz.sizeOf4
  v4 := Tryz.zeroValue4
  t5 := Tryz.underlying5
  a5 := Tryz.isAgg5
  z5 := Tryz.sizeOf5
  v5 := Tryz.zeroValue5
  t9 := Tryz.underlying9
  a9 := Tryz.isAgg9
  z9 := Tryz.sizeOf9
  v9 := Tryz.zeroValue9
  t22 := Tryz.underlying108
  a22 := Tryz.isAgg108
  z22 := Tryz.sizeOf108
  v22 := Tryz.zeroValue108
  t25 := Tryz.underlying138
  a25 := Tryz.isAgg138
  z25 := Tryz.sizeOf138
  v25 := Tryz.zeroValue138
  t39 := Tryz.underlying145
  a39 := Tryz.isAgg145
  z39 := Tryz.sizeOf145
  v39 := Tryz.zeroValue145
  t45 := Tryz.underlying155
  a45 := Tryz.isAgg155
  z45 := Tryz.sizeOf155
  v45 := Tryz.zeroValue155
  t46 := Tryz.underlying156
  a46 := Tryz.isAgg156
  z46 := Tryz.sizeOf156
  v46 := Tryz.zeroValue156
  t50 := Tryz.underlying75
  a50 := Tryz.isAgg75
  z50 := Tryz.sizeOf75
  v50 := Tryz.zeroValue75
  t53 := Tryz.underlying162
  a53 := Tryz.isAgg162
  z53 := Tryz.sizeOf162
  v53 := Tryz.zeroValue162
  t55 := Tryz.underlying22
  a55 := Tryz.isAgg22
  z55 := Tryz.sizeOf22
  v55 := Tryz.zeroValue22
  t66 := Tryz.underlying168
  a66 := Tryz.isAgg168
  z66 := Tryz.sizeOf168
  v66 := Tryz.zeroValue168
  t70 := Tryz.underlying172
  a70 := Tryz.isAgg172
  z70 := Tryz.sizeOf172
  v70 := Tryz.zeroValue172
  t76 := Tryz.underlying175
  a76 := Tryz.isAgg175
  z76 := Tryz.sizeOf175
  v76 := Tryz.zeroValue175
  t77 := Tryz.underlying176
  a77 := Tryz.isAgg176
  z77 := Tryz.sizeOf176
  v77 := Tryz.zeroValue176 }
open Go.RowKit Go.Lib Go.Sort in
/-- **slices.SortFunc AT NO ELEMENT, A nil SLICE TOO: nothing turns.** (LAID AT THE INSTANCE 'slices.SortFunc[[]int,int]': no walk: one application.) -/
theorem Tryz.slices_SortFunc_none {α : Type} [Inhabited α] (p : Option Addr) (cap : Nat) (fv : Value) (w : World) :
    Calls Tryz.prog 99 #[.slice p 0 cap, fv] w fun e w' => e = .returned (.tuple #[]) ∧ w' = w := AnyF.slices_SortFunc_none Tryz.laysSlF06_f99 p cap fv w
end Go.Proofs
end
section
/-
  TEXT (layer 2): Trim and List of the program and of the document's answer; Join.
-/
set_option maxRecDepth 100000
set_option linter.unusedVariables false
set_option linter.unusedSectionVars false
set_option linter.unusedSimpArgs false
set_option maxHeartbeats 0
namespace Go.Proofs.YtfofnagocedlgaaGreatDoor.Tx
open Go Sh Sl
open Go.RowKit
attribute [local irreducible] condK ArK NilK OpK FnK StK joinK loopK DrawK andK PuK NxK EnK vS uS bS callS invokeS
section
variable {e : Env} {ctx ctx' rest : List HProp}
theorem Sat.below {w w' : World} (h : Sat e (sepL ctx) w) (hb : Below w.heap.size w w') : Sat e (sepL ctx) w' :=
  ⟨hb.os.trans h.os, hb.tape.trans h.tape, hb.output.trans h.output, sepL_mono (fun i o hi => by
    have hlt : i < w.heap.size := (Array.getElem?_eq_some_iff.1 hi).1
    show w'.heap[i]? = some o
    rw [hb.block i hlt]; exact hi) h.heap⟩
theorem Ent.libS {f : Nat} {args : Array Value} {s : ByteArray} {K : ByteArray → WP} (hc : ∀ w, Sat e (sepL ctx) w → Calls P f args w fun e' w' => e' = .returned (.string s) ∧ Below w.heap.size w w') (h : Ent e ctx (K s)) : Ent e ctx (FnK P (.one .str) f args K) := fun w hw => by
  unfold FnK CallK
  refine Calls.mono (hc w hw) fun e' w' hh => ?_
  exact ⟨_, hh.1, s, rfl, h w' (Sat.below hw hh.2)⟩
theorem info_trim : (P.info? (Tryz.lays160_ren.t 116)).map (fun i => (i.zero, i.size)) = some (some (.agg (Array.replicate 256 (.bool false))), 256) := by kernel_rfl
theorem trim_spec {K : ByteArray → WP} {l : Bs} (hl : l.length ≤ 1099511627776) (h : Ent e rest (K (ba (trim l)))) : Ent e rest (text_Trim (ba l) K) := by
  (refine Ent.fn text_Trim_ok ?_; unfold text_Trim_sh)
  refine Ent.libS (s := ba (trim l)) (fun w _ => ?_) h
  have hsz : (ba l).size = l.length := by simp [ba, ByteArray.size]
  have := Any.strings_Trim_laid Tryz.lays160 info_trim (ba l) ⟨#[32, 9]⟩ w (by rw [hsz]; omega) (by decide) (ascii_of_all (by decide))
  exact this
theorem st_slSB {l : Bs} {k k' : IntKind} {a b : Int} (h0 : 0 ≤ a) (h1 : a ≤ b) (h2 : b ≤ l.length) :
    Pu (vS (Instr.sliceAt 9 (.string (ba l)) (some (.int k a)) (some (.int k' b)) none)) (.string (ba ((l.take b.toNat).drop a.toNat))) := Still.of_run fun w => by
  have hsz : (ba l).size = l.length := by simp [ba, ByteArray.size]
  rw [run_sliceAt_string w _ _ _ _ _ (dd_str rfl), run_slice_string w _ _ k k' a b (dd_str rfl) h0 h1 (by rw [hsz]; exact h2), ByteArray.extract_mk]
  congr 3
  rw [List.drop_take]
theorem ref_trim_spec {K : ByteArray → WP} {l : Bs} (hl : l.length ≤ 1099511627776) (h : Ent e rest (K (ba (trim l)))) : Ent e rest (ref02_Trim (ba l) K) := by
  (refine Ent.fn ref02_Trim_ok ?_; unfold ref02_Trim_sh)
  refine Ent.wlenB ?_
  have isT : ∀ {c : UInt8}, c.toNat = 32 ∨ c.toNat = 9 → isB c = true := fun {c} h => by rw [isB_nat]; rcases h with h | h <;> simp [h]
  have isF : ∀ {c : UInt8}, c.toNat ≠ 32 → c.toNat ≠ 9 → isB c = false := fun {c} h1 h2 => by rw [isB_nat]; simp [h1, h2]
  -- the right side
  have right : ∀ k : Nat, k ≤ l.length → (∀ c ∈ l.take k, isB c = true) → (∀ c, l[k]? = some c → isB c = false) → Ent e rest (loopK [(4, (.int .i64))] (fun (j3 : Int → WP) => j3 (l.length : Int)) (fun (j4 : Int → WP) (to : Int) =>
     condK (decide ((k : Int) < to))
     (ArK .i64 (to - 1) fun t30 =>
     oI .u8 (vS (Instr.index 9 (.string (ba l)) (.int .i64 t30))) fun t31 =>
     condK (t31 == 32)
     (ArK .i64 (to - 1) fun t42 =>
     j4 t42)
     (ArK .i64 (to - 1) fun t36 =>
     oI .u8 (vS (Instr.index 9 (.string (ba l)) (.int .i64 t36))) fun t37 =>
     condK (t37 == 9)
     (ArK .i64 (to - 1) fun t42_1 =>
     j4 t42_1)
     (oS (vS (Instr.sliceAt 9 (.string (ba l)) (some (.int .i64 (k : Int))) (some (.int .i64 to)) none)) fun t46 =>
     K t46)))
     (oS (vS (Instr.sliceAt 9 (.string (ba l)) (some (.int .i64 (k : Int))) (some (.int .i64 to)) none)) fun t46_1 =>
     K t46_1))) := by
    intro k hk hbef haft
    refine Ent.loop1 (k0 := .int .i64) (fun N v => exs (fun (m : Nat) => sepL [pur (v = (m : Int) ∧ k ≤ m ∧ m ≤ l.length ∧ (∀ c : UInt8, c ∈ l.drop m → isB c = true) ∧ N = m)]) :: rest) l.length ?_ ?_
    · exact Imp.exs l.length (Imp.g1 (Imp.pur ⟨rfl, hk, Nat.le_refl _, by simp, rfl⟩ (Imp.refl _)))
    intro m K' hK v
    refine Ent.exs fun m' => Ent.g1 (Ent.pur fun ⟨f1, f2, f3, f4, f5⟩ => ?_)
    subst f1 f5
    have shut : (∀ c, k < m → l[m - 1]? = some c → isB c = false) → Ent e rest (oS (vS (Instr.sliceAt 9 (.string (ba l)) (some (.int .i64 (k : Int))) (some (.int .i64 (m : Int))) none)) fun t46 => K t46) := fun hlast => by
      refine Ent.opS (st_slSB (by omega) (by omega) (by omega)).still ?_
      rw [Int.toNat_natCast, Int.toNat_natCast]
      have e1 : trim l = (l.take m).drop k := by
        have hsplit : l = l.take k ++ (l.take m).drop k ++ l.drop m := by
          have e2 : l.take k = (l.take m).take k := by rw [List.take_take]; congr 1; omega
          rw [e2, List.take_append_drop, List.take_append_drop]
        have e9 := congrArg trim hsplit
        rw [e9]
        refine trim_mid hbef f4 (fun c r hm => ?_) (fun c r hm => ?_)
        · refine haft c ?_
          have h1 : ((l.take m).drop k)[0]? = some c := by rw [hm]; rfl
          rw [List.getElem?_drop, List.getElem?_take] at h1
          split at h1
          · simpa using h1
          · cases h1
        · have hlen : ((l.take m).drop k).length = r.length + 1 := by rw [hm]; simp
          have hkm : k < m := by simp at hlen; omega
          refine hlast c hkm ?_
          have h1 : ((l.take m).drop k)[r.length]? = some c := by rw [hm]; simp
          have h3 : r.length = m - 1 - k := by simp at hlen; omega
          rw [List.getElem?_drop, List.getElem?_take, h3] at h1
          have h4 : k + (m - 1 - k) = m - 1 := by omega
          rw [h4, if_pos (by omega)] at h1
          exact h1
      rw [← e1]; exact h
    by_cases hkm : k < m
    · obtain ⟨c, hc⟩ : ∃ c, l[m - 1]? = some c := ⟨_, List.getElem?_eq_getElem (by omega)⟩
      have hc' : l[((m : Int) - 1).toNat]? = some c := by rw [show ((m : Int) - 1).toNat = m - 1 by omega]; exact hc
      have next : isB c = true → Ent e rest (K' ((m : Int) - 1)) := fun hb => by
        have e1 : (m : Int) - 1 = ((m - 1 : Nat) : Int) := by omega
        rw [e1]
        refine Ent.imp ?_ (hK (m - 1) (by omega) _)
        refine Imp.exs (m - 1) (Imp.g1 (Imp.pur ⟨rfl, by omega, by omega, fun d hd => ?_, rfl⟩ (Imp.refl _)))
        have e2 : l.drop (m - 1) = c :: l.drop (m - 1 + 1) := by
          have hg := List.getElem?_eq_getElem (l := l) (i := m - 1) (by omega)
          rw [hc] at hg
          rw [Option.some.inj hg, List.getElem_cons_drop]
        rw [Nat.sub_add_cancel (by omega)] at e2
        rw [e2] at hd
        rcases List.mem_cons.1 hd with rfl | hd
        · exact hb
        · exact f4 d hd
      refine Ent.wT ?_ (decide_eq_true (by omega))
      (refine Ent.go ?_)
      refine ixB (t := 0) (by omega) hc' ?_
      refine Ent.condE (fun h32 => ?_) fun h32 => ?_
      · (refine Ent.go ?_)
        exact next (isT (.inl (by omega)))
      · (refine Ent.go ?_)
        refine ixB (t := 0) (by omega) hc' ?_
        refine Ent.condE (fun h9 => ?_) fun h9 => ?_
        · (refine Ent.go ?_)
          exact next (isT (.inr (by omega)))
        · exact shut fun d hd hdc => by
            rw [hc] at hdc
            cases hdc
            exact isF (by omega) (by omega)
    · refine Ent.wF ?_ (decide_eq_false (by omega))
      exact shut fun c hc => absurd hc hkm
  refine Ent.loop1 (k0 := .int .i64) (fun N v => exs (fun (m : Nat) => sepL [pur (v = (m : Int) ∧ m ≤ l.length ∧ (∀ c ∈ l.take m, isB c = true) ∧ N = l.length - m)]) :: rest) l.length ?_ ?_
  · exact Imp.exs 0 (Imp.g1 (Imp.pur ⟨rfl, by omega, by simp, rfl⟩ (Imp.refl _)))
  intro N K' hK v
  refine Ent.exs fun m => Ent.g1 (Ent.pur fun ⟨f1, f2, f3, f4⟩ => ?_)
  subst f1 f4
  by_cases hm : m < l.length
  · obtain ⟨c, hc⟩ : ∃ c, l[m]? = some c := ⟨_, List.getElem?_eq_getElem hm⟩
    have hc' : l[(m : Int).toNat]? = some c := by rw [Int.toNat_natCast]; exact hc
    have next : isB c = true → Ent e rest (K' ((m : Int) + 1)) := fun hb => by
      have e1 : (m : Int) + 1 = ((m + 1 : Nat) : Int) := by omega
      rw [e1]
      refine Ent.imp ?_ (hK (l.length - (m + 1)) (by omega) _)
      refine Imp.exs (m + 1) (Imp.g1 (Imp.pur ⟨rfl, by omega, fun d hd => ?_, rfl⟩ (Imp.refl _)))
      rw [List.take_add_one, hc] at hd
      rcases List.mem_append.1 hd with hd | hd
      · exact f3 d hd
      · simp at hd; subst hd; exact hb
    refine Ent.wT ?_ (decide_eq_true (by omega))
    refine ixB (t := 0) (by omega) hc' ?_
    refine Ent.condE (fun h32 => ?_) fun h32 => ?_
    · (refine Ent.go ?_)
      exact next (isT (.inl (by omega)))
    · refine ixB (t := 0) (by omega) hc' ?_
      refine Ent.condE (fun h9 => ?_) fun h9 => ?_
      · (refine Ent.go ?_)
        exact next (isT (.inr (by omega)))
      · exact right m f2 f3 fun d hd => by
          rw [hc] at hd
          cases hd
          exact isF (by omega) (by omega)
  · refine Ent.wF ?_ (decide_eq_false (by omega))
    exact right m f2 f3 fun d hd => by
      rw [List.getElem?_eq_none (by omega)] at hd; cases hd
end
end Go.Proofs.YtfofnagocedlgaaGreatDoor.Tx
end
section
/-
  TEXT (layer 2): List, the program's and the document's.
-/
set_option maxRecDepth 100000
set_option linter.unusedVariables false
set_option linter.unusedSectionVars false
set_option linter.unusedSimpArgs false
set_option maxHeartbeats 0
namespace Go.Proofs.YtfofnagocedlgaaGreatDoor.Tx
open Go Sh Sl
attribute [local irreducible] condK ArK NilK OpK FnK StK joinK loopK DrawK andK PuK NxK EnK vS uS bS callS invokeS
/-- the cells of texts -/
def ss (l : List Bs) : List Value := l.map fun x => .string (ba x)
@[simp] theorem ss_len (l : List Bs) : (ss l).length = l.length := by simp [ss]
@[simp] theorem ss_nil : ss [] = [] := rfl
theorem ss_app (l r : List Bs) : ss (l ++ r) = ss l ++ ss r := by simp [ss]
abbrev l0 : Ls := ⟨false, false, [], []⟩
theorem ba_nil {l : Bs} : (ba l = ⟨#[]⟩) ↔ l = [] := by
  constructor
  · intro h; simpa [ba] using h
  · intro h; subst h; rfl
theorem drop_snoc {l : Bs} {p fr : Nat} {c : UInt8} (h : l[p]? = some c) (hf : fr ≤ p) : (l.take (p + 1)).drop fr = (l.take p).drop fr ++ [c] := by
  have hlt := (List.getElem?_eq_some_iff.1 h).1
  rw [List.take_add_one, h]
  show (List.take p l ++ [c]).drop fr = _
  rw [List.drop_append_of_le_length (by simp; omega)]
theorem take_more {l : Bs} {p w fr : Nat} (hf : fr ≤ p) (hp : p ≤ l.length) : (l.take (p + w)).drop fr = (l.take p).drop fr ++ (l.drop p).take w := by
  rw [List.take_add]
  rw [List.drop_append_of_le_length (by simp; omega)]
section
variable {e : Env} {ctx ctx' rest : List HProp}
theorem end_spec {K : Value → WP} {bs bf bl : Nat} {l : Bs} {fr to : Nat} {out : List Bs} {a : Option Addr} {c : Nat} (hl : l.length ≤ 1099511627776) (h1 : fr ≤ to) (h2 : to ≤ l.length) (ho : out.length ≤ l.length)
    (h : ∀ a2 c2, Ent e (pt bs [.string (ba l)] :: pt bf [.int .i64 ((to : Int) + 1)] :: pt bl [.slice a2 (emit ((l.take to).drop fr) out).length c2] :: SlO a2 (emit ((l.take to).drop fr) out).length c2 1 (ss (emit ((l.take to).drop fr) out)) :: rest) (K (.tuple #[]))) :
    Ent e (pt bs [.string (ba l)] :: pt bf [.int .i64 fr] :: pt bl [.slice a out.length c] :: SlO a out.length c 1 (ss out) :: rest) (text_List_c1 to (.pointer (some ⟨bs, 0, none⟩)) (.pointer (some ⟨bf, 0, none⟩)) (.pointer (some ⟨bl, 0, none⟩)) K) := by
  (refine Ent.fn text_List_c1_ok ?_; unfold text_List_c1_sh)
  (refine Ent.go ?_)
  refine Ent.opS (st_slSB (by omega) (by omega) (by omega)).still ?_
  rw [Int.toNat_natCast, Int.toNat_natCast]
  obtain ⟨cur, hcur⟩ : ∃ cur, cur = (l.take to).drop fr := ⟨_, rfl⟩
  rw [← hcur] at h ⊢
  have hcl : cur.length ≤ l.length := by rw [hcur]; simp; omega
  refine trim_spec (by omega) ?_
  (refine Ent.go ?_)
  by_cases ht : trim cur = []
  · have e1 : emit cur out = out := by unfold emit; rw [if_pos ht]
    rw [e1] at h
    refine Ent.wF ?_ (by rw [decide_eq_true (ba_nil.2 ht)]; rfl)
    (refine Ent.go ?_)
    exact Ent.imp (by (focus ((repeat ((with_reducible apply Imp.pick); (repeat (first | exact Pick.hd | apply Pick.tl)))); (repeat (first | exact Imp.refl _ | exact Imp.nil _ | apply Imp.drop)); done))) (h a c)
  · have e1 : emit cur out = out ++ [trim cur] := by unfold emit; rw [if_neg ht]
    rw [e1] at h
    refine Ent.wT ?_ (by rw [decide_eq_false (fun hh => ht (ba_nil.1 hh))]; rfl)
    (refine Ent.go ?_)
    refine Ent.app1 (fun a2 c2 => ?_)
    (refine Ent.go ?_)
    refine Ent.imp ?_ (h a2 c2)
    have e2 : (out ++ [trim cur]).length = out.length + 1 := by simp
    rw [e2, ss_app]
    (focus ((repeat ((with_reducible apply Imp.pick); (repeat (first | exact Pick.hd | apply Pick.tl)))); (repeat (first | exact Imp.refl _ | exact Imp.nil _ | apply Imp.drop)); done))
theorem list_spec {K : Value → WP} {l : Bs} (hl : l.length ≤ 1099511627776) (h : ∀ a c, Ent e (SlO a (lst l).length c 1 (ss (lst l)) :: rest) (K (.slice a (lst l).length c))) : Ent e rest (text_List (ba l) K) := by
  (refine Ent.fn text_List_ok ?_; unfold text_List_sh)
  refine Ent.box' fun bs => ?_
  refine Ent.alloc' fun bl => ?_
  refine Ent.alloc' fun bf => ?_
  (refine Ent.go ?_)
  refine Ent.srange fun it => ?_
  have hsz : (ba l).size = l.length := by simp [ba, ByteArray.size]
  have hout : ∀ p, (l.take p |>.foldl stp l0).out.length ≤ l.length := fun p => by
    have := fold_tot (l.take p) l0
    have h3 : (l.take p).length ≤ l.length := by simp; omega
    simp [tot] at this
    omega
  refine Ent.loop2 (k0 := .bool) (k1 := .bool) (fun N q m => exs (fun (y : Nat × Nat × List Bs × Option Addr × Nat) => sepL [pur ((l.take y.1).foldl stp l0 = ⟨q, m, (l.take y.1).drop y.2.1, y.2.2.1⟩ ∧ y.2.1 ≤ y.1 ∧ y.1 ≤ l.length ∧ N = l.length - y.1), Sl.ob it (.stringIter (ba l) y.1), pt bf [.int .i64 y.2.1], pt bl [.slice y.2.2.2.1 y.2.2.1.length y.2.2.2.2], SlO y.2.2.2.1 y.2.2.1.length y.2.2.2.2 1 (ss y.2.2.1)]) :: pt bs [.string (ba l)] :: rest) l.length ?_ ?_
  · refine Imp.exs (0, 0, [], none, 0) (Imp.g5 (Imp.pur ⟨by simp, Nat.le_refl _, Nat.zero_le _, rfl⟩ ?_))
    refine Imp.trans (Imp.slN (sz := 1) (Imp.refl _)) ?_
    show Imp _ (Sl.ob it (.stringIter (ba l) 0) :: pt bf [.int .i64 0] :: pt bl [.slice none 0 0] :: SlO none 0 0 1 [] :: pt bs [.string (ba l)] :: rest)
    (focus ((repeat ((with_reducible apply Imp.pick); (repeat (first | exact Pick.hd | apply Pick.tl)))); (repeat (first | exact Imp.refl _ | exact Imp.nil _ | apply Imp.drop)); done))
  intro N K' hK q m
  refine Ent.exs fun ⟨p, fr, out, a, c⟩ => Ent.g5 (Ent.pur fun ⟨f1, f2, f3, f4⟩ => ?_)
  dsimp only at f1 f2 f3 f4
  dsimp only
  subst f4
  have hol : out.length ≤ l.length := by have := hout p; rw [f1] at this; exact this
  refine Ent.snext (by (repeat (first | exact Pick.hd | apply Pick.tl))) (fun hp => ?_) (fun hp => ?_)
  · have hpl : p = l.length := by omega
    subst hpl
    (refine Ent.go ?_)
    refine Ent.callF (by rfl) ?_
    refine Ent.imp (ctx' := pt bs [.string (ba l)] :: pt bf [.int .i64 fr] :: pt bl [.slice a out.length c] :: SlO a out.length c 1 (ss out) :: Sl.ob it (.stringIter (ba l) l.length) :: rest) (by (focus ((repeat ((with_reducible apply Imp.pick); (repeat (first | exact Pick.hd | apply Pick.tl)))); (repeat (first | exact Imp.refl _ | exact Imp.nil _ | apply Imp.drop)); done))) ?_
    refine end_spec hl f2 (Nat.le_refl _) hol fun a2 c2 => ?_
    (refine Ent.go ?_)
    have e1 : emit ((l.take l.length).drop fr) out = lst l := by
      rw [List.take_of_length_le (Nat.le_refl _)] at f1 ⊢
      unfold lst
      dsimp only
      rw [f1]
    rw [e1]
    exact Ent.imp (by (focus ((repeat ((with_reducible apply Imp.pick); (repeat (first | exact Pick.hd | apply Pick.tl)))); (repeat (first | exact Imp.refl _ | exact Imp.nil _ | apply Imp.drop)); done))) (h a2 c2)
  · rw [hsz] at hp
    have next : ∀ (w : Nat) (q' m' : Bool) (fr' : Nat) (out' : List Bs) (a' : Option Addr) (c' : Nat), 1 ≤ w → p + w ≤ l.length → (l.take (p + w)).foldl stp l0 = ⟨q', m', (l.take (p + w)).drop fr', out'⟩ → fr' ≤ p + w →
        Ent e (Sl.ob it (.stringIter (ba l) (p + w)) :: pt bf [.int .i64 fr'] :: pt bl [.slice a' out'.length c'] :: SlO a' out'.length c' 1 (ss out') :: pt bs [.string (ba l)] :: rest) (K' q' m') := by
      intro w q' m' fr' out' a' c' hw hpw hf hfr
      refine Ent.imp ?_ (hK (l.length - (p + w)) (by omega) _ _)
      exact Imp.exs (p + w, fr', out', a', c') (Imp.g5 (Imp.pur ⟨hf, hfr, hpw, rfl⟩ (Imp.refl _)))
    rcases dec l p hp with ⟨x, hx, hx1, hd⟩ | ⟨r, w, hd, hr1, hr2, hw1, hw2, hhi⟩
    · rw [hd]
      dsimp only
      have hfold : (l.take (p + 1)).foldl stp l0 = stp ⟨q, m, (l.take p).drop fr, out⟩ x := by
        rw [List.take_add_one, hx]
        show List.foldl stp l0 (List.take p l ++ [x]) = _
        rw [List.foldl_append, f1]; rfl
      have hcur := drop_snoc hx f2
      cases m with
      | true =>
        (refine Ent.go ?_)
        exact next 1 q false fr out a c (by omega) (by omega) (by rw [hfold, hcur]; rfl) (by omega)
      | false =>
        refine Ent.wF ?_
        refine Ent.join ?_
        have h92 : ((x.toNat : Int) == 92) = decide (x.toNat = 92) := by
          by_cases hh : x.toNat = 92 <;> simp [hh]
          omega
        have hcase : ∀ v : Bool, (q && decide (x.toNat = 92)) = v → Ent e (Sl.ob it (.stringIter (ba l) (p + 1)) :: pt bf [.int .i64 fr] :: pt bl [.slice a out.length c] :: SlO a out.length c 1 (ss out) :: pt bs [.string (ba l)] :: rest)
            (condK v (K' q true) (condK ((x.toNat : Int) == 34) (K' (!q) false) (condK ((x.toNat : Int) == 44) (condK (!q) (oR (callS (.func (.func 93) #[] #[.pointer (some ⟨bs, 0, none⟩), .pointer (some ⟨bf, 0, none⟩), .pointer (some ⟨bl, 0, none⟩)]) #[(.int .i64 (p : Int))]) fun _ => K' q false) (K' q false)) (K' q false)))) := by
          intro v hv
          cases v with
          | true =>
            refine Ent.wT ?_
            refine next 1 q true fr out a c (by omega) (by omega) ?_ (by omega)
            rw [hfold, hcur]
            unfold stp
            simp only [Bool.false_eq_true, if_false, hv, if_true]
          | false =>
            refine Ent.wF ?_
            refine Ent.condE (fun h34 => ?_) fun h34 => ?_
            · refine next 1 (!q) false fr out a c (by omega) (by omega) ?_ (by omega)
              rw [hfold, hcur]
              unfold stp
              have : x.toNat = 34 := by omega
              simp only [Bool.false_eq_true, if_false, hv]
              rw [if_pos this]
            · have n34 : ¬ x.toNat = 34 := by omega
              refine Ent.condE (fun h44 => ?_) fun h44 => ?_
              · have y44 : x.toNat = 44 := by omega
                cases q with
                | true =>
                  refine Ent.wF ?_
                  refine next 1 true false fr out a c (by omega) (by omega) ?_ (by omega)
                  rw [hfold, hcur]
                  unfold stp
                  simp only [Bool.false_eq_true, if_false, hv, n34, Bool.true_eq_false, and_false]
                | false =>
                  refine Ent.wT ?_
                  refine Ent.callF (by rfl) ?_
                  refine Ent.imp (ctx' := pt bs [.string (ba l)] :: pt bf [.int .i64 fr] :: pt bl [.slice a out.length c] :: SlO a out.length c 1 (ss out) :: Sl.ob it (.stringIter (ba l) (p + 1)) :: rest) (by (focus ((repeat ((with_reducible apply Imp.pick); (repeat (first | exact Pick.hd | apply Pick.tl)))); (repeat (first | exact Imp.refl _ | exact Imp.nil _ | apply Imp.drop)); done))) ?_
                  refine end_spec hl f2 f3 hol fun a2 c2 => ?_
                  refine Ent.imp ?_ (next 1 false false (p + 1) (emit ((l.take p).drop fr) out) a2 c2 (by omega) (by omega) ?_ (Nat.le_refl _))
                  · show Imp _ (Sl.ob it (.stringIter (ba l) (p + 1)) :: pt bf [.int .i64 ((p : Int) + 1)] :: _)
                    (focus ((repeat ((with_reducible apply Imp.pick); (repeat (first | exact Pick.hd | apply Pick.tl)))); (repeat (first | exact Imp.refl _ | exact Imp.nil _ | apply Imp.drop)); done))
                  · rw [hfold]
                    have : (l.take (p + 1)).drop (p + 1) = [] := List.drop_eq_nil_of_le (by simp; omega)
                    rw [this]
                    unfold stp
                    simp only [Bool.false_eq_true, if_false, hv, n34]
                    rw [if_pos ⟨y44, trivial⟩]
              · have n44 : ¬ x.toNat = 44 := by omega
                refine next 1 q false fr out a c (by omega) (by omega) ?_ (by omega)
                rw [hfold, hcur]
                unfold stp
                simp only [Bool.false_eq_true, if_false, hv, n34, n44, false_and]
        cases q with
        | true =>
          refine Ent.wT ?_
          rw [h92]
          exact hcase _ rfl
        | false =>
          refine Ent.wF ?_
          exact hcase false rfl
    · rw [hd]
      dsimp only
      have hne : (l.drop p).take w ≠ [] := by
        intro hh
        have := congrArg List.length hh
        simp at this
        omega
      have hfold : (l.take (p + w)).foldl stp l0 = ⟨q, false, (l.take (p + w)).drop fr, out⟩ := by
        rw [take_more f2 f3, List.take_add, List.foldl_append, f1, fold_high _ _ hhi hne]
      have n92 : ((r : Int) == 92) = false := beq_eq_false_iff_ne.2 (by omega)
      have n34 : ((r : Int) == 34) = false := beq_eq_false_iff_ne.2 (by omega)
      have n44 : ((r : Int) == 44) = false := beq_eq_false_iff_ne.2 (by omega)
      have fin := next w q false fr out a c hw1 hw2 hfold (by omega)
      rw [n92, n34, n44]
      cases m <;> cases q <;> first | ((refine Ent.go ?_); exact fin) | (refine Ent.wF ?_; refine Ent.join ?_; (refine Ent.go ?_); exact fin)
end
end Go.Proofs.YtfofnagocedlgaaGreatDoor.Tx
end
section
/-
  TEXT (layer 2): the document's List.
-/
set_option maxRecDepth 100000
set_option linter.unusedVariables false
set_option linter.unusedSectionVars false
set_option linter.unusedSimpArgs false
set_option maxHeartbeats 0
namespace Go.Proofs.YtfofnagocedlgaaGreatDoor.Tx
open Go Sh Sl
attribute [local irreducible] condK ArK NilK OpK FnK StK joinK loopK DrawK andK PuK NxK EnK vS uS bS callS invokeS
theorem fold_next {l : Bs} {p : Nat} {c : UInt8} {s : Ls} (h : l[p]? = some c) (hf : (l.take p).foldl stp l0 = s) : (l.take (p + 1)).foldl stp l0 = stp s c := by
  rw [List.take_add_one, h]
  show List.foldl stp l0 (List.take p l ++ [c]) = _
  rw [List.foldl_append, hf]; rfl
section
variable {e : Env} {ctx ctx' rest : List HProp}
theorem ref_quoted_spec {K : Int → WP} {l : Bs} {p fr : Nat} {out : List Bs} {c0 : UInt8} (hl : l.length ≤ 1099511627776) (hc0 : l[p]? = some c0) (h34 : c0.toNat = 34) (hf : (l.take p).foldl stp l0 = ⟨false, false, (l.take p).drop fr, out⟩) (hfr : fr ≤ p)
    (h : ∀ r : Nat, p < r → r ≤ l.length → (∃ q m, (l.take r).foldl stp l0 = ⟨q, m, (l.take r).drop fr, out⟩ ∧ (r < l.length → q = false ∧ m = false)) → Ent e rest (K r)) : Ent e rest (ref02_quoted (ba l) p K) := by
  have hp := (List.getElem?_eq_some_iff.1 hc0).1
  (refine Ent.fn ref02_quoted_ok ?_; unfold ref02_quoted_sh)
  (refine Ent.go ?_)
  have hsz : ((ba l).size : Int) = l.length := by simp [ba, ByteArray.size]
  have f0 : (l.take (p + 1)).foldl stp l0 = ⟨true, false, (l.take (p + 1)).drop fr, out⟩ := by
    rw [fold_next hc0 hf, drop_snoc hc0 hfr]
    unfold stp
    simp only [Bool.false_eq_true, if_false, Bool.false_and]
    rw [if_pos h34]; rfl
  refine Ent.loop1 (k0 := .int .i64) (fun N v => exs (fun (k : Nat) => sepL [pur (v = (k : Int) ∧ p < k ∧ ((k ≤ l.length ∧ (l.take k).foldl stp l0 = ⟨true, false, (l.take k).drop fr, out⟩) ∨ (k = l.length + 1 ∧ (l.take l.length).foldl stp l0 = ⟨true, true, (l.take l.length).drop fr, out⟩)) ∧ N = l.length + 1 - k)]) :: rest) (l.length + 1 - (p + 1)) ?_ ?_
  · exact Imp.exs (p + 1) (Imp.g1 (Imp.pur ⟨by simp, by omega, .inl ⟨by omega, f0⟩, rfl⟩ (Imp.refl _)))
  intro N K' hK v
  refine Ent.exs fun k => Ent.g1 (Ent.pur fun ⟨f1, f2, f3, f4⟩ => ?_)
  subst f1 f4
  refine Ent.join ?_
  refine Ent.wlenB ?_
  rcases f3 with ⟨g1, g2⟩ | ⟨g1, g2⟩
  · by_cases hk : k < l.length
    · obtain ⟨c, hc⟩ : ∃ c, l[k]? = some c := ⟨_, List.getElem?_eq_getElem hk⟩
      have hc' : l[(k : Int).toNat]? = some c := by rw [Int.toNat_natCast]; exact hc
      refine Ent.wT ?_ (decide_eq_true (by omega))
      refine ixB (t := 0) (by omega) hc' ?_
      have hn := fold_next hc g2
      have hcur := drop_snoc hc (by omega : fr ≤ k)
      by_cases y34 : c.toNat = 34
      · refine Ent.wF ?_ (by rw [y34]; rfl)
        refine Ent.wlenB ?_
        refine Ent.wF ?_ (decide_eq_false (by omega))
        refine Ent.ar (in_i64 (by omega) (by omega)) ?_
        have e1 : (k : Int) + 1 = ((k + 1 : Nat) : Int) := by omega
        rw [e1]
        refine h (k + 1) (by omega) (by omega) ⟨false, false, ?_, fun _ => ⟨rfl, rfl⟩⟩
        rw [hn, hcur]
        unfold stp
        have h92 : ¬ c.toNat = 92 := by omega
        simp only [Bool.false_eq_true, if_false, h92, decide_false, Bool.and_false]
        rw [if_pos y34]; rfl
      · refine Ent.wT ?_ (bne_iff_ne.2 (by omega))
        refine ixB (t := 0) (by omega) hc' ?_
        refine Ent.condE (fun y92 => ?_) fun n92 => ?_
        · have z92 : c.toNat = 92 := by omega
          refine Ent.ar (in_i64 (by omega) (by omega)) ?_
          refine Ent.ar (in_i64 (by omega) (by omega)) ?_
          have e1 : (k : Int) + 1 + 1 = ((k + 2 : Nat) : Int) := by omega
          rw [e1]
          have hs1 : (l.take (k + 1)).foldl stp l0 = ⟨true, true, (l.take (k + 1)).drop fr, out⟩ := by
            rw [hn, hcur]
            unfold stp
            simp only [Bool.false_eq_true, if_false, z92, decide_true, Bool.and_self, if_true]
          refine Ent.imp ?_ (hK (l.length + 1 - (k + 2)) (by omega) _)
          refine Imp.exs (k + 2) (Imp.g1 (Imp.pur ⟨rfl, by omega, ?_, rfl⟩ (Imp.refl _)))
          by_cases hk1 : k + 1 < l.length
          · obtain ⟨d, hd⟩ : ∃ d, l[k + 1]? = some d := ⟨_, List.getElem?_eq_getElem hk1⟩
            refine .inl ⟨by omega, ?_⟩
            rw [fold_next hd hs1, drop_snoc hd (by omega : fr ≤ k + 1)]
            rfl
          · have e2 : k + 1 = l.length := by omega
            refine .inr ⟨by omega, ?_⟩
            rw [← e2]; exact hs1
        · have h92 : ¬ c.toNat = 92 := by omega
          refine Ent.ar (in_i64 (by omega) (by omega)) ?_
          have e1 : (k : Int) + 1 = ((k + 1 : Nat) : Int) := by omega
          rw [e1]
          refine Ent.imp ?_ (hK (l.length + 1 - (k + 1)) (by omega) _)
          refine Imp.exs (k + 1) (Imp.g1 (Imp.pur ⟨rfl, by omega, .inl ⟨by omega, ?_⟩, rfl⟩ (Imp.refl _)))
          rw [hn, hcur]
          unfold stp
          simp only [Bool.false_eq_true, if_false, h92, decide_false, Bool.and_false, y34, Bool.true_eq_false, and_false]
    · have hkl : k = l.length := by omega
      subst hkl
      refine Ent.wF ?_ (decide_eq_false (by omega))
      refine Ent.wF ?_ rfl
      refine Ent.wlenB ?_
      refine Ent.wT ?_ (decide_eq_true (by omega))
      refine Ent.wlenB ?_
      exact h _ f2 (Nat.le_refl _) ⟨true, false, g2, fun hh => absurd hh (Nat.lt_irrefl _)⟩
  · subst g1
    refine Ent.wF ?_ (decide_eq_false (by omega))
    refine Ent.wF ?_ rfl
    refine Ent.wlenB ?_
    refine Ent.wT ?_ (decide_eq_true (by omega))
    refine Ent.wlenB ?_
    exact h _ hp (Nat.le_refl _) ⟨true, true, g2, fun hh => absurd hh (Nat.lt_irrefl _)⟩
theorem ref_list_spec {K : Value → WP} {l : Bs} (hl : l.length ≤ 1099511627776) (h : ∀ a c, Ent e (SlO a (lst l).length c 1 (ss (lst l)) :: rest) (K (.slice a (lst l).length c))) : Ent e rest (ref02_List (ba l) K) := by
  (refine Ent.fn ref02_List_ok ?_; unfold ref02_List_sh)
  have hout : ∀ p, (l.take p |>.foldl stp l0).out.length ≤ l.length := fun p => by
    have := fold_tot (l.take p) l0
    have h3 : (l.take p).length ≤ l.length := by simp; omega
    simp [tot] at this
    omega
  refine Ent.loop3 (k0 := .raw) (k1 := .int .i64) (k2 := .int .i64) (fun N v fv pv => exs (fun (y : Nat × Nat × List Bs × Option Addr × Nat) => sepL [pur (v = .slice y.2.2.2.1 y.2.2.1.length y.2.2.2.2 ∧ fv = (y.2.1 : Int) ∧ pv = (y.1 : Int) ∧ ((y.1 ≤ l.length ∧ y.2.1 ≤ y.1 ∧ ∃ q m, (l.take y.1).foldl stp l0 = ⟨q, m, (l.take y.1).drop y.2.1, y.2.2.1⟩ ∧ (y.1 < l.length → q = false ∧ m = false)) ∨ (y.1 = l.length + 1 ∧ y.2.2.1 = lst l)) ∧ N = l.length + 1 - y.1), SlO y.2.2.2.1 y.2.2.1.length y.2.2.2.2 1 (ss y.2.2.1)]) :: rest) (l.length + 1) ?_ ?_
  · refine Imp.exs (0, 0, [], none, 0) (Imp.g2 (Imp.pur ⟨rfl, rfl, rfl, .inl ⟨Nat.zero_le _, Nat.le_refl _, false, false, by simp, fun _ => ⟨rfl, rfl⟩⟩, rfl⟩ ?_))
    exact Imp.slN (Imp.refl _)
  intro N K' hK v fv pv
  refine Ent.exs fun ⟨p, fr, out, a, c⟩ => Ent.g2 (Ent.pur fun ⟨f1, f2, f3, f4, f5⟩ => ?_)
  dsimp only at f1 f2 f3 f4 f5
  dsimp only
  subst f1 f2 f3 f5
  refine Ent.wlenB ?_
  rcases f4 with ⟨g1, g2, q, m, g3, g4⟩ | ⟨g1, g2⟩
  rotate_left
  · subst g1 g2
    refine Ent.wF ?_ (decide_eq_false (by omega))
    exact h a c
  have hol : out.length ≤ l.length := by have := hout p; rw [g3] at this; exact this
  refine Ent.wT ?_ (decide_eq_true (by omega))
  refine Ent.join ?_
  refine Ent.wlenB ?_
  obtain ⟨cur, hcurd⟩ : ∃ cur, cur = (l.take p).drop fr := ⟨_, rfl⟩
  have hcl : cur.length ≤ l.length := by rw [hcurd]; simp; omega
  -- a part ends here
  have ends : (∀ a2 c2, Ent e (SlO a2 (emit cur out).length c2 1 (ss (emit cur out)) :: rest) (K' (.slice a2 (emit cur out).length c2) ((p + 1 : Nat) : Int) ((p + 1 : Nat) : Int))) →
      Ent e (SlO a out.length c 1 (ss out) :: rest) (oS (vS (Instr.sliceAt 9 (.string (ba l)) (some (.int .i64 (fr : Int))) (some (.int .i64 (p : Int))) none)) fun t37 =>
       ref02_Trim t37 fun t38 =>
       oB (bS .neq 9 (.tmp 39) (.const (.string (⟨#[]⟩ : ByteArray))) (.string t38) (.string (⟨#[]⟩ : ByteArray))) fun t40 =>
       condK t40
       (oR (vS (Instr.buildSlice 61 1 #[(0, (.string t38))])) fun t43 =>
       app 61 61 61 (.slice a out.length c) t43 fun t44 =>
       ArK .i64 ((p : Int) + 1) fun t46 =>
       ArK .i64 ((p : Int) + 1) fun t48 =>
       K' t44 t46 t48)
       (ArK .i64 ((p : Int) + 1) fun t46_1 =>
       ArK .i64 ((p : Int) + 1) fun t48_1 =>
       K' (.slice a out.length c) t46_1 t48_1)) := by
    intro hk
    refine Ent.opS (st_slSB (by omega) (by omega) (by omega)).still ?_
    rw [Int.toNat_natCast, Int.toNat_natCast, ← hcurd]
    refine ref_trim_spec (by omega) ?_
    have e0 : (p : Int) + 1 = ((p + 1 : Nat) : Int) := by omega
    by_cases ht : trim cur = []
    · have e1 : emit cur out = out := by unfold emit; rw [if_pos ht]
      rw [e1] at hk
      (refine Ent.go ?_)
      refine Ent.wF ?_ (by rw [decide_eq_true (ba_nil.2 ht)]; rfl)
      (refine Ent.go ?_)
      exact hk a c
    · have e1 : emit cur out = out ++ [trim cur] := by unfold emit; rw [if_neg ht]
      rw [e1] at hk
      (refine Ent.go ?_)
      refine Ent.wT ?_ (by rw [decide_eq_false (fun hh => ht (ba_nil.1 hh))]; rfl)
      refine Ent.app1 (fun a2 c2 => ?_)
      (refine Ent.go ?_)
      have := hk a2 c2
      have e2 : (out ++ [trim cur]).length = out.length + 1 := by simp
      rw [e2, ss_app] at this
      exact this
  by_cases hp : p < l.length
  · obtain ⟨rfl, rfl⟩ := g4 hp
    obtain ⟨x, hx⟩ : ∃ x, l[p]? = some x := ⟨_, List.getElem?_eq_getElem hp⟩
    have hx' : l[(p : Int).toNat]? = some x := by rw [Int.toNat_natCast]; exact hx
    have hn := fold_next hx g3
    refine Ent.wT ?_ (decide_eq_true (by omega))
    refine ixB (t := 0) (by omega) hx' ?_
    refine Ent.condE (fun y34 => ?_) fun n34 => ?_
    · refine ref_quoted_spec hl hx (by omega) g3 g2 fun r hr1 hr2 hr3 => ?_
      refine Ent.imp ?_ (hK (l.length + 1 - r) (by omega) _ _ _)
      exact Imp.exs (r, fr, out, a, c) (Imp.g2 (Imp.pur ⟨rfl, rfl, rfl, .inl ⟨hr2, (by dsimp only; omega), hr3⟩, rfl⟩ (Imp.refl _)))
    · have m34 : ¬ x.toNat = 34 := by omega
      refine Ent.join ?_
      refine Ent.wlenB ?_
      refine Ent.wF ?_ (beq_eq_false_iff_ne.2 (by omega))
      refine ixB (t := 0) (by omega) hx' ?_
      refine Ent.condE (fun y44 => ?_) fun n44 => ?_
      · have z44 : x.toNat = 44 := by omega
        refine ends fun a2 c2 => ?_
        refine Ent.imp ?_ (hK (l.length + 1 - (p + 1)) (by omega) _ _ _)
        refine Imp.exs (p + 1, p + 1, emit cur out, a2, c2) (Imp.g2 (Imp.pur ⟨rfl, rfl, rfl, .inl ⟨by omega, Nat.le_refl _, false, false, ?_, fun _ => ⟨rfl, rfl⟩⟩, rfl⟩ (Imp.refl _)))
        rw [hn]
        have : (l.take (p + 1)).drop (p + 1) = [] := List.drop_eq_nil_of_le (by simp; omega)
        rw [this, hcurd]
        unfold stp
        simp only [Bool.false_eq_true, if_false, Bool.false_and, m34]
        rw [if_pos ⟨z44, trivial⟩]
      · have m44 : ¬ x.toNat = 44 := by omega
        (refine Ent.go ?_)
        have e0 : (p : Int) + 1 = ((p + 1 : Nat) : Int) := by omega
        rw [e0]
        refine Ent.imp ?_ (hK (l.length + 1 - (p + 1)) (by omega) _ _ _)
        refine Imp.exs (p + 1, fr, out, a, c) (Imp.g2 (Imp.pur ⟨rfl, rfl, rfl, .inl ⟨by omega, (by dsimp only; omega), false, false, ?_, fun _ => ⟨rfl, rfl⟩⟩, rfl⟩ (Imp.refl _)))
        rw [hn, drop_snoc hx g2]
        unfold stp
        simp only [Bool.false_eq_true, if_false, Bool.false_and, m34, m44, false_and]
  · have hpl : p = l.length := by omega
    refine Ent.wF ?_ (decide_eq_false (by omega))
    refine Ent.wF ?_ rfl
    refine Ent.join ?_
    refine Ent.wlenB ?_
    refine Ent.wT ?_ (beq_iff_eq.2 (by omega))
    refine Ent.wT ?_ rfl
    refine ends fun a2 c2 => ?_
    refine Ent.imp ?_ (hK (l.length + 1 - (p + 1)) (by omega) _ _ _)
    refine Imp.exs (p + 1, p + 1, emit cur out, a2, c2) (Imp.g2 (Imp.pur ⟨rfl, rfl, rfl, .inr ⟨by omega, ?_⟩, rfl⟩ (Imp.refl _)))
    rw [hcurd, hpl, List.take_of_length_le (Nat.le_refl _)]
    rw [hpl, List.take_of_length_le (Nat.le_refl _)] at g3
    unfold lst
    dsimp only
    rw [g3]
end
end Go.Proofs.YtfofnagocedlgaaGreatDoor.Tx
end
section
/-
  FIELDS (layers 5, 11, 16): Get, Elements, Names, Select, Same, of the program and of the document.
-/
set_option maxRecDepth 100000
set_option linter.unusedVariables false
set_option linter.unusedSectionVars false
set_option linter.unusedSimpArgs false
set_option maxHeartbeats 0
namespace Go.Proofs.YtfofnagocedlgaaGreatDoor.Tx
open Go Sh Sl
attribute [local irreducible] condK ArK NilK OpK FnK StK joinK loopK DrawK andK PuK NxK EnK vS uS bS callS invokeS
abbrev Fd := Bs × Bs
abbrev fdC (x : Fd) : List Value := [.string (ba x.1), .string (ba x.2)]
def fc (l : List Fd) : List Value := (l.map fdC).flatten
@[simp] theorem fc_len (l : List Fd) : (fc l).length = l.length * 2 := flat_len fdC 2 (fun _ => rfl) l
@[simp] theorem fc_nil : fc [] = [] := rfl
theorem fc_app (l r : List Fd) : fc (l ++ r) = fc l ++ fc r := by simp [fc]
theorem fc_at {l : List Fd} {i : Nat} {f : Fd} (h : l[i]? = some f) : (fc l)[i * 2]? = some (.string (ba f.1)) ∧ (fc l)[i * 2 + 1]? = some (.string (ba f.2)) := by
  have h1 := flat_sub fdC 2 (fun _ => rfl) h
  have h2 : (((l.map fdC).flatten.drop (i * 2)).take 2)[0]? = some (.string (ba f.1)) := by rw [h1]; rfl
  have h3 : (((l.map fdC).flatten.drop (i * 2)).take 2)[1]? = some (.string (ba f.2)) := by rw [h1]; rfl
  rw [List.getElem?_take, if_pos (by omega), List.getElem?_drop] at h2
  rw [List.getElem?_take, if_pos (by omega), List.getElem?_drop] at h3
  exact ⟨by simpa [fc] using h2, by simpa [fc] using h3⟩
/-- how much is there -/
def fsz (l : List Fd) : Nat := (l.map fun f => f.1.length + f.2.length + 2).sum
def get (l : List Fd) (n : Bs) : List Bs := (l.filter fun f => decide (lower f.1 = lower n)).map (·.2)
def elems (l : List Fd) (n : Bs) : List Bs := (get l n).flatMap lst
theorem fsz_mem {l : List Fd} {f : Fd} (h : f ∈ l) : f.1.length + f.2.length + 2 ≤ fsz l := by
  induction l with
  | nil => cases h
  | cons g l ih =>
    rcases List.mem_cons.1 h with rfl | h
    · simp [fsz]
    · have := ih h; simp [fsz] at this ⊢; omega
theorem fsz_len (l : List Fd) : l.length * 2 ≤ fsz l := by
  induction l with
  | nil => simp [fsz]
  | cons g l ih => simp [fsz] at ih ⊢; omega
theorem get_cons (f : Fd) (l : List Fd) (n : Bs) : get (f :: l) n = if lower f.1 = lower n then f.2 :: get l n else get l n := by
  unfold get
  by_cases h : lower f.1 = lower n <;> simp [h]
theorem get_snoc (l : List Fd) (f : Fd) (n : Bs) : get (l ++ [f]) n = if lower f.1 = lower n then get l n ++ [f.2] else get l n := by
  unfold get
  by_cases h : lower f.1 = lower n <;> simp [h]
theorem get_tot (l : List Fd) (n : Bs) : tot (get l n) + (get l n).length * 2 ≤ fsz l := by
  induction l with
  | nil => simp [get, tot, fsz]
  | cons f l ih =>
    rw [get_cons]
    have : fsz (f :: l) = f.1.length + f.2.length + 2 + fsz l := by simp [fsz]
    split
    · simp [tot] at ih ⊢; omega
    · omega
theorem mem_tot {l : List Bs} {x : Bs} (h : x ∈ l) : x.length ≤ tot l := by
  induction l with
  | nil => cases h
  | cons g l ih =>
    rcases List.mem_cons.1 h with rfl | h
    · simp [tot]
    · have := ih h; simp [tot] at this ⊢; omega
theorem flat_tot (l : List Bs) : tot (l.flatMap lst) + (l.flatMap lst).length ≤ tot l + l.length := by
  induction l with
  | nil => simp [tot]
  | cons x l ih =>
    have := lst_tot x
    simp [tot] at ih this ⊢
    omega
theorem elems_tot (l : List Fd) (n : Bs) : tot (elems l n) + (elems l n).length ≤ fsz l := by
  have h1 := flat_tot (get l n)
  have h2 := get_tot l n
  unfold elems
  omega
section
variable {e : Env} {ctx ctx' rest R : List HProp}
/-- a field of an element -/
theorem fdAt {a : Option Addr} {n c i j : Nat} {l : List Fd} {f : Fd} {v : Bs} {K : ByteArray → WP} (hr : Rd ctx a (fc l)) (hi : l[i]? = some f) (hn : i < n) (hj : (j = 0 ∧ v = f.1) ∨ (j = 1 ∧ v = f.2)) (h : Ent e ctx (K (ba v))) :
    Ent e ctx (oR (vS (Instr.indexAt 23 (.slice a n c) (.int .i64 (i : Int)))) fun t => fS 55 t j 9 K) := by
  have hil := (List.getElem?_eq_some_iff.1 hi).1
  obtain ⟨b, off, rfl, hrd⟩ := rd_some hr (by simp; omega)
  refine Ent.opR (st_ix rfl rfl (by omega) (by omega)).still ?_
  have hf := fc_at hi
  rw [Int.toNat_natCast]
  rcases hj with ⟨rfl, rfl⟩ | ⟨rfl, rfl⟩
  · refine Ent.opR (st_field (off := 0) rfl).still ?_
    exact Ent.opS (st_loadR (i := i * 2) hrd rfl hf.1) h
  · refine Ent.opR (st_field (off := 1) rfl).still ?_
    have := st_loadR (e := e) (t := 9) (i := i * 2 + 1) hrd rfl hf.2
    rw [← Nat.add_assoc] at this
    exact Ent.opS this h
/-- in a drawn region -/
theorem fdAtQ {a : Option Addr} {n c i j : Nat} {l : List Fd} {f : Fd} {v : Bs} {K : ByteArray → WP} (hr : Rd R a (fc l)) (hi : l[i]? = some f) (hn : i < n) (hj : (j = 0 ∧ v = f.1) ∨ (j = 1 ∧ v = f.2)) (h : Ent e ctx (K (ba v))) :
    Ent e ctx (qR (vS (Instr.indexAt 23 (.slice a n c) (.int .i64 (i : Int)))) fun t => gS (Sat e (sepL R)) 55 t j 9 K) := by
  have hil := (List.getElem?_eq_some_iff.1 hi).1
  obtain ⟨b, off, rfl, hrd⟩ := rd_some hr (by simp; omega)
  refine Ent.puR (st_ix rfl rfl (by omega) (by omega)) ?_
  have hf := fc_at hi
  rw [Int.toNat_natCast]
  rcases hj with ⟨rfl, rfl⟩ | ⟨rfl, rfl⟩
  · refine Ent.puR (st_field (off := 0) rfl) ?_
    exact Ent.stS (st_loadR (i := i * 2) hrd rfl hf.1) h
  · refine Ent.puR (st_field (off := 1) rfl) ?_
    have := st_loadR (e := e) (t := 9) (i := i * 2 + 1) hrd rfl hf.2
    rw [← Nat.add_assoc] at this
    exact Ent.stS this h
/-- a field whole -/
theorem fdR {a : Option Addr} {n c i : Nat} {l : List Fd} {f : Fd} {K : Value → WP} (hr : Rd ctx a (fc l)) (hi : l[i]? = some f) (hn : i < n) (h : Ent e ctx (K (.agg (fdC f).toArray))) :
    Ent e ctx (iR 23 (.slice a n c) .i64 (i : Int) 55 K) := by
  have hx : l[((i : Int)).toNat]? = some f := by rw [Int.toNat_natCast]; exact hi
  exact Ent.wiAr (f := fdC) hr h rfl rfl rfl (by omega) (by omega) (fun _ => rfl) (by decide) hx
theorem fdJ {a : Option Addr} {n c i : Nat} {l : List Fd} {f : Fd} {K : Value → WP} (hr : Rd R a (fc l)) (hi : l[i]? = some f) (hn : i < n) (h : Ent e ctx (K (.agg (fdC f).toArray))) :
    Ent e ctx (jR (Sat e (sepL R)) 23 (.slice a n c) .i64 (i : Int) 55 K) := by
  have hil := (List.getElem?_eq_some_iff.1 hi).1
  obtain ⟨b, off, rfl, hrd⟩ := rd_some hr (by simp; omega)
  refine Ent.puR (st_ix rfl rfl (by omega) (by omega)) ?_
  rw [Int.toNat_natCast]
  exact Ent.stR (st_loadRA hrd rfl (flat_sub fdC 2 (fun _ => rfl) hi) rfl) h
theorem fdF : (P.fieldsOf 55).toList.map (fun f => (decide (f.name ≠ "_"), f.type, f.offset)) = [(true, 9, 0), (true, 9, 1)] := by kernel_rfl
theorem st_neFd {X Y : Operand} {f g : Fd} : Pu (bS .neq 55 X Y (.agg (fdC f).toArray) (.agg (fdC g).toArray)) (.bool (!decide (f = g))) :=
  still_bS (fun w => run_eqGuard_agg w _ _ _ _ _ _ (by kernel_rfl)) fun w => by
    have hF := fdF
    obtain ⟨f1, f2, hff⟩ : ∃ f1 f2, (P.fieldsOf 55).toList = [f1, f2] := by
      have hl := congrArg List.length hF
      simp only [List.length_map] at hl
      generalize (P.fieldsOf 55).toList = L at hl
      match L, hl with
      | [f1, f2], _ => exact ⟨f1, f2, rfl⟩
    rw [hff] at hF
    simp only [List.map_cons, List.map_nil, List.cons.injEq, Prod.mk.injEq, and_true, decide_eq_true_eq] at hF
    obtain ⟨⟨a1, a2, a3⟩, b1, b2, b3⟩ := hF
    have ht : P.underlying 55 = some (.struct (P.fieldsOf 55)) := by kernel_rfl
    have hp : P.stoodInHeld 55 = false := by kernel_rfl
    have hs : P.underlying 9 = some .string := dd_str rfl
    have hag : ∀ w, (isAgg 9).run P w = .ok false w := by
      obtain ⟨_, _, _, _, _, h4⟩ := sc_spec (t := 9) rfl
      exact h4
    rw [run_neq_struct, run_equalIn_agg w 9999 _ _ _ ht hp, hff]
    have e1 : (ba f.1 = ba g.1) ↔ f.1 = g.1 := by simp [ba]
    have e2 : (ba f.2 = ba g.2) ↔ f.2 = g.2 := by simp [ba]
    have hd : decide (f = g) = (decide (ba f.1 = ba g.1) && decide (ba f.2 = ba g.2)) := by
      rw [← Bool.decide_and, decide_eq_decide, e1, e2, Prod.ext_iff]
    rw [hd]
    simp only [Op.eqFields, a1, a2, a3, b1, b2, b3, not_false_eq_true, if_true, ne_eq, Sem.run_bind, part, hag, Result.andThen_ok, Bool.false_eq_true, if_false]
    simp [run_equalIn_string w _ _ _ _ hs, ba_eq]
    by_cases h1 : f.1 = g.1 <;> by_cases h2 : f.2 = g.2 <;> simp [h1, h2, e1, e2]
end
end Go.Proofs.YtfofnagocedlgaaGreatDoor.Tx
end
section
/-
  FIELDS (layers 5, 11): Get, Elements; (layer 16, 9) whether fields are the same.
-/
set_option maxRecDepth 100000
set_option linter.unusedVariables false
set_option linter.unusedSectionVars false
set_option linter.unusedSimpArgs false
set_option maxHeartbeats 0
namespace Go.Proofs.YtfofnagocedlgaaGreatDoor.Tx
open Go Sh Sl
attribute [local irreducible] condK ArK NilK OpK FnK StK joinK loopK DrawK andK PuK NxK EnK vS uS bS callS invokeS
section
variable {e : Env} {ctx ctx' rest R : List HProp}
theorem take_snoc {α : Type} {l : List α} {k : Nat} {x : α} (h : l[k]? = some x) : l.take (k + 1) = l.take k ++ [x] := by rw [List.take_add_one, h]; rfl
theorem get_spec {K : Value → WP} {a : Option Addr} {c : Nat} {l : List Fd} {n : Bs} (hr : Rd rest a (fc l)) (hl : fsz l ≤ 1099511627776) (hn : n.length ≤ 1099511627776)
    (h : ∀ a c, Ent e (SlO a (get l n).length c 1 (ss (get l n)) :: rest) (K (.slice a (get l n).length c))) : Ent e rest (head_Get (.slice a l.length c) (ba n) K) := by
  (refine Ent.fn head_Get_ok ?_; unfold head_Get_sh)
  (refine Ent.go ?_)
  have hll := fsz_len l
  refine Ent.rngL1 (k0 := .raw) l.length (fun k v => exs (fun (y : Option Addr × Nat) => sepL [pur (v = .slice y.1 (get (l.take k) n).length y.2), SlO y.1 (get (l.take k) n).length y.2 1 (ss (get (l.take k) n))]) :: rest) rfl ?_ ?_
  · refine Imp.exs (none, 0) (Imp.g2 (Imp.pur (by simp [get]) ?_))
    exact Imp.slN (Imp.refl _)
  intro k hk K' hK v
  refine Ent.exs fun ⟨a2, c2⟩ => Ent.g2 (Ent.pur fun hv => ?_)
  dsimp only at hv
  dsimp only
  subst hv
  by_cases hkn : k < l.length
  · obtain ⟨f, hf⟩ : ∃ f, l[k]? = some f := ⟨_, List.getElem?_eq_getElem hkn⟩
    have hfm := fsz_mem (List.mem_of_getElem? hf)
    have hs := get_snoc (l.take k) f n
    rw [← take_snoc hf] at hs
    have hgl : (get (l.take k) n).length ≤ l.length := by
      unfold get
      have := List.length_filter_le (fun f : Fd => decide (lower f.1 = lower n)) (l.take k)
      simp at this ⊢; omega
    refine Ent.wT ?_ (by simpa using hkn)
    refine fdR hr.tl hf hkn ?_
    refine Ent.alloc' fun fb => ?_
    (refine Ent.go ?_)
    refine same_spec (by omega) hn ?_
    refine Ent.condD (fun he => ?_) fun he => ?_
    · rw [if_pos he] at hs
      (refine Ent.go ?_)
      refine Ent.app1 (fun a3 c3 => ?_)
      (refine Ent.go ?_)
      refine Ent.imp ?_ (hK hkn _)
      refine Imp.exs (a3, c3) (Imp.g2 (Imp.pur ?_ ?_))
      · rw [hs]; simp
      · rw [hs, ss_app, List.length_append]
        (focus ((repeat ((with_reducible apply Imp.pick); (repeat (first | exact Pick.hd | apply Pick.tl)))); (repeat (first | exact Imp.refl _ | exact Imp.nil _ | apply Imp.drop)); done))
    · rw [if_neg he] at hs
      (refine Ent.go ?_)
      refine Ent.imp ?_ (hK hkn _)
      refine Imp.exs (a2, c2) (Imp.g2 (Imp.pur ?_ ?_))
      · rw [hs]
      · rw [hs]
        (focus ((repeat ((with_reducible apply Imp.pick); (repeat (first | exact Pick.hd | apply Pick.tl)))); (repeat (first | exact Imp.refl _ | exact Imp.nil _ | apply Imp.drop)); done))
  · have hkl : k = l.length := by omega
    subst hkl
    refine Ent.wF ?_ (by simp)
    rw [List.take_of_length_le (Nat.le_refl _)]
    exact h a2 c2
theorem elements_spec {K : Value → WP} {a : Option Addr} {c : Nat} {l : List Fd} {n : Bs} (hr : Rd rest a (fc l)) (hl : fsz l ≤ 1099511627776) (hn : n.length ≤ 1099511627776)
    (h : ∀ a c, Ent e (SlO a (elems l n).length c 1 (ss (elems l n)) :: rest) (K (.slice a (elems l n).length c))) : Ent e rest (hop_Elements (.slice a l.length c) (ba n) K) := by
  (refine Ent.fn hop_Elements_ok ?_; unfold hop_Elements_sh)
  refine get_spec hr hl hn fun a1 c1 => ?_
  have ht := get_tot l n
  refine Ent.rdS fun hrd _ => ?_
  obtain ⟨g, hg⟩ : ∃ g, g = get l n := ⟨_, rfl⟩
  rw [← hg] at hrd ht ⊢
  (refine Ent.go ?_)
  refine Ent.rngL1 (k0 := .raw) g.length (fun k v => exs (fun (y : Option Addr × Nat) => sepL [pur (v = .slice y.1 ((g.take k).flatMap lst).length y.2), SlO y.1 ((g.take k).flatMap lst).length y.2 1 (ss ((g.take k).flatMap lst))]) :: SlO a1 g.length c1 1 (ss g) :: rest) rfl ?_ ?_
  · refine Imp.exs (none, 0) (Imp.g2 (Imp.pur (by simp) ?_))
    exact Imp.slN (Imp.refl _)
  intro k hk K' hK v
  refine Ent.exs fun ⟨a2, c2⟩ => Ent.g2 (Ent.pur fun hv => ?_)
  dsimp only at hv
  dsimp only
  subst hv
  have hft := flat_tot (g.take k)
  have htk : tot (g.take k) ≤ tot g := by
    have := tot_app (g.take k) (g.drop k)
    rw [List.take_append_drop] at this
    omega
  have hkl : (g.take k).length ≤ g.length := by simp; omega
  by_cases hkn : k < g.length
  · obtain ⟨x, hx⟩ : ∃ x, g[k]? = some x := ⟨_, List.getElem?_eq_getElem hkn⟩
    have hxt := mem_tot (List.mem_of_getElem? hx)
    have hxl := lst_tot x
    have hv2 : (ss g)[(k : Int).toNat]? = some (.string (ba x)) := by rw [Int.toNat_natCast]; simp [ss, hx]
    have hs : (g.take (k + 1)).flatMap lst = (g.take k).flatMap lst ++ lst x := by rw [take_snoc hx]; simp
    refine Ent.wT ?_ (by simpa using hkn)
    refine Ent.wiSr (hrd _ (by (repeat (first | exact Has.hd | apply Has.tl)))) ?_ rfl rfl rfl (by omega) (by omega) hv2
    refine list_spec (by omega) fun a3 c3 => ?_
    refine Ent.rdS fun hr3 _ => ?_
    refine Ent.appN (hr3 _ (by (repeat (first | exact Has.hd | apply Has.tl)))) (h1 := by intro v hv; simp only [ss, List.mem_map] at hv; obtain ⟨_, _, rfl⟩ := hv; rfl) (fun a4 c4 => ?_)
    (refine Ent.go ?_)
    refine Ent.imp ?_ (hK hkn _)
    refine Imp.exs (a4, c4) (Imp.g2 (Imp.pur ?_ ?_))
    · rw [hs]; simp
    · rw [hs, ss_app, List.length_append]
      (focus ((repeat ((with_reducible apply Imp.pick); (repeat (first | exact Pick.hd | apply Pick.tl)))); (repeat (first | exact Imp.refl _ | exact Imp.nil _ | apply Imp.drop)); done))
  · have hkl : k = g.length := by omega
    subst hkl
    refine Ent.wF ?_ (by simp)
    rw [List.take_of_length_le (Nat.le_refl _)]
    have := h a2 c2
    unfold elems at this
    rw [← hg] at this
    exact Ent.imp (by (focus ((repeat ((with_reducible apply Imp.pick); (repeat (first | exact Pick.hd | apply Pick.tl)))); (repeat (first | exact Imp.refl _ | exact Imp.nil _ | apply Imp.drop)); done))) this
theorem elems_snoc (l : List Fd) (f : Fd) (n : Bs) : elems (l ++ [f]) n = if lower f.1 = lower n then elems l n ++ lst f.2 else elems l n := by
  unfold elems
  rw [get_snoc]
  split <;> simp
theorem fsz_app (l m : List Fd) : fsz (l ++ m) = fsz l + fsz m := by simp [fsz]
theorem elems_take (l : List Fd) (k : Nat) (n : Bs) : (elems (l.take k) n).length ≤ fsz l := by
  have h1 := elems_tot (l.take k) n
  have : fsz (l.take k) ≤ fsz l := by
    have : fsz l = fsz (l.take k) + fsz (l.drop k) := by
      have h9 := fsz_app (l.take k) (l.drop k)
      rwa [List.take_append_drop] at h9
    omega
  omega
theorem ref_elements_spec {K : Value → WP} {a : Option Addr} {c : Nat} {l : List Fd} {n : Bs} (hr : Rd rest a (fc l)) (hl : fsz l ≤ 1099511627776) (hn : n.length ≤ 1099511627776)
    (h : ∀ a c, Ent e (SlO a (elems l n).length c 1 (ss (elems l n)) :: rest) (K (.slice a (elems l n).length c))) : Ent e rest (ref11_Elements (.slice a l.length c) (ba n) K) := by
  (refine Ent.fn ref11_Elements_ok ?_; unfold ref11_Elements_sh)
  have hll := fsz_len l
  refine Ent.rngL1 (k0 := .raw) l.length (fun k v => exs (fun (y : Option Addr × Nat) => sepL [pur (v = .slice y.1 (elems (l.take k) n).length y.2), SlO y.1 (elems (l.take k) n).length y.2 1 (ss (elems (l.take k) n))]) :: rest) rfl ?_ ?_
  · refine Imp.exs (none, 0) (Imp.g2 (Imp.pur (by simp [elems, get]) ?_))
    exact Imp.slN (Imp.refl _)
  intro k hk K' hK v
  refine Ent.exs fun ⟨a2, c2⟩ => Ent.g2 (Ent.pur fun hv => ?_)
  dsimp only at hv
  dsimp only
  subst hv
  have hel := elems_take l k n
  (refine Ent.go ?_)
  by_cases hkn : k < l.length
  · obtain ⟨f, hf⟩ : ∃ f, l[k]? = some f := ⟨_, List.getElem?_eq_getElem hkn⟩
    have hfm := fsz_mem (List.mem_of_getElem? hf)
    have hs := elems_snoc (l.take k) f n
    rw [← take_snoc hf] at hs
    have hxl := lst_tot f.2
    refine Ent.wT ?_ (by simpa using hkn)
    refine fdAt hr.tl hf hkn (.inl ⟨rfl, rfl⟩) ?_
    refine ref_same_spec (by omega) hn ?_
    refine Ent.condD (fun he => ?_) fun he => ?_
    · rw [if_pos he] at hs
      refine fdAt hr.tl hf hkn (.inr ⟨rfl, rfl⟩) ?_
      refine ref_list_spec (by omega) fun a3 c3 => ?_
      refine Ent.rdS fun hr3 _ => ?_
      refine Ent.appN (hr3 _ (by (repeat (first | exact Has.hd | apply Has.tl)))) (h1 := by intro v hv; simp only [ss, List.mem_map] at hv; obtain ⟨_, _, rfl⟩ := hv; rfl) (fun a4 c4 => ?_)
      (refine Ent.go ?_)
      refine Ent.imp ?_ (hK hkn _)
      refine Imp.exs (a4, c4) (Imp.g2 (Imp.pur ?_ ?_))
      · rw [hs]; simp
      · rw [hs, ss_app, List.length_append]
        (focus ((repeat ((with_reducible apply Imp.pick); (repeat (first | exact Pick.hd | apply Pick.tl)))); (repeat (first | exact Imp.refl _ | exact Imp.nil _ | apply Imp.drop)); done))
    · rw [if_neg he] at hs
      (refine Ent.go ?_)
      refine Ent.imp ?_ (hK hkn _)
      refine Imp.exs (a2, c2) (Imp.g2 (Imp.pur ?_ ?_))
      · rw [hs]
      · rw [hs]
        (focus ((repeat ((with_reducible apply Imp.pick); (repeat (first | exact Pick.hd | apply Pick.tl)))); (repeat (first | exact Imp.refl _ | exact Imp.nil _ | apply Imp.drop)); done))
  · have hkl : k = l.length := by omega
    subst hkl
    refine Ent.wF ?_ (by simp)
    rw [List.take_of_length_le (Nat.le_refl _)]
    exact h a2 c2
/-! the same fields -/
theorem eq_take {l m : List Fd} (hlen : l.length = m.length) {k : Nat} (h : l.take k = m.take k) {f g : Fd} (hf : l[k]? = some f) (hg : m[k]? = some g) : (l.take (k + 1) = m.take (k + 1)) ↔ f = g := by
  rw [take_snoc hf, take_snoc hg, h]
  constructor
  · intro h2
    have := List.append_cancel_left h2
    simpa using this
  · intro h2; rw [h2]
theorem ne_of_at {l m : List Fd} {k : Nat} {f g : Fd} (hf : l[k]? = some f) (hg : m[k]? = some g) (h : f ≠ g) : l ≠ m := by
  intro h2; subst h2; rw [hf] at hg; cases hg; exact h rfl
theorem equal_spec {K : Bool → WP} {a a' : Option Addr} {c c' : Nat} {l m : List Fd} (hr : Rd rest a (fc l)) (hr' : Rd rest a' (fc m)) (hl : l.length ≤ 1099511627776) (hm : m.length ≤ 1099511627776) (h : Ent e rest (K (decide (l = m)))) :
    Ent e rest (slices_Equal_Field (.slice a l.length c) (.slice a' m.length c') K) := by
  (refine Ent.fn slices_Equal_Field_ok ?_; unfold slices_Equal_Field_sh)
  (refine Ent.go ?_)
  by_cases hlen : l.length = m.length
  rotate_left
  · refine Ent.wT ?_ (bne_iff_ne.2 (by omega))
    rw [← decide_eq_false (fun hh => hlen (congrArg List.length hh) : ¬ l = m)]; exact h
  refine Ent.wF ?_ (bne_eq_false_iff_eq.2 (by omega))
  (refine Ent.go ?_)
  refine Ent.rngL0 l.length (fun k => pur (l.take k = m.take k) :: rest) rfl (Imp.pur rfl (Imp.refl _)) ?_
  intro k hk K' hK
  refine Ent.pur fun hv => ?_
  by_cases hkn : k < l.length
  · obtain ⟨f, hf⟩ : ∃ f, l[k]? = some f := ⟨_, List.getElem?_eq_getElem hkn⟩
    obtain ⟨g, hg⟩ : ∃ g, m[k]? = some g := ⟨_, List.getElem?_eq_getElem (by omega)⟩
    refine Ent.wT ?_ (by simpa using hkn)
    refine Ent.draw _ (Imp.refl _) ?_
    refine fdJ hr hf hkn ?_
    refine fdJ hr' hg (by omega) ?_
    refine Ent.puB st_neFd ?_
    by_cases he : f = g
    · refine Ent.wF ?_ (by simp [he])
      (refine Ent.go ?_)
      exact Ent.imp (Imp.pur ((eq_take hlen hv hf hg).2 he) (Imp.refl _)) (hK hkn)
    · refine Ent.wT ?_ (by simp [he])
      rw [← decide_eq_false (ne_of_at hf hg he)]; exact h
  · have hkl : k = l.length := by omega
    subst hkl
    refine Ent.wF ?_ (by simp)
    rw [List.take_of_length_le (Nat.le_refl _), List.take_of_length_le (by omega)] at hv
    rw [← decide_eq_true hv]; exact h
theorem vary_same_spec {K : Bool → WP} {a a' : Option Addr} {c c' : Nat} {l m : List Fd} (hr : Rd rest a (fc l)) (hr' : Rd rest a' (fc m)) (hl : l.length ≤ 1099511627776) (hm : m.length ≤ 1099511627776) (h : Ent e rest (K (decide (l = m)))) :
    Ent e rest (vary_Same (.slice a l.length c) (.slice a' m.length c') K) := by
  (refine Ent.fn vary_Same_ok ?_; unfold vary_Same_sh)
  exact equal_spec hr hr' hl hm h
theorem ref_samef_spec {K : Bool → WP} {a a' : Option Addr} {c c' : Nat} {l m : List Fd} (hr : Rd rest a (fc l)) (hr' : Rd rest a' (fc m)) (hl : l.length ≤ 1099511627776) (hm : m.length ≤ 1099511627776) (h : Ent e rest (K (decide (l = m)))) :
    Ent e rest (ref09_SameFields (.slice a l.length c) (.slice a' m.length c') K) := by
  (refine Ent.fn ref09_SameFields_ok ?_; unfold ref09_SameFields_sh)
  (refine Ent.go ?_)
  by_cases hlen : l.length = m.length
  rotate_left
  · refine Ent.wT ?_ (bne_iff_ne.2 (by omega))
    rw [← decide_eq_false (fun hh => hlen (congrArg List.length hh) : ¬ l = m)]; exact h
  refine Ent.wF ?_ (bne_eq_false_iff_eq.2 (by omega))
  refine Ent.rngL0 l.length (fun k => pur (l.take k = m.take k) :: rest) rfl (Imp.pur rfl (Imp.refl _)) ?_
  intro k hk K' hK
  refine Ent.pur fun hv => ?_
  (refine Ent.go ?_)
  by_cases hkn : k < l.length
  · obtain ⟨f, hf⟩ : ∃ f, l[k]? = some f := ⟨_, List.getElem?_eq_getElem hkn⟩
    obtain ⟨g, hg⟩ : ∃ g, m[k]? = some g := ⟨_, List.getElem?_eq_getElem (by omega)⟩
    refine Ent.wT ?_ (by simpa using hkn)
    refine Ent.draw _ (Imp.refl _) ?_
    refine fdJ hr hf hkn ?_
    refine fdJ hr' hg (by omega) ?_
    refine Ent.puB st_neFd ?_
    by_cases he : f = g
    · refine Ent.wF ?_ (by simp [he])
      (refine Ent.go ?_)
      exact Ent.imp (Imp.pur ((eq_take hlen hv hf hg).2 he) (Imp.refl _)) (hK hkn)
    · refine Ent.wT ?_ (by simp [he])
      rw [← decide_eq_false (ne_of_at hf hg he)]; exact h
  · have hkl : k = l.length := by omega
    subst hkl
    refine Ent.wF ?_ (by simp)
    rw [List.take_of_length_le (Nat.le_refl _), List.take_of_length_le (by omega)] at hv
    rw [← decide_eq_true hv]; exact h
theorem ref_same16_spec {K : Bool → WP} {a a' : Option Addr} {c c' : Nat} {l m : List Fd} (hr : Rd rest a (fc l)) (hr' : Rd rest a' (fc m)) (hl : l.length ≤ 1099511627776) (hm : m.length ≤ 1099511627776) (h : Ent e rest (K (decide (l = m)))) :
    Ent e rest (ref16_Same (.slice a l.length c) (.slice a' m.length c') K) := by
  (refine Ent.fn ref16_Same_ok ?_; unfold ref16_Same_sh)
  (refine Ent.go ?_)
  by_cases hlen : l.length = m.length
  rotate_left
  · refine Ent.wT ?_ (bne_iff_ne.2 (by omega))
    rw [← decide_eq_false (fun hh => hlen (congrArg List.length hh) : ¬ l = m)]; exact h
  refine Ent.wF ?_ (bne_eq_false_iff_eq.2 (by omega))
  refine Ent.rngL0 l.length (fun k => pur (l.take k = m.take k) :: rest) rfl (Imp.pur rfl (Imp.refl _)) ?_
  intro k hk K' hK
  refine Ent.pur fun hv => ?_
  (refine Ent.go ?_)
  by_cases hkn : k < l.length
  · obtain ⟨f, hf⟩ : ∃ f, l[k]? = some f := ⟨_, List.getElem?_eq_getElem hkn⟩
    obtain ⟨g, hg⟩ : ∃ g, m[k]? = some g := ⟨_, List.getElem?_eq_getElem (by omega)⟩
    have bs : ∀ x y : Bs, (ba x = ba y) ↔ x = y := fun x y => by simp [ba]
    refine Ent.wT ?_ (by simpa using hkn)
    refine Ent.draw _ (Imp.refl _) ?_
    refine fdAtQ hr hf hkn (.inl ⟨rfl, rfl⟩) ?_
    refine fdAtQ hr' hg (by omega) (.inl ⟨rfl, rfl⟩) ?_
    refine Ent.puB st_neS ?_
    by_cases h1 : f.1 = g.1
    · refine Ent.wF ?_ (by simp [h1])
      refine fdAtQ hr hf hkn (.inr ⟨rfl, rfl⟩) ?_
      refine fdAtQ hr' hg (by omega) (.inr ⟨rfl, rfl⟩) ?_
      refine Ent.puB st_neS ?_
      by_cases h2 : f.2 = g.2
      · refine Ent.wF ?_ (by simp [h2])
        (refine Ent.go ?_)
        exact Ent.imp (Imp.pur ((eq_take hlen hv hf hg).2 (Prod.ext h1 h2)) (Imp.refl _)) (hK hkn)
      · refine Ent.wT ?_ (by rw [decide_eq_false (fun hh => h2 ((bs _ _).1 hh))]; rfl)
        rw [← decide_eq_false (ne_of_at hf hg fun hh => h2 (by rw [hh]))]; exact h
    · refine Ent.wT ?_ (by rw [decide_eq_false (fun hh => h1 ((bs _ _).1 hh))]; rfl)
      rw [← decide_eq_false (ne_of_at hf hg fun hh => h1 (by rw [hh]))]; exact h
  · have hkl : k = l.length := by omega
    subst hkl
    refine Ent.wF ?_ (by simp)
    rw [List.take_of_length_le (Nat.le_refl _), List.take_of_length_le (by omega)] at hv
    rw [← decide_eq_true hv]; exact h
end
end Go.Proofs.YtfofnagocedlgaaGreatDoor.Tx
end
