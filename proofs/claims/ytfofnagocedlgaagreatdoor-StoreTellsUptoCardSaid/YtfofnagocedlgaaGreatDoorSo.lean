/-
  SORTING a slice of whole numbers by a function that only reads.
-/
import Derived.Test.YtfofnagocedlgaaGreatDoorQt
import Derived.Test.YtfofnagocedlgaaGreatDoorShelf
set_option maxRecDepth 100000
set_option linter.unusedVariables false
set_option linter.unusedSectionVars false
set_option linter.unusedSimpArgs false
namespace Go.Proofs.YtfofnagocedlgaaGreatDoor.Sl
open Go Sh Go.Sort
section
variable {e : Env} {ctx : List HProp} {α : Type} [Inhabited α]
theorem Sat.grow {w : World} (h : Sat e (sepL ctx) w) (os : Array Obj) : Sat e (sepL ctx) (Sort.grow w os) :=
  ⟨h.os, h.tape, h.output, sepL_mono (fun i o ho => by
    have ho' : w.heap[i]? = some o := ho
    show (w.heap ++ os)[i]? = some o
    rw [Array.getElem?_append_left (Array.getElem?_eq_some_iff.1 ho').1]; exact ho') h.heap⟩
theorem putCells_list (enc : α → Value) (d : Array α) (l r : List Value) (h : d.size = l.length) : putCells enc 0 d (l ++ r).toArray = (d.toList.map enc ++ r).toArray := by
  apply Array.ext
  · simp [putCells, h]
  · intro i h1 h2
    simp only [putCells, Array.getElem_mapIdx, Nat.zero_le, true_and, Nat.zero_add, Nat.sub_zero]
    by_cases hi : i < d.size
    · rw [if_pos hi, getElem!_pos d i hi]
      simp [List.getElem_append, hi]
    · rw [if_neg hi]
      have : ¬ i < l.length := by omega
      simp [List.getElem_append, hi, this, h]
theorem Sat.sorted {enc : α → Value} {w : World} {b n : Nat} {l r : List Value} {d : Array α} {os : Array Obj} (h : Sat e (sepL (pt b (l ++ r) :: ctx)) w) (hd : d.size = l.length) :
    Sat e (sepL (pt b (d.toList.map enc ++ r) :: ctx)) (sortWorld enc w b 0 n d os) := by
  unfold sortWorld
  refine Sat.grow ?_ os
  unfold putRow mapBlock
  have h2 : Sat e (sepL (pt b (l ++ r) :: ctx)) (Sort.ahead w n) := h.drawn _
  obtain ⟨T, fr, hb, hf⟩ := Has.pt .hd h2
  refine Sat.turn2 (b := b) (o' := .cells (d.toList.map enc ++ r).toArray T fr) h2 (fun g hg hl => ?_) rfl rfl rfl ?_ ?_
  · obtain ⟨T', fr', hg1, hg2⟩ := hg
    have h3 : (Sort.ahead w n).heap[b]? = some (.cells (l ++ r).toArray T' fr') := hl _ _ hg1
    rw [hb] at h3
    cases h3
    refine ⟨⟨_, hg1⟩, T, fr, by simp, fun i hi => hg2 i ?_⟩
    simp only [List.length_append, List.length_map, Array.length_toList, hd] at hi ⊢
    exact hi
  · show ((Sort.ahead w n).heap.modify b (onCells (putCells enc 0 d)))[b]? = _
    rw [Array.getElem?_modify, if_pos rfl, hb]
    simp only [Option.map_some, onCells, putCells_list enc d l r hd]
  · intro i hi
    show ((Sort.ahead w n).heap.modify b (onCells (putCells enc 0 d)))[i]? = _
    rw [Array.getElem?_modify, if_neg (Ne.symm hi)]
theorem holds_of_sat {enc : α → Value} {w : World} {b : Nat} {l : List α} {r : List Value} (h : Sat e (sepL (pt b (l.map enc ++ r) :: ctx)) w) : Holds enc w b 0 l.toArray := by
  obtain ⟨T, fr, hb, hf⟩ := Has.pt .hd h
  intro j hj
  have hj' : j < l.length := by simpa using hj
  rw [Nat.zero_add]
  constructor
  · simp only [World.cell?, hb]
    rw [getElem!_pos l.toArray j hj]
    simp [List.getElem?_append_left, hj']
  · simp only [World.frozen?, hb]
    have := hf j (by simp; omega)
    simp only [not_and, Nat.not_lt] at this
    cases hc : decide (fr.1 ≤ j) && decide (j < fr.2) with
    | false => rfl
    | true =>
      simp only [Bool.and_eq_true, decide_eq_true_eq] at hc
      have := this hc.1
      omega
theorem perm_of {l : List α} {d' : Array α} (h : PermIn 0 l.length l.toArray d') : d'.size = l.length ∧ d'.toList.Perm l := by
  obtain ⟨h1, _, h3⟩ := h
  have h1' : d'.size = l.length := by simpa using h1
  refine ⟨h1', ?_⟩
  have e1 : d'.extract 0 l.length = d' := by rw [← h1']; simp
  have e2 : l.toArray.extract 0 l.length = l.toArray := by simp
  rw [e1, e2] at h3
  simpa using h3
/-- sorting whole numbers -/
theorem Ent.sortInts {a : Option Addr} {n c g : Nat} {cb : Array Value} {l : List Int} {K : Value → WP} (cf : Int → Int → Int) (hO : SWO (ltOf cf)) (hg : memN cll g = true) (hn : n = l.length) (hb : n < 4611686018427387904)
    (hcmp : ∀ W, Sat e (sepL ctx) W → ∀ x y : Int, Calls P g (#[.int .i64 x, .int .i64 y] ++ cb) W fun e w' => e = .returned (.int .i64 (cf x y)) ∧ ∃ q, w' = W.drewN q)
    (h : ∀ l' : List Int, l'.Perm l → l'.Pairwise (fun x y => ¬ cf y x < 0) → Ent e (SlO a n c 1 (l'.map fun x => .int .i64 x) :: ctx) (K (.tuple #[]))) :
    Ent e (SlO a n c 1 (l.map fun x => .int .i64 x) :: ctx) (slices_SortFunc_int (.slice a n c) (.func (.func g) #[] cb) K) := fun w hw => by
  subst hn
  obtain ⟨g1, g2, hd, l1, l2, ⟨hl, hA⟩, hr⟩ := hw.heap
  rcases hA with ⟨ha, hn0, hc⟩ | ⟨b, r, ha, hc, hcr, hp⟩
  · subst ha
    have hl0 : l = [] := List.eq_nil_of_length_eq_zero hn0
    subst hl0
    refine Calls.mono (Tryz.slices_SortFunc_none (α := Unit) none c (.func (.func g) #[] cb) w) fun e w' ⟨he, hw'⟩ => ?_
    subst he hw'
    exact ⟨_, rfl, _, rfl, h [] (List.Perm.refl _) List.Pairwise.nil _ hw⟩
  · subst ha
    have hw2 : Sat e (sepL (pt b (l.map (fun x => Value.int .i64 x) ++ r) :: ctx)) w := ⟨hw.os, hw.tape, hw.output, g1, g2, hd, l1, l2, hp, hr⟩
    have hlt : b < w.heap.size := by
      obtain ⟨T, fr, hb, _⟩ := Has.pt .hd hw2
      exact (Array.getElem?_eq_some_iff.1 hb).1
    have key := Tryz.slices_SortFunc (fun x : Int => Value.int .i64 x) (fun _ => rfl) cf hO g cb b 0 c l.toArray w (fun args w => callFunc_run (cx_ok.calls g hg) args w)
      (CmpReads.lays fun m os dk hs x y => by
        have hs' : dk.size = (l.map fun x => Value.int .i64 x).length := by simpa using hs
        have hw3 := Sat.sorted (enc := fun x : Int => Value.int .i64 x) (n := m) (os := os) hw2 hs'
        exact hcmp _ (hw3.imp fun _ => sepL_drop) x y)
      (holds_of_sat hw2) hlt (by simpa using hb)
    refine Calls.mono key fun e w' ⟨he, d', n, os, hp1, hs1, hw'⟩ => ?_
    subst he hw'
    obtain ⟨p1, p2⟩ := perm_of (l := l) (by simpa using hp1)
    refine ⟨_, rfl, _, rfl, h d'.toList p2 ?_ _ ?_⟩
    · rw [List.pairwise_iff_getElem]
      intro i j hi hj hij
      have hj' : j < d'.size := by simpa using hj
      have hi' : i < d'.size := by simpa using hi
      have := hs1 i j (Nat.zero_le _) hij (by simpa [← p1] using hj')
      rw [getElem!_pos d' i hi', getElem!_pos d' j hj'] at this
      simpa [ltOf] using this
    · have := Sat.sorted (enc := fun x : Int => Value.int .i64 x) (n := n) (os := os) hw2 (d := d') (by simpa using p1)
      refine this.imp fun _ k => sepL_cons (fun hh kk => ?_) (fun _ z => z) k
      refine ⟨by simp [p1], .inr ⟨b, r, rfl, hc, ?_, kk⟩⟩
      simpa [p1] using hcr
end
end Go.Proofs.YtfofnagocedlgaaGreatDoor.Sl
