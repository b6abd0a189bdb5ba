/-
  FROM WHAT IS PROVED OF A LAW's CALL TO THE LAW's STATEMENT: how the arguments are read; what is left of them.
-/
import Derived.Test.YtiabhghlhnnnjaaGreatDoorRows
import Derived.Test.YtiabhghlhnnnjaaGreatDoorOp3
import Derived.ProofKit
import Derived.OpenShut
import Derived.JoinedCond
import Derived.ChangeArms
import Derived.Carry
set_option maxRecDepth 100000
set_option linter.unusedVariables false
set_option linter.unusedSimpArgs false
namespace Go.Proofs.YtiabhghlhnnnjaaGreatDoor.Lift
open Go Sh Sl
open Go.ChangeShapes Go.WideShapes Go.ChangeAt Go.RowKit

/-- all that lay there when the call began -/
def wh (W : World) : HProp := fun h => ∀ i o, W.heap[i]? = some o → h i = some o
def envOf (W : World) : Env := ⟨W.os, W.tape, W.output⟩
theorem start (W : World) : Sat (envOf W) (sepL [wh W]) W := ⟨rfl, rfl, rfl, hpOf W, fun _ => none, fun _ => .inr rfl, Hp.le_refl _, fun _ _ e => (by cases e), fun _ _ h => h, trivial⟩
theorem below_of {W W' : World} (h : Sat (envOf W) (sepL [wh W]) W') : Below W.heap.size W W' := by
  obtain ⟨h1, h2, _, l1, _, a, _⟩ := h.heap
  have hb : ∀ k, k < W.heap.size → W'.heap[k]? = W.heap[k]? := by
    intro k hk
    have := l1 k W.heap[k] (a k _ (by simp [hk]))
    have e : W'.heap[k]? = some W.heap[k] := this
    rw [e]; simp [hk]
  refine ⟨h.os, h.tape, h.output, ?_, hb⟩
  rcases Nat.eq_zero_or_pos W.heap.size with h0 | h0
  · omega
  · have := hb (W.heap.size - 1) (by omega)
    have hlt : W.heap.size - 1 < W.heap.size := by omega
    rw [show W.heap[W.heap.size - 1]? = some W.heap[W.heap.size - 1] by simp [hlt]] at this
    have := (Array.getElem?_eq_some_iff.1 this).1
    omega
/-- a call that is proved from the start's memory -/
theorem calls_of {f : FuncId} {args : Array Value} {W : World} (h : ∀ K : Bool → WP, (Ent (envOf W) [wh W] (K true)) → Ent (envOf W) [wh W] (FnK P (.one .bool) f args K)) :
    Calls P f args W fun e W' => e = .returned (.bool true) ∧ Below W.heap.size W W' := by
  have := h (fun b w => b = true ∧ Sat (envOf W) (sepL [wh W]) w) (fun w hw => ⟨rfl, hw⟩) W (start W)
  refine Calls.mono this fun e W' ⟨v, he, b, hb, ht, hs⟩ => ?_
  subst he; subst hb; subst ht
  exact ⟨rfl, below_of hs⟩
/-- cells of the arguments may be read -/
theorem rd_of {W : World} {a : Addr} {l : List Value} (h : ∀ j v, l[j]? = some v → W.cell? (a.add j) = some v) : Rd [wh W] (some a) l := by
  cases l with
  | nil => exact .inl rfl
  | cons v0 r =>
    have h0 := h 0 v0 rfl
    have e0 : a.add 0 = a := rfl
    rw [e0] at h0
    unfold World.cell? at h0
    cases hb : W.heap[a.block]? with
    | none => rw [hb] at h0; cases h0
    | some o =>
      rw [hb] at h0
      cases o <;> simp only at h0 <;> try (cases h0)
      rename_i c T fr
      cases hs : a.spot with
      | some s => rw [hs] at h0; simp at h0
      | none =>
        refine .inr ⟨hs, fun x k => ?_⟩
        obtain ⟨h1, h2, _, l1, _, hw, _⟩ := k
        refine ⟨T, fr, c, l1 _ _ (hw _ _ hb), fun j v hj => ?_⟩
        have hc := h j v hj
        obtain ⟨b, off, s⟩ := a
        simp only at hs hb
        subst hs
        rw [Addr.add_lit] at hc
        simpa [World.cell?, hb] using hc

/-! reading -/
section
variable {H : Type} {enc : TypeId × Value → H} {W : World}
/-- 'cs' of type t read as 'd' -/
def Tr (enc : TypeId × Value → H) (W : World) (t : TypeId) (cs : List Value) (d : DataW H) : Prop := ∃ n ps, DataW.trod enc P W 0 (fun _ => true) true n t cs = some (d, ps)
theorem tr_int {t : TypeId} {k : IntKind} {cs : List Value} {d : DataW H} (ht : dd t = some (.int k)) (h : Tr enc W t cs d) : ∃ m, cs = [.int k m] ∧ inR k m := by
  obtain ⟨n, ps, h⟩ := h
  cases n with
  | zero => simp [DataW.trod] at h
  | succ n =>
    unfold DataW.trod at h
    rw [dd_int ht] at h
    split at h <;> try (first | (rename_i e _; cases e; done) | (rename_i e; cases e; done) | (cases h; done))
    rename_i k1 k2 m hk
    cases hk
    split at h
    · rename_i hw
      obtain ⟨rfl, hw⟩ := hw
      simp only [Lit.wf, Bool.and_eq_true, decide_eq_true_eq] at hw
      exact ⟨m, rfl, hw⟩
    · cases h
theorem tr_bool {t : TypeId} {cs : List Value} {d : DataW H} (ht : dd t = some .bool) (h : Tr enc W t cs d) : ∃ b, cs = [.bool b] := by
  obtain ⟨n, ps, h⟩ := h
  cases n with
  | zero => simp [DataW.trod] at h
  | succ n =>
    unfold DataW.trod at h
    rw [dd_bool ht] at h
    split at h <;> try (first | (rename_i e _; cases e; done) | (rename_i e; cases e; done) | (cases h; done))
    exact ⟨_, rfl⟩
theorem tr_str {t : TypeId} {cs : List Value} {d : DataW H} (ht : dd t = some .str) (h : Tr enc W t cs d) : ∃ l : List UInt8, cs = [.string (ba l)] ∧ l.length ≤ Rows.uptoBulk d := by
  obtain ⟨n, ps, h⟩ := h
  cases n with
  | zero => simp [DataW.trod] at h
  | succ n =>
    unfold DataW.trod at h
    rw [dd_str ht] at h
    split at h <;> try (first | (rename_i e _; cases e; done) | (rename_i e; cases e; done) | (cases h; done))
    rename_i s _
    split at h
    · simp only [Option.some.injEq, Prod.mk.injEq] at h
      obtain ⟨rfl, _⟩ := h
      exact ⟨s.data.toList, by simp [ba], by simp [Rows.uptoBulk]⟩
    · cases h
theorem bulk_pos (d : DataW H) : 1 ≤ Rows.uptoBulk d := by
  cases d with
  | lit l => cases l <;> simp [Rows.uptoBulk]
  | _ => simp [Rows.uptoBulk]
theorem bulk_len (l : List (DataW H)) : l.length ≤ Rows.uptoBulkAll l := by
  induction l with
  | nil => simp [Rows.uptoBulkAll]
  | cons x r ih => have := bulk_pos x; simp only [Rows.uptoBulkAll, List.length_cons]; omega
theorem bulk_mem {d : DataW H} {l : List (DataW H)} (h : d ∈ l) : Rows.uptoBulk d ≤ Rows.uptoBulkAll l := by
  induction l with
  | nil => cases h
  | cons x r ih =>
    simp only [Rows.uptoBulkAll]
    rcases List.mem_cons.1 h with rfl | h
    · omega
    · have := ih h; omega
theorem list_choose {X : Type} {n : Nat} {R : Nat → X → Prop} (h : ∀ i, i < n → ∃ x, R i x) : ∃ xs : List X, xs.length = n ∧ ∀ i x, xs[i]? = some x → R i x := by
  induction n with
  | zero => exact ⟨[], rfl, fun i x hx => by simp at hx⟩
  | succ n ih =>
    obtain ⟨xs, h1, h2⟩ := ih fun i hi => h i (by omega)
    obtain ⟨x, hx⟩ := h n (by omega)
    refine ⟨xs ++ [x], by simp [h1], fun i y hy => ?_⟩
    rw [List.getElem?_append] at hy
    split at hy
    · exact h2 i y hy
    · rename_i hlt
      have : i = n := by
        have := (List.getElem?_eq_some_iff.1 hy).1
        simp at this
        omega
      subst this
      simp [h1] at hy
      subst hy; exact hx
theorem sum_le {X Y : Type} {f : X → Nat} {g : Y → Nat} : ∀ (xs : List X) (ys : List Y), xs.length = ys.length → (∀ (i : Nat) x y, xs[i]? = some x → ys[i]? = some y → f x ≤ g y) → (xs.map f).sum ≤ (ys.map g).sum
  | [], [], _, _ => by simp
  | x :: xs, y :: ys, hl, h => by
    have h0 := h 0 x y rfl rfl
    have := sum_le xs ys (by simpa using hl) fun i x' y' hx hy => h (i + 1) x' y' (by simpa using hx) (by simpa using hy)
    simp only [List.map_cons, List.sum_cons]; omega
theorem bulk_sum (l : List (DataW H)) : (l.map Rows.uptoBulk).sum = Rows.uptoBulkAll l := by
  induction l with
  | nil => simp [Rows.uptoBulkAll]
  | cons x r ih => simp only [List.map_cons, List.sum_cons, Rows.uptoBulkAll, ih]
theorem flat_get {sz : Nat} : ∀ (ls : List (List Value)) (_ : ∀ l ∈ ls, l.length = sz) (j : Nat) (v : Value), ls.flatten[j]? = some v → ∃ l, ls[j / sz]? = some l ∧ l[j % sz]? = some v
  | [], _, j, v, h => by simp at h
  | l :: ls, hl, j, v, h => by
    have h1 := hl l (by simp)
    rw [List.flatten_cons] at h
    by_cases hj : j < sz
    · rw [List.getElem?_append_left (by omega)] at h
      exact ⟨l, by rw [Nat.div_eq_of_lt hj]; rfl, by rw [Nat.mod_eq_of_lt hj]; exact h⟩
    · rw [List.getElem?_append_right (by omega), h1] at h
      obtain ⟨l', e1, e2⟩ := flat_get ls (fun l hm => hl l (by simp [hm])) _ v h
      rcases Nat.eq_zero_or_pos sz with h0 | h0
      · subst h0
        have := (List.getElem?_eq_some_iff.1 e2).1
        have hh := hl l' (List.mem_cons_of_mem _ (List.mem_of_getElem? e1))
        omega
      · refine ⟨l', ?_, ?_⟩
        · rw [Nat.div_eq_sub_div h0 (by omega), List.getElem?_cons_succ]; exact e1
        · rw [Nat.mod_eq_sub_mod (by omega)]; exact e2
theorem tr_slice {X : Type} (cellsOf : X → List Value) (N : X → Prop) (bulk : X → Nat) {t x sz by_ : Nat} {cs : List Value} {d : DataW H} (ht : dd t = some (.sl x)) (hs : szof x = some (sz, by_))
    (hE : ∀ cs d, Tr enc W x cs d → ∃ y, cs = cellsOf y ∧ N y ∧ bulk y ≤ Rows.uptoBulk d) (h : Tr enc W t cs d) :
    ∃ (a : Option Addr) (n c : Nat) (xs : List X), cs = [.slice a n c] ∧ xs.length = n ∧ n ≤ c ∧ Rd [wh W] a ((xs.map cellsOf).flatten) ∧ (∀ y ∈ xs, N y) ∧ c ≤ Rows.uptoBulk d ∧ (xs.map bulk).sum ≤ Rows.uptoBulk d := by
  obtain ⟨n, ps, h⟩ := h
  obtain ⟨i, g1, g2, g3⟩ := szof_spec hs
  have hcell : P.cellsOf x = sz := by simp [Program.cellsOf, g1, g2]
  rcases DataW.trod_slice (dd_sl ht) h with ⟨rfl, h2⟩ | ⟨a, len, cap, elems, rest, n', rfl, rfl, h2, _, h4, h5, h6, h7, h8, _⟩
  · refine ⟨none, 0, 0, [], rfl, rfl, Nat.le_refl _, rfl, by simp, by omega, by simp⟩
  · simp only [Prod.mk.injEq] at h2
    obtain ⟨rfl, _⟩ := h2
    rw [hcell] at h7
    have each : ∀ i, i < len → ∃ y : X × DataW H, W.cells? 0 (a.add (i * sz)) sz = some (cellsOf y.1) ∧ N y.1 ∧ bulk y.1 ≤ Rows.uptoBulk y.2 ∧ (elems[i]?).map (·.1) = some y.2 := by
      intro i hi
      have hb := h7 i hi
      have he : i < elems.length := by omega
      rw [List.getElem?_eq_getElem he] at hb ⊢
      cases hc : W.cells? 0 (a.add (i * sz)) sz with
      | none => rw [hc] at hb; cases hb
      | some cs =>
        rw [hc] at hb
        simp only [Option.bind_some] at hb
        obtain ⟨y, rfl, hy2, hy3⟩ := hE cs elems[i].1 ⟨n', elems[i].2, hb⟩
        exact ⟨(y, elems[i].1), rfl, hy2, hy3, rfl⟩
    obtain ⟨ys, hl, hy⟩ := list_choose each
    refine ⟨some a, len, cap, ys.map (·.1), rfl, by simp [hl], h4, rd_of fun j v hj => ?_, ?_, ?_, ?_⟩
    · have hlen : ∀ l ∈ (ys.map (·.1)).map cellsOf, l.length = sz := by
        intro l hm
        simp only [List.map_map, List.mem_map, Function.comp] at hm
        obtain ⟨y, hym, rfl⟩ := hm
        obtain ⟨k, hk⟩ := List.getElem?_of_mem hym
        exact (World.cells?_some (hy k y hk).1).2.1
      obtain ⟨l, e1, e2⟩ := flat_get _ hlen j v hj
      simp only [List.map_map, List.getElem?_map, Option.map_eq_some_iff, Function.comp] at e1
      obtain ⟨y, hy1, rfl⟩ := e1
      obtain ⟨_, hcl, hcc⟩ := World.cells?_some (hy _ y hy1).1
      have hlt := (List.getElem?_eq_some_iff.1 e2).1
      have := hcc (j % sz) (by omega)
      rw [e2] at this
      rw [← this]
      congr 1
      have hj2 : j / sz * sz + j % sz = j := Nat.div_add_mod' j sz
      unfold Addr.add
      split <;> split <;> (try split) <;> simp_all <;> omega
    · intro y hm
      simp only [List.mem_map] at hm
      obtain ⟨z, hz, rfl⟩ := hm
      obtain ⟨k, hk⟩ := List.getElem?_of_mem hz
      exact (hy k z hk).2.1
    · have e1 := bulk_len (elems.map (·.1))
      have e2 := bulk_len (rest.map (·.1))
      have e3 := (h8 rfl).1
      simp only [List.length_map] at e1 e2
      simp only [Rows.uptoBulk]; omega
    · have e1 : ((ys.map (·.1)).map bulk).sum ≤ ((elems.map (·.1)).map Rows.uptoBulk).sum := by
        rw [List.map_map]
        refine sum_le ys (elems.map (·.1)) (by simp [hl, h6]) fun i y z hyi hz => ?_
        obtain ⟨_, _, hb, he⟩ := hy i y hyi
        simp only [List.getElem?_map] at hz
        rw [he] at hz
        cases hz
        exact hb
      rw [bulk_sum] at e1
      simp only [Rows.uptoBulk]; omega
theorem tr_max {t x c : Nat} {a : Option Addr} {n : Nat} {cs : List Value} {d : DataW H} (ht : dd t = some (.sl x)) (h : Tr enc W t cs d) (hc : cs = [.slice a n c]) : n ≤ 9223372036854775807 := by
  obtain ⟨m, ps, h⟩ := h
  subst hc
  rcases DataW.trod_slice (dd_sl ht) h with ⟨h1, h2⟩ | ⟨a', len, cap, elems, rest, n', h0, h1, h2, _, h4, h5, _⟩
  · cases h1; omega
  · cases h1
    unfold maxLen at h5
    omega
theorem le_sum {X : Type} (f : X → Nat) {y : X} : ∀ {xs : List X}, y ∈ xs → f y ≤ (xs.map f).sum
  | [], h => by cases h
  | x :: xs, h => by
    simp only [List.map_cons, List.sum_cons]
    rcases List.mem_cons.1 h with rfl | h
    · omega
    · have := le_sum f h; omega
theorem tr_struct {t : TypeId} {fs : List (Nat × Nat)} {sz by_ : Nat} {cs : List Value} {d : DataW H} (ht : dd t = some (.struct fs)) (hs : szof t = some (sz, by_)) (h : Tr enc W t cs d) :
    ∃ ds : List (DataW H), ds.length = fs.length ∧ cs.length = sz ∧ Rows.uptoBulk d = Rows.uptoBulkAll ds + 1 ∧
      ∀ (i off ft z b : Nat), fs[i]? = some (off, ft) → szof ft = some (z, b) → ∃ y, ds[i]? = some y ∧ Tr enc W ft ((cs.drop off).take z) y := by
  obtain ⟨n, ps, h⟩ := h
  unfold dd at ht
  cases hti : ti t with
  | none => rw [hti] at ht; cases ht
  | some x =>
    rw [hti] at ht
    obtain ⟨i, de, h1, h2, h3, h4, h5⟩ := ti_spec hti
    cases x with
    | mk s b dx =>
      simp only [Option.map_some, Option.some.injEq] at ht
      simp only at h3 h4 h5
      subst ht
      cases de <;> simp only [dOf] at h5 <;> try (cases h5; done)
      rename_i gs
      simp only [D.struct.injEq] at h5
      obtain ⟨xs, n', rfl, hx, hl, hlen, hf⟩ := DataW.trod_struct h2 h
      obtain ⟨i', g1, g2, g3⟩ := szof_spec hs
      have hcell : P.cellsOf t = sz := by simp [Program.cellsOf, g1, g2]
      simp only [Prod.mk.injEq] at hx
      obtain ⟨rfl, _⟩ := hx
      refine ⟨xs.map (·.1), by simp [hlen, ← h5], by rw [hl, hcell], by simp [Rows.uptoBulk], fun j off ft z bb hj hz => ?_⟩
      rw [← h5, List.getElem?_map] at hj
      obtain ⟨f, hf1, hf2⟩ := Option.map_eq_some_iff.1 hj
      simp only [Prod.mk.injEq] at hf2
      obtain ⟨rfl, rfl⟩ := hf2
      have hff := hf j f (by simpa using hf1)
      obtain ⟨i2, k1, k2, k3⟩ := szof_spec hz
      have hcell2 : P.cellsOf f.type = z := by simp [Program.cellsOf, k1, k2]
      rw [hcell2] at hff
      have hjl : j < xs.length := by
        have := (List.getElem?_eq_some_iff.1 hf1).1
        simp at this; omega
      rw [List.getElem?_eq_getElem hjl] at hff
      exact ⟨xs[j].1, by simp [hjl], n', xs[j].2, hff⟩
theorem tr_bytes {t x by_ : Nat} {cs : List Value} {d : DataW H} (ht : dd t = some (.sl x)) (hx : dd x = some (.int .u8)) (hs : szof x = some (1, by_)) (h : Tr enc W t cs d) :
    ∃ (a : Option Addr) (c : Nat) (l : List UInt8), cs = [.slice a l.length c] ∧ l.length ≤ c ∧ RdB [wh W] a l ∧ c ≤ Rows.uptoBulk d := by
  obtain ⟨a, n, c, xs, rfl, h1, h2, h3, h4, h5, h6⟩ := tr_slice (X := Int) (fun m => [.int .u8 m]) (fun m => inR .u8 m) (fun _ => 0) ht hs (fun cs d h => by
    obtain ⟨m, h1, h2⟩ := tr_int hx h
    exact ⟨m, h1, h2, Nat.zero_le _⟩) h
  have e1 : (xs.map fun m => [Value.int .u8 m]).flatten = u8 (xs.map fun m => UInt8.ofNat m.toNat) := by
    clear h1 h3 h6
    induction xs with
    | nil => rfl
    | cons m r ih =>
      have hm := h4 m (by simp)
      obtain ⟨p, q⟩ := hm
      simp only [IntKind.min, IntKind.max, IntKind.signed, IntKind.bits] at p q
      simp at p q
      have e2 : ((UInt8.ofNat m.toNat).toNat : Int) = m := by
        rw [UInt8.toNat_ofNat']; omega
      simp only [List.map_cons, List.flatten_cons, List.singleton_append, u8, e2]
      have := ih (fun y hy => h4 y (by simp [hy]))
      simp only [u8] at this
      rw [this]
  rw [e1] at h3
  exact ⟨a, c, _, by simp [h1], by simpa [h1] using h2, h3, h5⟩
/-- the arguments one by one -/
theorem tr_cons {t : TypeId} {ts : List TypeId} {vs : List Value} {ds : List (DataW H)} {ps : List MemPlace} (h : DataW.TrodAll enc P W 0 (fun _ => true) true (t :: ts) vs ds ps) :
    ∃ v vs' d ds' q, vs = v :: vs' ∧ ds = d :: ds' ∧ Tr enc W t v.cells.toList d ∧ DataW.TrodAll enc P W 0 (fun _ => true) true ts vs' ds' q := by
  obtain ⟨v, vs', d, ds', p, q, h1, h2, _, ⟨n, h3⟩, h4⟩ := trodAll_cons h
  exact ⟨v, vs', d, ds', q, h1, h2, ⟨n, p, h3⟩, h4⟩
theorem tr_nil {vs : List Value} {ds : List (DataW H)} {ps : List MemPlace} (h : DataW.TrodAll enc P W 0 (fun _ => true) true [] vs ds ps) : vs = [] ∧ ds = [] := by
  cases vs <;> cases ds <;> simp_all [DataW.TrodAll]
theorem args_stay {W' : World} (hl : laidOutB P = true) (hb : Below W.heap.size W W') {sp : Nat → Bool} : ∀ (ts : List TypeId) (vs : List Value) (ds : List (DataW H)) (ps : List MemPlace), (∀ t ∈ ts, P.readableRec t = true ∧ t < P.types.size) →
    (∀ x ∈ ps, x.block < W.heap.size) → (∀ x ∈ ps, sp x.block = true) → DataW.TrodAll enc P W 0 (fun _ => true) true ts vs ds ps → DataW.TrodAll enc P W' 0 sp true ts vs ds ps
  | [], vs, ds, ps, _, _, _, h => by
    cases vs <;> cases ds <;> simp_all [DataW.TrodAll]
  | t :: ts, vs, ds, ps, hr, hlt, hsp, h => by
    obtain ⟨v, vs', d, ds', p, q, rfl, rfl, rfl, h3, h4⟩ := trodAll_cons h
    have r := hr t (by simp)
    refine ⟨p, q, ?_, args_stay hl hb ts vs' ds' q (fun t ht => hr t (by simp [ht])) (fun x hx => hlt x (by simp [hx])) (fun x hx => hsp x (by simp [hx])) h4, rfl⟩
    exact WideElems.Trod_stays hl r.1 r.2 h3 (fun x hx => hb.same (hlt x (by simp [hx]))) (fun x hx => hsp x (by simp [hx]))
/-- what the law's row asks behind the call -/
theorem law_post {f : Func} {s : ChangeSpec} {tb : TypeId} (hl : laidOutB P = true) (hv : s.vars = []) (hres : f.resultTypes = #[tb]) (htb : dd tb = some .bool)
    (hfn : ∀ ds : List (DataW H), ds.length = f.params.size → s.fn H ds = { results := [.lit (.bool true)], args := ds }) (hread : ∀ t ∈ f.params.toList, P.readableRec t = true ∧ t < P.types.size)
    {args : Array Value} {ds gs : List (DataW H)} {before : List MemPlace} (hW : DataW.Whole enc P f.params.toList s.vars false W args.toList ds gs before) {W' : World} (hb : Below W.heap.size W W') :
    s.post enc P f false true false false W args (.bool true) W' := by
  have hW0 := hW
  have hlt : ∀ p ∈ before, p.block < W.heap.size := fun p hp => hW.lt p hp
  obtain ⟨p, q, hA, hV, rfl, hz, hn⟩ := hW
  rw [hv] at hV
  have hV' : gs = [] ∧ q = [] := by cases gs <;> simp_all [DataW.TrodVars]
  obtain ⟨rfl, rfl⟩ := hV'
  simp only [List.append_nil] at hlt hz hn
  have hlen : ds.length = f.params.size := by
    have : ∀ (ts : List TypeId) (vs : List Value) (ds : List (DataW H)) (ps : List MemPlace), DataW.TrodAll enc P W 0 (fun _ => true) true ts vs ds ps → ds.length = ts.length := by
      intro ts
      induction ts with
      | nil => intro vs ds ps h; rw [(tr_nil h).2]; rfl
      | cons t ts ih =>
        intro vs ds ps h
        obtain ⟨v, vs', d, ds', q, rfl, rfl, _, h4⟩ := tr_cons h
        simp [ih _ _ _ h4]
    have := this _ _ _ _ hA
    simpa using this
  have hfn' := hfn ds hlen
  have hold : ∀ x ∈ p, (fun b => decide (b < W.heap.size)) x.block = true := fun x hx => by simpa using hlt x hx
  have hstay : ∀ sp : Nat → Bool, (∀ x ∈ p, sp x.block = true) → DataW.TrodAll enc P W' 0 sp true f.params.toList args.toList ds p := fun sp hsp => args_stay hl hb _ _ _ _ hread hlt hsp hA
  have hr : ∀ (b : Nat) (sp : Nat → Bool) (hd : Bool), DataW.TrodAll enc P W' b sp hd f.resultTypes.toList ((Value.bool true).resultList f.resultTypes.size) [.lit (.bool true)] [] := by
    intro b sp hd
    rw [hres]
    exact trodAll_cons_mk (shut_bool (dd_bool htb) _) trodAll_mk0
  refine ⟨ds, [], p ++ [], [], p, [], hW0, ?_, ?_, ?_, World.keptBut_mono (fun x hx => ⟨hx, ?_⟩) (hb.frame (· ∈ p ++ [])), fun _ => ?_⟩
  · rw [List.append_nil, hfn']; exact hr _ _ _
  · rw [List.append_nil, hfn']; exact hstay _ hold
  · rw [List.append_nil, hfn', hv]; rfl
  · simpa using hx
  · refine ⟨?_, [.lit (.bool true)] ++ ds, [], ([] ++ p) ++ [], ⟨[] ++ p, [], trodAll_append (hstay (fun _ => true) (fun _ _ => rfl)) (hr 0 (fun _ => true) true), ?_, rfl, ?_, ?_⟩, ?_⟩
    · exact ok_one hres rfl (okWide_bool_mk (dd_bool htb) _)
    · rw [hv]; rfl
    · intro b off hp
      have hin : MemPlace.cell b off ∈ p := by simpa using hp
      rw [hb.frozen (hlt _ hin)]
      exact hz b off hin
    · intro ha; simpa using hn ha
    · intro x hx _; simpa using hx
theorem law_post' {f : Func} {s : ChangeSpec} {tb : TypeId} (hl : laidOutB P = true) (hv : s.vars = []) (hres : f.resultTypes = #[tb]) (htb : dd tb = some .bool)
    (hfn : ∀ ds : List (DataW H), ds.length = f.params.size → s.fn H ds = { results := [.lit (.bool true)], args := ds }) (hread : (f.params.toList.all fun t => P.readableRec t && decide (t < P.types.size)) = true)
    {args : Array Value} {ds gs : List (DataW H)} {before : List MemPlace} (hW : DataW.Whole enc P f.params.toList s.vars false W args.toList ds gs before) {W' : World} (hb : Below W.heap.size W W') :
    s.post enc P f false true false false W args (.bool true) W' :=
  law_post hl hv hres htb hfn (fun t ht => by simpa using (List.all_eq_true.1 hread) t ht) hW hb
theorem val_int {base : Nat} {t : TypeId} {k : IntKind} {v x : Value} (ht : dd t = some (.int k)) (ho : Value.okWide P W .any base t v) (h : v.cells.toList = [x]) : v = x := by
  obtain ⟨n, rfl⟩ := okWide_int (dd_int ht) ho
  simpa [Value.cells] using h
theorem val_slice {base : Nat} {t y : TypeId} {v x : Value} (ht : dd t = some (.sl y)) (ho : Value.okWide P W .any base t v) (h : v.cells.toList = [x]) : v = x := by
  obtain ⟨a, l, c, rfl⟩ := okWide_slice (dd_sl ht) ho
  simpa [Value.cells] using h
theorem val_str {base : Nat} {t : TypeId} {v x : Value} (ht : dd t = some .str) (ho : Value.okWide P W .any base t v) (h : v.cells.toList = [x]) : v = x := by
  obtain ⟨s, rfl⟩ := okWide_string (dd_str ht) ho
  simpa [Value.cells] using h
theorem val_bool {base : Nat} {t : TypeId} {v x : Value} (ht : dd t = some .bool) (ho : Value.okWide P W .any base t v) (h : v.cells.toList = [x]) : v = x := by
  simp only [Value.okWide, dd_bool ht, Cell.okWide] at ho
  cases v <;> simp_all [Cell.ok, Value.cells]
theorem val_struct {base : Nat} {t : TypeId} {fs : List (Nat × Nat)} {v : Value} {l : List Value} (ht : dd t = some (.struct fs)) (ho : Value.okWide P W .any base t v) (h : v.cells.toList = l) : v = .agg l.toArray := by
  unfold dd at ht
  cases hti : ti t with
  | none => rw [hti] at ht; cases ht
  | some x =>
    rw [hti] at ht
    obtain ⟨i, de, h1, h2, h3, h4, h5⟩ := ti_spec hti
    cases x with
    | mk s b dx =>
      simp only [Option.map_some, Option.some.injEq] at ht
      subst ht
      cases de <;> simp only [dOf] at h5 <;> try (cases h5; done)
      simp only [Value.okWide, h2] at ho
      obtain ⟨cs, rfl, _⟩ := ho
      simp only [Value.cells] at h
      subst h
      simp
end
end Go.Proofs.YtiabhghlhnnnjaaGreatDoor.Lift
