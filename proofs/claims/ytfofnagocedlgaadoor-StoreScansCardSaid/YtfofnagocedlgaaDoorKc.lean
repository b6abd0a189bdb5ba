/- The texts Op Op2 Op3, laid together. -/
import Derived.Laws.Concat
import Derived.Laws.Strings2
import Derived.Laws.BytesArg
import Derived.Test.YtfofnagocedlgaaDoorKb
section
/-
  THE SECOND LAYER's RULES, operation by operation.
-/
set_option maxRecDepth 100000
set_option linter.unusedVariables false
set_option linter.unusedSimpArgs false
namespace Go.Proofs.YtfofnagocedlgaaDoor.Sl
open Go Sh

/-- in every world that holds 'ctx' the operation leaves the world alone and gives 'v' -/
def Still (e : Env) (ctx : List HProp) (s : Sem Next) (v : Value) : Prop := ∀ w, Sat e (sepL ctx) w → s.run P w = .ok (.value v) w

section
variable {e : Env} {ctx ctx' R : List HProp}
theorem Ent.opR {s : Sem Next} {v : Value} {c : Value → WP} (hs : Still e ctx s v) (h : Ent e ctx (c v)) : Ent e ctx (OpK P (.one .raw) s c) := fun w hw => by
  show NextK P s _ w; unfold NextK; rw [hs w hw]; exact ⟨v, rfl, h w hw⟩
theorem Ent.opI {s : Sem Next} {k : IntKind} {n : Int} {c : Int → WP} (hs : Still e ctx s (.int k n)) (h : Ent e ctx (c n)) : Ent e ctx (OpK P (.one (.int k)) s c) := fun w hw => by
  show NextK P s _ w; unfold NextK; rw [hs w hw]; exact ⟨n, rfl, h w hw⟩
theorem Ent.opB {s : Sem Next} {b : Bool} {c : Bool → WP} (hs : Still e ctx s (.bool b)) (h : Ent e ctx (c b)) : Ent e ctx (OpK P (.one .bool) s c) := fun w hw => by
  show NextK P s _ w; unfold NextK; rw [hs w hw]; exact ⟨b, rfl, h w hw⟩
theorem Ent.opS {s : Sem Next} {b : ByteArray} {c : ByteArray → WP} (hs : Still e ctx s (.string b)) (h : Ent e ctx (c b)) : Ent e ctx (OpK P (.one .str) s c) := fun w hw => by
  show NextK P s _ w; unfold NextK; rw [hs w hw]; exact ⟨b, rfl, h w hw⟩
theorem Ent.stR {s : Sem Next} {v : Value} {c : Value → WP} (hs : Still e R s v) (h : Ent e ctx (c v)) : Ent e ctx (StK P (Sat e (sepL R)) (.one .raw) s c) := fun w hw =>
  ⟨v, hs, v, rfl, h w hw⟩
theorem Ent.stI {s : Sem Next} {k : IntKind} {n : Int} {c : Int → WP} (hs : Still e R s (.int k n)) (h : Ent e ctx (c n)) : Ent e ctx (StK P (Sat e (sepL R)) (.one (.int k)) s c) := fun w hw =>
  ⟨_, hs, n, rfl, h w hw⟩
theorem Ent.stB {s : Sem Next} {b : Bool} {c : Bool → WP} (hs : Still e R s (.bool b)) (h : Ent e ctx (c b)) : Ent e ctx (StK P (Sat e (sepL R)) (.one .bool) s c) := fun w hw =>
  ⟨_, hs, b, rfl, h w hw⟩
theorem Ent.stS {s : Sem Next} {b : ByteArray} {c : ByteArray → WP} (hs : Still e R s (.string b)) (h : Ent e ctx (c b)) : Ent e ctx (StK P (Sat e (sepL R)) (.one .str) s c) := fun w hw =>
  ⟨_, hs, b, rfl, h w hw⟩
/-- in every world the operation gives 'v' -/
def Pu (s : Sem Next) (v : Value) : Prop := ∀ w, s.run P w = .ok (.value v) w
theorem Pu.still {s : Sem Next} {v : Value} (h : Pu s v) : Still e ctx s v := fun w _ => h w
theorem Ent.puR {s : Sem Next} {v : Value} {c : Value → WP} (hs : Pu s v) (h : Ent e ctx (c v)) : Ent e ctx (PuK P (.one .raw) s c) := fun w hw => ⟨v, hs, v, rfl, h w hw⟩
theorem Ent.puI {s : Sem Next} {k : IntKind} {n : Int} {c : Int → WP} (hs : Pu s (.int k n)) (h : Ent e ctx (c n)) : Ent e ctx (PuK P (.one (.int k)) s c) := fun w hw => ⟨_, hs, n, rfl, h w hw⟩
theorem Ent.puB {s : Sem Next} {b : Bool} {c : Bool → WP} (hs : Pu s (.bool b)) (h : Ent e ctx (c b)) : Ent e ctx (PuK P (.one .bool) s c) := fun w hw => ⟨_, hs, b, rfl, h w hw⟩
theorem Ent.puS {s : Sem Next} {b : ByteArray} {c : ByteArray → WP} (hs : Pu s (.string b)) (h : Ent e ctx (c b)) : Ent e ctx (PuK P (.one .str) s c) := fun w hw => ⟨_, hs, b, rfl, h w hw⟩
/-- an operation that turns the world -/
theorem Ent.act {r : RK} {s : Sem Next} {c : r.A} (h : ∀ w, Sat e (sepL ctx) w → ∃ v w', (s.run P w = .ok (.value v) w' ∨ s.run P w = .ok .skip w' ∧ v = undef) ∧ tyR r c v w') : Ent e ctx (OpK P r s c) := fun w hw => by
  obtain ⟨v, w', hr, hc⟩ := h w hw
  show NextK P s _ w
  unfold NextK
  rcases hr with hr | ⟨hr, rfl⟩ <;> rw [hr] <;> exact hc

theorem run_vS {s : Sem Value} {v : Value} {w w' : World} (h : s.run P w = .ok v w') : (vS s).run P w = .ok (.value v) w' := by simp [vS, h]
theorem run_uS {s : Sem Unit} {w w' : World} (h : s.run P w = .ok () w') : (uS s).run P w = .ok .skip w' := by simp [uS, h]
theorem Still.of_run {s : Sem Value} {v : Value} (h : ∀ w, s.run P w = .ok v w) : Pu (vS s) v := fun w => run_vS (h w)

/-! types -/
theorem ti_spec {t : TypeId} {x : TI} (h : ti t = some x) : ∃ i d, P.info? t = some i ∧ P.underlying t = some d ∧ i.size = x.size ∧ i.bytes = x.bytes ∧ dOf d = x.d := tiOf_spec (lookTI_ok tab_ok h)
theorem zro_spec {t : TypeId} {z : List Value} (h : zro t = some z) : ∃ i v, P.info? t = some i ∧ i.zero = some v ∧ v.cells.toList = z := by
  have := lookTI_ok ztab_ok h
  unfold zeroOf at this
  cases hi : P.info? t with
  | none => simp [hi] at this
  | some i =>
    simp only [hi, Option.bind_some, Option.map_eq_some_iff] at this
    obtain ⟨v, hv, hz⟩ := this
    exact ⟨i, v, rfl, hv, hz⟩
theorem run_sizeOf' {t : TypeId} {i : TypeInfo} (h : P.info? t = some i) (w : World) : (sizeOf t).run P w = .ok i.size w := by simp [sizeOf, typeInfo, h]
theorem run_zero {t : TypeId} {i : TypeInfo} {v : Value} (h : P.info? t = some i) (hz : i.zero = some v) (w : World) : (zeroValue t).run P w = .ok v w := by simp [zeroValue, typeInfo, h, hz]
/-- a type of one cell -/
def sc (t : TypeId) : Bool := match ti t with
  | some ⟨1, _, .struct _⟩ => false
  | some ⟨1, _, .arr _ _⟩ => false
  | some ⟨1, _, _⟩ => true
  | _ => false
/-- a type of several cells: how many -/
def ag (t : TypeId) : Option Nat := match ti t with
  | some ⟨n, _, .struct _⟩ => some n
  | some ⟨n, _, .arr _ _⟩ => some n
  | _ => none
theorem sc_spec {t : TypeId} (h : sc t = true) : ∃ i d, P.info? t = some i ∧ P.underlying t = some d ∧ i.size = 1 ∧ ∀ w, (isAgg t).run P w = .ok false w := by
  unfold sc at h
  cases hx : ti t with
  | none => simp [hx] at h
  | some x =>
    obtain ⟨i, d, h1, h2, h3, h4, h5⟩ := ti_spec hx
    obtain ⟨n, b, dd⟩ := x
    simp only [hx] at h
    refine ⟨i, d, h1, h2, ?_, fun w => ?_⟩
    · split at h <;> simp_all
    · simp only at h5
      simp only [isAgg, Sem.run_bind, run_underlying h2, Result.andThen_ok]
      cases d <;> first | rfl | (exfalso; simp only [dOf] at h5; subst h5; split at h <;> first | (cases h; done) | (rename_i heq; simp only [Option.some.injEq, TI.mk.injEq] at heq; obtain ⟨_, _, rfl⟩ := heq; simp_all) | simp_all)
theorem ag_spec {t : TypeId} {n : Nat} (h : ag t = some n) : ∃ i d, P.info? t = some i ∧ P.underlying t = some d ∧ i.size = n ∧ ∀ w, (isAgg t).run P w = .ok true w := by
  unfold ag at h
  cases hx : ti t with
  | none => simp [hx] at h
  | some x =>
    obtain ⟨i, d, h1, h2, h3, h4, h5⟩ := ti_spec hx
    obtain ⟨m, b, dd⟩ := x
    simp only [hx] at h
    refine ⟨i, d, h1, h2, ?_, fun w => ?_⟩
    · split at h <;> simp_all
    · simp only at h5
      simp only [isAgg, Sem.run_bind, run_underlying h2, Result.andThen_ok]
      cases d <;> simp only [dOf] at h5 <;> first | rfl | (subst h5; simp at h)
/-- a field's place in a struct -/
def fld (t f : Nat) : Option Nat := match ti t with
  | some ⟨_, _, .struct fs⟩ => match fs[f]? with
    | some (off, ft) => match ti ft with
      | some ⟨n + 1, _, _⟩ => some off
      | _ => none
    | none => none
  | _ => none
theorem run_field {t f off : Nat} (h : fld t f = some off) (b o : Nat) (w : World) : (Instr.fieldAt t (.pointer (some ⟨b, o, none⟩)) f).run P w = .ok (.pointer (some ⟨b, o + off, none⟩)) w := by
  unfold fld at h
  split at h
  · rename_i sz by_ fs hx
    obtain ⟨i, d, h1, h2, h3, h4, h5⟩ := ti_spec hx
    simp only at h5
    cases d <;> simp only [dOf] at h5 <;> try (cases h5)
    rename_i fields
    cases hf : fields[f]? with
    | none => simp [hf] at h
    | some fd =>
      have e : (fields.toList.map fun f => (f.offset, f.type))[f]? = some (fd.offset, fd.type) := by simp [hf]
      rw [e] at h
      simp only at h
      split at h
      · rename_i n b' d' hft
        cases h
        obtain ⟨i', d', h1', _, h3', _, _⟩ := ti_spec hft
        have hs : i'.size ≠ 0 := by rw [h3']; simp
        simp [Instr.fieldAt, run_underlying h2, hf, Instr.sureAddr, fieldPlace, run_sizeOf' h1', hs, Addr.add_lit]
      · cases h
  · cases h
theorem st_field {t f off b o : Nat} (h : fld t f = some off) : Pu (vS (Instr.fieldAt t (.pointer (some ⟨b, o, none⟩)) f)) (.pointer (some ⟨b, o + off, none⟩)) := Still.of_run (run_field h b o)

/-! reading and writing cells -/
theorem cell_pt {b off : Nat} {l : List Value} {v : Value} {w : World} (hh : Has ctx (pt b l)) (hv : l[off]? = some v) (hw : Sat e (sepL ctx) w) : w.cell? ⟨b, off, none⟩ = some v := by
  obtain ⟨T, fr, hb, hf⟩ := hh.pt hw
  simp [World.cell?, hb, hv]
theorem st_load {t b off : Nat} {l : List Value} {v : Value} (hh : Has ctx (pt b l)) (ht : sc t = true) (hv : l[off]? = some v) : Still e ctx (vS (Instr.loadAt t (.pointer (some ⟨b, off, none⟩)))) v := fun w hw => by
  obtain ⟨i, d, h1, h2, h3, h4⟩ := sc_spec ht
  refine run_vS ?_
  simp [Instr.loadAt, Instr.sureAddr, loadVar, h4, cell_pt hh hv hw]
theorem run_loadCells_at {b off : Nat} {w : World} {cs : List Value} (h : ∀ j v, cs[j]? = some v → w.cell? ⟨b, off + j, none⟩ = some v) : (loadCells ⟨b, off, none⟩ cs.length).run P w = .ok cs.toArray w :=
  run_loadCells_list (P := P) w ⟨b, off, none⟩ cs (fun j v hv => by rw [Addr.add_lit]; exact h j v hv)
theorem st_loadA {t b off n : Nat} {l : List Value} {cs : List Value} (hh : Has ctx (pt b l)) (ht : ag t = some n) (hv : (l.drop off).take n = cs) (hn : cs.length = n) :
    Still e ctx (vS (Instr.loadAt t (.pointer (some ⟨b, off, none⟩)))) (.agg cs.toArray) := fun w hw => by
  obtain ⟨i, d, h1, h2, h3, h4⟩ := ag_spec ht
  refine run_vS ?_
  have hl : (loadCells ⟨b, off, none⟩ cs.length).run P w = .ok cs.toArray w := run_loadCells_at fun j v hj => by
    refine cell_pt hh ?_ hw
    rw [← hv, List.getElem?_take] at hj
    split at hj
    · rwa [List.getElem?_drop] at hj
    · cases hj
  rw [hn] at hl
  simp [Instr.loadAt, Instr.sureAddr, loadVar, h4, run_sizeOf' h1, h3, hl]
theorem run_storeCells_pt {b off : Nat} : ∀ (vs : List Value) (i : Nat) (l : List Value) (ctx : List HProp) (w : World), off + i + vs.length ≤ l.length → (∀ v ∈ vs, v.oneCell' = true) → Sat e (sepL (pt b l :: ctx)) w →
    ∃ w', (storeCells ⟨b, off, none⟩ vs i).run P w = .ok () w' ∧ Sat e (sepL (pt b (l.take (off + i) ++ vs ++ l.drop (off + i + vs.length)) :: ctx)) w'
  | [], i, l, ctx, w, hl, _, hw => ⟨w, rfl, by simpa using hw⟩
  | v :: vs, i, l, ctx, w, hl, h1, hw => by
    simp only [List.length_cons] at hl
    obtain ⟨T, fr, hb, hf⟩ := Has.pt .hd hw
    have hlt : off + i < l.length := by omega
    have hc : w.cell? ⟨b, off + i, none⟩ = some l[off + i] := by simp [World.cell?, hb, hlt]
    have hz : w.frozen? ⟨b, off + i, none⟩ = false := by
      have := hf _ hlt
      simp only [World.frozen?, hb]
      simp only [Bool.and_eq_false_iff, decide_eq_false_iff_not]
      by_cases h : fr.1 ≤ off + i
      · exact .inr fun k => this ⟨h, k⟩
      · exact .inl h
    have hst : (store (Addr.add ⟨b, off, none⟩ i) v).run P w = .ok () (w.setCell ⟨b, off + i, none⟩ v) := by
      rw [run_store P w _ v .plain (h1 v (by simp)), Addr.add_lit, hc, hz]; rfl
    have hrow : w.setCell ⟨b, off + i, none⟩ v = w.setRow b (l.set (off + i) v).toArray := by
      rw [setCell_eq_setRow w b (off + i) l.toArray T fr v hb]
      congr 1
      simp [hlt]
    have hw2 : Sat e (sepL (pt b (l.set (off + i) v) :: ctx)) (w.setRow b (l.set (off + i) v).toArray) := Sat.setRow (by simp) hw
    obtain ⟨w', hr, hs⟩ := run_storeCells_pt (off := off) vs (i + 1) (l.set (off + i) v) ctx _ (by simp; omega) (fun u hu => h1 u (by simp [hu])) hw2
    refine ⟨w', ?_, ?_⟩
    · simp only [storeCells, Sem.run_bind, hst, Result.andThen_ok, hrow]
      exact hr
    · have el : (l.set (off + i) v).take (off + (i + 1)) ++ vs ++ (l.set (off + i) v).drop (off + (i + 1) + vs.length) = l.take (off + i) ++ (v :: vs) ++ l.drop (off + i + (vs.length + 1)) := by
        have e1 : (l.set (off + i) v).take (off + (i + 1)) = l.take (off + i) ++ [v] := by
          rw [show off + (i + 1) = (off + i) + 1 by omega, List.take_succ_eq_append_getElem (by simpa using hlt)]
          simp
          exact List.take_set_of_le (Nat.le_refl _)
        have e2 : (l.set (off + i) v).drop (off + (i + 1) + vs.length) = l.drop (off + i + (vs.length + 1)) := by
          rw [List.drop_set_of_lt (by omega)]
          congr 1; omega
        rw [e1, e2]; simp
      rw [el] at hs
      simpa using hs
/-- a value of one cell -/
def one (v : Value) : Bool := v.oneCell'
theorem one_cells {v : Value} (h : one v = true) : v.cells = #[v] := by cases v <;> simp_all [one, Value.oneCell', Value.cells]
theorem Ent.store {t b off : Nat} {l : List Value} {v : Value} {c : Value → WP} (hu : Upd ctx (pt b l) (pt b (l.set off v)) ctx') (ht : sc t = true) (hv : one v = true) (ho : off < l.length)
    (h : Ent e ctx' (c undef)) : Ent e ctx (OpK P (.one .raw) (uS (Instr.storeAt t (.pointer (some ⟨b, off, none⟩)) v)) c) := Ent.act fun w hw => by
  obtain ⟨s, hp, hq⟩ := hu.pick
  obtain ⟨i, d, h1, h2, h3, h4⟩ := sc_spec ht
  obtain ⟨w', hr, hs⟩ := run_storeCells_pt (b := b) (off := off) [v] 0 l s w (by simp; omega) (by simpa [one] using hv) (hw.imp (sepL_perm hp.perm))
  refine ⟨undef, w', .inr ⟨run_uS ?_, rfl⟩, undef, rfl, h w' (hs.imp ?_)⟩
  · have hc := one_cells hv
    simp [Instr.storeAt, Instr.sureAddr, storeVar, run_sizeOf' h1, h3, hc, hr]
  · intro x k
    refine sepL_perm hq.symm x ?_
    have : l.set off v = l.take (off + 0) ++ [v] ++ l.drop (off + 0 + [v].length) := by
      simp [List.set_eq_take_append_cons_drop, ho]
    rw [this]; exact k
theorem Ent.storeA {t b off n : Nat} {l : List Value} {vs : List Value} {c : Value → WP} (hu : Upd ctx (pt b l) (pt b (l.take off ++ vs ++ l.drop (off + vs.length))) ctx') (ht : ag t = some n) (hv : vs.all one = true) (hn : vs.length = n)
    (ho : off + n ≤ l.length) (h : Ent e ctx' (c undef)) : Ent e ctx (OpK P (.one .raw) (uS (Instr.storeAt t (.pointer (some ⟨b, off, none⟩)) (.agg vs.toArray))) c) := Ent.act fun w hw => by
  obtain ⟨s, hp, hq⟩ := hu.pick
  obtain ⟨i, d, h1, h2, h3, h4⟩ := ag_spec ht
  obtain ⟨w', hr, hs⟩ := run_storeCells_pt (b := b) (off := off) vs 0 l s w (by omega) (fun v hm => List.all_eq_true.1 hv v hm) (hw.imp (sepL_perm hp.perm))
  refine ⟨undef, w', .inr ⟨run_uS ?_, rfl⟩, undef, rfl, h w' (hs.imp ?_)⟩
  · simp [Instr.storeAt, Instr.sureAddr, storeVar, run_sizeOf' h1, h3, Value.cells, hn, hr]
  · intro x k; exact sepL_perm hq.symm x k
/-! new blocks -/
theorem Ent.box {t : Nat} {v : Value} {l : List Value} {c : Value → WP} (hl : v.cells.toList = l) (h : ∀ b, Ent e (pt b l :: ctx) (c (.pointer (some ⟨b, 0, none⟩)))) : Ent e ctx (OpK P (.one .raw) (vS (Instr.box t v)) c) := Ent.act fun w hw => by
  subst hl
  refine ⟨.pointer (some ⟨w.heap.size, 0, none⟩), w.alloc (.cells v.cells t), .inl (run_vS ?_), _, rfl, h w.heap.size _ ?_⟩
  · rfl
  · have := hw.new v.cells.toList t
    simpa using this
theorem Ent.alloc {t : Nat} {l : List Value} {c : Value → WP} (hl : zro t = some l) (h : ∀ b, Ent e (pt b l :: ctx) (c (.pointer (some ⟨b, 0, none⟩)))) : Ent e ctx (OpK P (.one .raw) (vS (Instr.alloc t true (.tuple #[]))) c) := Ent.act fun w hw => by
  obtain ⟨i, v, h1, h2, rfl⟩ := zro_spec hl
  refine ⟨.pointer (some ⟨w.heap.size, 0, none⟩), w.alloc (.cells v.cells t), .inl (run_vS ?_), _, rfl, h w.heap.size _ ?_⟩
  · simp only [Instr.alloc, Sem.run_bind, run_zero h1 h2, Result.andThen_ok]
    rfl
  · have := hw.new v.cells.toList t
    simpa using this
/-! ## reckoning -/
theorem guard_ptr (op : BinOp) (t : TypeId) (x y : Operand) (a b : Option Addr) (w : World) : (eqGuard op t x y (.pointer a) (.pointer b)).run P w = .ok () w := by
  unfold eqGuard; split <;> rfl
theorem guard_slice (op : BinOp) (t : TypeId) (x y : Operand) (a b : Option Addr) (n m c d : Nat) (w : World) : (eqGuard op t x y (.slice a n c) (.slice b m d)).run P w = .ok () w := by
  unfold eqGuard; split <;> rfl
theorem guard_int (op : BinOp) (t : TypeId) (x y : Operand) (k k' : IntKind) (a b : Int) (w : World) : (eqGuard op t x y (.int k a) (.int k' b)).run P w = .ok () w := by
  unfold eqGuard; split <;> rfl
theorem guard_str (op : BinOp) (t : TypeId) (x y : Operand) (a b : ByteArray) (w : World) : (eqGuard op t x y (.string a) (.string b)).run P w = .ok () w := by
  unfold eqGuard; split <;> rfl
theorem guard_bool (op : BinOp) (t : TypeId) (x y : Operand) (a b : Bool) (w : World) : (eqGuard op t x y (.bool a) (.bool b)).run P w = .ok () w := by
  unfold eqGuard; split <;> rfl
theorem guard_map (op : BinOp) (t : TypeId) (x y : Operand) (a b : Option Nat) (w : World) : (eqGuard op t x y (.map a) (.map b)).run P w = .ok () w := by
  unfold eqGuard; split <;> rfl
theorem guard_flt (op : BinOp) (t : TypeId) (x y : Operand) (k k' : FloatKind) (a b : Nat) (w : World) : (eqGuard op t x y (.float k a) (.float k' b)).run P w = .ok () w := by
  unfold eqGuard; split <;> rfl
theorem guard_cpl (op : BinOp) (t : TypeId) (x y : Operand) (k k' : FloatKind) (a b c d : Nat) (w : World) : (eqGuard op t x y (.complex k a b) (.complex k' c d)).run P w = .ok () w := by
  unfold eqGuard; split <;> rfl
theorem still_bS {op : BinOp} {t : TypeId} {x y : Operand} {a b v : Value} (hg : ∀ w, (eqGuard op t x y a b).run P w = .ok () w) (h : ∀ w, (binOp op t a b).run P w = .ok v w) : Pu (bS op t x y a b) v :=
  Still.of_run fun w => by simp [hg, h]
/-- what a type is -/
def dd (t : TypeId) : Option D := (ti t).map (·.d)
theorem dd_ptr {t x : TypeId} (h : dd t = some (.ptr x)) : P.underlying t = some (.pointer x) := by
  unfold dd at h; cases hx : ti t with
  | none => simp [hx] at h
  | some y =>
    simp only [hx, Option.map_some, Option.some.injEq] at h
    obtain ⟨i, d, _, h2, _, _, h5⟩ := ti_spec hx
    rw [h] at h5; cases d <;> simp only [dOf] at h5 <;> cases h5; exact h2
theorem dd_sl {t x : TypeId} (h : dd t = some (.sl x)) : P.underlying t = some (.slice x) := by
  unfold dd at h; cases hx : ti t with
  | none => simp [hx] at h
  | some y =>
    simp only [hx, Option.map_some, Option.some.injEq] at h
    obtain ⟨i, d, _, h2, _, _, h5⟩ := ti_spec hx
    rw [h] at h5; cases d <;> simp only [dOf] at h5 <;> cases h5; exact h2
theorem dd_arr {t n x : Nat} (h : dd t = some (.arr n x)) : P.underlying t = some (.array n x) := by
  unfold dd at h; cases hx : ti t with
  | none => simp [hx] at h
  | some y =>
    simp only [hx, Option.map_some, Option.some.injEq] at h
    obtain ⟨i, d, _, h2, _, _, h5⟩ := ti_spec hx
    rw [h] at h5; cases d <;> simp only [dOf] at h5 <;> cases h5; exact h2
theorem dd_mp {t k x : TypeId} (h : dd t = some (.mp k x)) : P.underlying t = some (.map k x) := by
  unfold dd at h; cases hx : ti t with
  | none => simp [hx] at h
  | some y =>
    simp only [hx, Option.map_some, Option.some.injEq] at h
    obtain ⟨i, d, _, h2, _, _, h5⟩ := ti_spec hx
    rw [h] at h5; cases d <;> simp only [dOf] at h5 <;> cases h5; exact h2
theorem dd_int {t : TypeId} {k : IntKind} (h : dd t = some (.int k)) : P.underlying t = some (.int k) := by
  unfold dd at h; cases hx : ti t with
  | none => simp [hx] at h
  | some y =>
    simp only [hx, Option.map_some, Option.some.injEq] at h
    obtain ⟨i, d, _, h2, _, _, h5⟩ := ti_spec hx
    rw [h] at h5; cases d <;> simp only [dOf] at h5 <;> cases h5; exact h2
theorem dd_str {t : TypeId} (h : dd t = some .str) : P.underlying t = some .string := by
  unfold dd at h; cases hx : ti t with
  | none => simp [hx] at h
  | some y =>
    simp only [hx, Option.map_some, Option.some.injEq] at h
    obtain ⟨i, d, _, h2, _, _, h5⟩ := ti_spec hx
    rw [h] at h5; cases d <;> simp only [dOf] at h5 <;> cases h5; exact h2
theorem dd_bool {t : TypeId} (h : dd t = some .bool) : P.underlying t = some .bool := by
  unfold dd at h; cases hx : ti t with
  | none => simp [hx] at h
  | some y =>
    simp only [hx, Option.map_some, Option.some.injEq] at h
    obtain ⟨i, d, _, h2, _, _, h5⟩ := ti_spec hx
    rw [h] at h5; cases d <;> simp only [dOf] at h5 <;> cases h5; exact h2
theorem dd_flt {t : TypeId} {k : FloatKind} (h : dd t = some (.flt k)) : P.underlying t = some (.float k) := by
  unfold dd at h; cases hx : ti t with
  | none => simp [hx] at h
  | some y =>
    simp only [hx, Option.map_some, Option.some.injEq] at h
    obtain ⟨i, d, _, h2, _, _, h5⟩ := ti_spec hx
    rw [h] at h5; cases d <;> simp only [dOf] at h5 <;> cases h5; exact h2
/-- cells and bytes of a type -/
def szof (t : TypeId) : Option (Nat × Nat) := (ti t).map fun x => (x.size, x.bytes)
theorem szof_spec {t n b : Nat} (h : szof t = some (n, b)) : ∃ i, P.info? t = some i ∧ i.size = n ∧ i.bytes = b := by
  unfold szof at h; cases hx : ti t with
  | none => simp [hx] at h
  | some y =>
    simp only [hx, Option.map_some, Option.some.injEq, Prod.mk.injEq] at h
    obtain ⟨i, d, h1, _, h3, h4, _⟩ := ti_spec hx
    exact ⟨i, h1, h3.trans h.1, h4.trans h.2⟩

/-! pointers against nil -/
theorem equal_deep (t : TypeId) (x y : Value) : ∃ d, Op.equal t x y = Op.equalIn (d + 1) t x y := ⟨9999, rfl⟩
theorem run_eql_ptr {t x : TypeId} (ht : dd t = some (.ptr x)) (a b : Option Addr) (hn : a = none ∨ b = none) (w : World) : (Op.equal t (.pointer a) (.pointer b)).run P w = .ok (a.isNone && b.isNone) w := by
  obtain ⟨dp, hdp⟩ := equal_deep t (.pointer a) (.pointer b)
  rw [hdp]
  simp only [Op.equalIn, Sem.run_bind, run_underlying (dd_ptr ht), Result.andThen_ok]
  rcases hn with rfl | rfl
  · simp
  · cases a <;> simp
theorem st_nilP {t x : TypeId} {X Y : Operand} {a b : Option Addr} (ht : dd t = some (.ptr x)) (hn : a = none ∨ b = none) : Pu (bS .eql t X Y (.pointer a) (.pointer b)) (.bool (a.isNone && b.isNone)) :=
  still_bS (guard_ptr _ _ _ _ _ _) fun w => by simp [binOp, run_eql_ptr ht a b hn]
theorem st_nnilP {t x : TypeId} {X Y : Operand} {a b : Option Addr} (ht : dd t = some (.ptr x)) (hn : a = none ∨ b = none) : Pu (bS .neq t X Y (.pointer a) (.pointer b)) (.bool (!(a.isNone && b.isNone))) :=
  still_bS (guard_ptr _ _ _ _ _ _) fun w => by simp [binOp, run_eql_ptr ht a b hn]
theorem run_eql_sl {t x : TypeId} (ht : dd t = some (.sl x)) (a b : Option Addr) (n m c d : Nat) (hn : a = none ∨ b = none) (w : World) : (Op.equal t (.slice a n c) (.slice b m d)).run P w = .ok (a.isNone && b.isNone) w := by
  obtain ⟨dp, hdp⟩ := equal_deep t (.slice a n c) (.slice b m d)
  rw [hdp]
  simp only [Op.equalIn, Sem.run_bind, run_underlying (dd_sl ht), Result.andThen_ok]
  rcases hn with rfl | rfl
  · simp
  · cases a <;> simp
theorem st_nilS {t x : TypeId} {X Y : Operand} {a b : Option Addr} {n m c d : Nat} (ht : dd t = some (.sl x)) (hn : a = none ∨ b = none) : Pu (bS .eql t X Y (.slice a n c) (.slice b m d)) (.bool (a.isNone && b.isNone)) :=
  still_bS (guard_slice _ _ _ _ _ _ _ _ _ _) fun w => by simp [binOp, run_eql_sl ht a b n m c d hn]
theorem st_nnilS {t x : TypeId} {X Y : Operand} {a b : Option Addr} {n m c d : Nat} (ht : dd t = some (.sl x)) (hn : a = none ∨ b = none) : Pu (bS .neq t X Y (.slice a n c) (.slice b m d)) (.bool (!(a.isNone && b.isNone))) :=
  still_bS (guard_slice _ _ _ _ _ _ _ _ _ _) fun w => by simp [binOp, run_eql_sl ht a b n m c d hn]
theorem run_eql_mp {t k x : TypeId} (ht : dd t = some (.mp k x)) (a b : Option Nat) (hn : a = none ∨ b = none) (w : World) : (Op.equal t (.map a) (.map b)).run P w = .ok (a.isNone && b.isNone) w := by
  obtain ⟨dp, hdp⟩ := equal_deep t (.map a) (.map b)
  rw [hdp]
  simp only [Op.equalIn, Sem.run_bind, run_underlying (dd_mp ht), Result.andThen_ok]
  rcases hn with rfl | rfl
  · simp
  · cases a <;> simp
theorem st_nilM {t k x : TypeId} {X Y : Operand} {a b : Option Nat} (ht : dd t = some (.mp k x)) (hn : a = none ∨ b = none) : Pu (bS .eql t X Y (.map a) (.map b)) (.bool (a.isNone && b.isNone)) :=
  still_bS (guard_map _ _ _ _ _ _) fun w => by simp [binOp, run_eql_mp ht a b hn]
theorem st_nnilM {t k x : TypeId} {X Y : Operand} {a b : Option Nat} (ht : dd t = some (.mp k x)) (hn : a = none ∨ b = none) : Pu (bS .neq t X Y (.map a) (.map b)) (.bool (!(a.isNone && b.isNone))) :=
  still_bS (guard_map _ _ _ _ _ _) fun w => by simp [binOp, run_eql_mp ht a b hn]
theorem run_eql_bool {t : TypeId} (ht : dd t = some .bool) (a b : Bool) (w : World) : (Op.equal t (.bool a) (.bool b)).run P w = .ok (a == b) w := by
  obtain ⟨dp, hdp⟩ := equal_deep t (.bool a) (.bool b)
  rw [hdp]
  simp [Op.equalIn, run_underlying (dd_bool ht)]
theorem st_eqB {t : TypeId} {X Y : Operand} {a b : Bool} (ht : dd t = some .bool) : Pu (bS .eql t X Y (.bool a) (.bool b)) (.bool (a == b)) :=
  still_bS (guard_bool _ _ _ _ _ _) fun w => by simp [binOp, run_eql_bool ht]
theorem st_neB {t : TypeId} {X Y : Operand} {a b : Bool} (ht : dd t = some .bool) : Pu (bS .neq t X Y (.bool a) (.bool b)) (.bool (a != b)) :=
  still_bS (guard_bool _ _ _ _ _ _) fun w => by simp [binOp, run_eql_bool ht, bne]

/-! numbers -/
theorem st_rem {t : TypeId} {X Y : Operand} {k : IntKind} {a b : Int} (hb : b ≠ 0) : Pu (bS .rem t X Y (.int k a) (.int k b)) (.int k (a.tmod b)) :=
  still_bS (guard_int _ _ _ _ _ _ _ _) fun w => by simp [binOp, Op.intDiv, hb]
theorem st_quo {t : TypeId} {X Y : Operand} {k : IntKind} {a b : Int} (hb : b ≠ 0) (hr : inR k (a.tdiv b)) : Pu (bS .quo t X Y (.int k a) (.int k b)) (.int k (a.tdiv b)) :=
  still_bS (guard_int _ _ _ _ _ _ _ _) fun w => by simp [binOp, Op.intDiv, hb, wrap_in hr]
theorem st_xor {t : TypeId} {X Y : Operand} {k : IntKind} {a b : Int} : Pu (bS .xor t X Y (.int k a) (.int k b)) (.int k (k.wrap (BitVec.ofInt k.bits a ^^^ BitVec.ofInt k.bits b).toNat)) :=
  still_bS (guard_int _ _ _ _ _ _ _ _) fun w => by simp [binOp, Op.intBits]
theorem st_and {t : TypeId} {X Y : Operand} {k : IntKind} {a b : Int} : Pu (bS .and t X Y (.int k a) (.int k b)) (.int k (k.wrap (BitVec.ofInt k.bits a &&& BitVec.ofInt k.bits b).toNat)) :=
  still_bS (guard_int _ _ _ _ _ _ _ _) fun w => by simp [binOp, Op.intBits]
theorem st_or {t : TypeId} {X Y : Operand} {k : IntKind} {a b : Int} : Pu (bS .or t X Y (.int k a) (.int k b)) (.int k (k.wrap (BitVec.ofInt k.bits a ||| BitVec.ofInt k.bits b).toNat)) :=
  still_bS (guard_int _ _ _ _ _ _ _ _) fun w => by simp [binOp, Op.intBits]
theorem run_conv {s d : TypeId} {k k' : IntKind} (hs : dd s = some (.int k)) (hd : dd d = some (.int k')) (n : Int) (w : World) : (convert s d (.int k n)).run P w = .ok (.int k' (k'.wrap n)) w := by
  simp [convert, run_underlying (dd_int hs), run_underlying (dd_int hd), Conv.intToInt]
theorem st_conv {s d : TypeId} {k k' : IntKind} {n : Int} (hs : dd s = some (.int k)) (hd : dd d = some (.int k')) (hr : inR k' n) : Pu (vS (convert s d (.int k n))) (.int k' n) :=
  Still.of_run fun w => by rw [run_conv hs hd, wrap_in hr]
theorem st_convw {s d : TypeId} {k k' : IntKind} {n : Int} (hs : dd s = some (.int k)) (hd : dd d = some (.int k')) : Pu (vS (convert s d (.int k n))) (.int k' (k'.wrap n)) := Still.of_run (run_conv hs hd n)
theorem st_min {ts : Array TypeId} {t : TypeId} {k : IntKind} {a b : Int} : Pu (vS (Builtin.min_ ts t #[.int k a, .int k b])) (.int k (if b < a then b else a)) := Still.of_run fun w => by
  simp [Builtin.min_, Builtin.min2]
theorem st_max {ts : Array TypeId} {t : TypeId} {k : IntKind} {a b : Int} : Pu (vS (Builtin.max_ ts t #[.int k a, .int k b])) (.int k (if b > a then b else a)) := Still.of_run fun w => by
  simp [Builtin.max_, Builtin.max2]

/-! slices and strings -/
theorem st_len {t x ty : TypeId} {a : Option Addr} {n c : Nat} (ht : dd t = some (.sl x)) : Pu (vS (Builtin.len_ #[t] ty #[.slice a n c])) (.int .i64 n) := Still.of_run fun w => by
  simp [Builtin.len_, run_underlying (dd_sl ht), goInt]
theorem st_cap {t x ty : TypeId} {a : Option Addr} {n c : Nat} (ht : dd t = some (.sl x)) : Pu (vS (Builtin.cap_ #[t] ty #[.slice a n c])) (.int .i64 c) := Still.of_run fun w => by
  simp [Builtin.cap_, run_underlying (dd_sl ht), goInt]
theorem st_lenS {t ty : TypeId} {s : ByteArray} (ht : dd t = some .str) : Pu (vS (Builtin.len_ #[t] ty #[.string s])) (.int .i64 s.size) := Still.of_run fun w => by
  simp [Builtin.len_, run_underlying (dd_str ht), goInt]
theorem st_ix {t x sz by_ b off n c : Nat} {k : IntKind} {i : Int} (ht : dd t = some (.sl x)) (hs : szof x = some (sz, by_)) (h0 : 0 ≤ i) (h1 : i < n) :
    Pu (vS (Instr.indexAt t (.slice (some ⟨b, off, none⟩) n c) (.int k i))) (.pointer (some ⟨b, off + i.toNat * sz, none⟩)) := Still.of_run fun w => by
  obtain ⟨i', h2, h3, _⟩ := szof_spec hs
  have hz : (P.info? x).map (·.size) = some sz := by simp [h2, h3]
  simp [Instr.indexAt, asIntOf, run_underlying (dd_sl ht), h0, h1, run_sizeOf' h2, h3, Addr.add_lit]
/-- an array's element, by its address -/
theorem st_ixA {t x m sz by_ b off : Nat} {k : IntKind} {i : Int} (ht : dd t = some (.arr m x)) (hs : szof x = some (sz, by_)) (h0 : 0 ≤ i) (h1 : i < m) :
    Pu (vS (Instr.indexAt t (.pointer (some ⟨b, off, none⟩)) (.int k i))) (.pointer (some ⟨b, off + i.toNat * sz, none⟩)) := Still.of_run fun w => by
  obtain ⟨i', h2, h3, _⟩ := szof_spec hs
  simp [Instr.indexAt, Instr.sureAddr, asIntOf, run_underlying (dd_arr ht), h0, h1, run_sizeOf' h2, h3, Addr.add_lit]
theorem st_ixS {t : TypeId} {s : ByteArray} {k : IntKind} {i : Int} (ht : dd t = some .str) (h0 : 0 ≤ i) (h1 : i.toNat < s.size) :
    Pu (vS (Instr.index t (.string s) (.int k i))) (.int .u8 (s[i.toNat]).toNat) := Still.of_run fun w => by
  simp [Instr.index, asIntOf, run_underlying (dd_str ht), h0, h1]
end
end Go.Proofs.YtfofnagocedlgaaDoor.Sl
end
section
/-
  THE SECOND LAYER's RULES: slices, strings.
-/
set_option maxRecDepth 100000
set_option linter.unusedVariables false
set_option linter.unusedSimpArgs false
namespace Go.Proofs.YtfofnagocedlgaaDoor.Sl
open Go Sh

/-- cells that may be read: from 'off' on the block holds 'l' -/
def rdc (b off : Nat) (l : List Value) : HProp := fun h => ∃ T fr, ∃ c : Array Value, h b = some (.cells c T fr) ∧ ∀ j v, l[j]? = some v → c[off + j]? = some v
/-- whoever holds 'ctx' may read them -/
def Rds (ctx : List HProp) (b off : Nat) (l : List Value) : Prop := ∀ h, sepL ctx h → rdc b off l h
/-- a slice's cells may be read -/
def Rd (ctx : List HProp) : Option Addr → List Value → Prop
  | none, l => l = []
  | some a, l => l = [] ∨ (a.spot = none ∧ Rds ctx a.block a.off l)
/-- a slice that owns its block: n elements of sz cells -/
def SlO (a : Option Addr) (n c sz : Nat) (l : List Value) : HProp := fun h =>
  l.length = n * sz ∧ ((a = none ∧ n = 0 ∧ c = 0) ∨ ∃ b r, a = some ⟨b, 0, none⟩ ∧ n ≤ c ∧ c * sz ≤ (l ++ r).length ∧ pt b (l ++ r) h)
def u8 (l : List UInt8) : List Value := l.map fun b => .int .u8 b.toNat
abbrev ba (l : List UInt8) : ByteArray := ⟨l.toArray⟩
@[simp] theorem u8_length (l : List UInt8) : (u8 l).length = l.length := by simp [u8]
@[simp] theorem u8_append (l r : List UInt8) : u8 (l ++ r) = u8 l ++ u8 r := by simp [u8]
@[simp] theorem u8_nil : u8 [] = [] := rfl
@[simp] theorem u8_take (l : List UInt8) (n : Nat) : (u8 l).take n = u8 (l.take n) := by simp [u8, List.map_take]
@[simp] theorem u8_drop (l : List UInt8) (n : Nat) : (u8 l).drop n = u8 (l.drop n) := by simp [u8, List.map_drop]
theorem u8_get (l : List UInt8) (i : Nat) : (u8 l)[i]? = (l[i]?).map fun b => .int .u8 b.toNat := by simp [u8]
theorem u8_one (l : List UInt8) : ∀ v ∈ u8 l, v.oneCell' = true := by intro v hv; simp only [u8, List.mem_map] at hv; obtain ⟨b, _, rfl⟩ := hv; rfl
/-- a slice of bytes that owns its block -/
abbrev BS (a : Option Addr) (c : Nat) (l : List UInt8) : HProp := SlO a l.length c 1 (u8 l)
abbrev RdB (ctx : List HProp) (a : Option Addr) (l : List UInt8) : Prop := Rd ctx a (u8 l)

section
variable {e : Env} {ctx ctx' R : List HProp}
theorem Rds.mono {b off : Nat} {l : List Value} (h : Rds ctx b off l) (hi : Imp ctx' ctx) : Rds ctx' b off l := fun x k => h x (hi x k)
theorem Rds.tl {A : HProp} {b off : Nat} {l : List Value} (h : Rds ctx b off l) : Rds (A :: ctx) b off l := h.mono (Imp.drop (Imp.refl _))
theorem Rd.mono {a : Option Addr} {l : List Value} (h : Rd ctx a l) (hi : Imp ctx' ctx) : Rd ctx' a l := by
  cases a with
  | none => exact h
  | some a => exact h.imp id fun k => ⟨k.1, k.2.mono hi⟩
theorem Rd.tl {A : HProp} {a : Option Addr} {l : List Value} (h : Rd ctx a l) : Rd (A :: ctx) a l := h.mono (Imp.drop (Imp.refl _))
theorem rdc_le {b off : Nat} {l : List Value} {h h' : Hp} (hl : Hp.le h h') (k : rdc b off l h) : rdc b off l h' := by
  obtain ⟨T, fr, c, h1, h2⟩ := k
  exact ⟨T, fr, c, hl _ _ h1, h2⟩
theorem Rds.of_has {A : HProp} {b off : Nat} {l : List Value} (hh : Has ctx A) (hA : ∀ h, A h → rdc b off l h) : Rds ctx b off l := fun h k => by
  obtain ⟨r, hr⟩ := hh.pick
  obtain ⟨h1, _, _, l1, _, a, _⟩ := sepL_perm hr.perm _ k
  exact rdc_le l1 (hA _ a)
theorem rdc_pt {b off : Nat} {l m : List Value} (hm : ∀ j v, m[j]? = some v → l[off + j]? = some v) (h : Hp) (k : pt b l h) : rdc b off m h := by
  obtain ⟨T, fr, h1, _⟩ := k
  exact ⟨T, fr, _, h1, fun j v hj => by simpa using hm j v hj⟩
theorem Rds.of_pt {b off : Nat} {l m : List Value} (hh : Has ctx (pt b l)) (hm : ∀ j v, m[j]? = some v → l[off + j]? = some v) : Rds ctx b off m := Rds.of_has hh (rdc_pt hm)
theorem Rd.nil (ctx : List HProp) : Rd ctx none [] := rfl
theorem SlO.rd {a : Option Addr} {n c sz : Nat} {l : List Value} (hh : Has ctx (SlO a n c sz l)) (hs : ∃ w, Sat e (sepL ctx) w) : Rd ctx a l := by
  obtain ⟨w, hw⟩ := hs
  obtain ⟨h, _, hl, h2⟩ := hh.at_ hw
  rcases h2 with ⟨rfl, rfl, rfl⟩ | ⟨b, r, rfl, _, _, _⟩
  · exact List.eq_nil_of_length_eq_zero (by simpa using hl)
  · refine .inr ⟨rfl, Rds.of_has hh fun h k => ?_⟩
    obtain ⟨_, k⟩ := k
    rcases k with ⟨k, _⟩ | ⟨b', r', hb, _, _, k⟩
    · cases k
    · cases hb
      exact rdc_pt (fun j v hj => by
        rw [Nat.zero_add, List.getElem?_append_left (List.getElem?_eq_some_iff.1 hj).1]; exact hj) h k
theorem Rds.sub {b off : Nat} {l : List Value} (h : Rds ctx b off l) (i n : Nat) : Rds ctx b (off + i) ((l.drop i).take n) := fun x k => by
  obtain ⟨T, fr, c, h1, h2⟩ := h x k
  refine ⟨T, fr, c, h1, fun j v hj => ?_⟩
  rw [List.getElem?_take] at hj
  split at hj
  · rw [List.getElem?_drop] at hj
    rw [Nat.add_assoc]; exact h2 _ _ hj
  · cases hj
theorem Rds.pre {b off : Nat} {l m : List Value} (h : Rds ctx b off (l ++ m)) : Rds ctx b off l := fun x k => by
  obtain ⟨T, fr, c, h1, h2⟩ := h x k
  exact ⟨T, fr, c, h1, fun j v hj => h2 j v (by rw [List.getElem?_append_left (List.getElem?_eq_some_iff.1 hj).1]; exact hj)⟩
theorem Rd.cells {a : Addr} {l : List Value} {w : World} (h : Rd ctx (some a) l) (hw : Sat e (sepL ctx) w) : ∀ j v, l[j]? = some v → w.cell? (a.add j) = some v := by
  intro j v hj
  obtain ⟨b, off, s⟩ := a
  rcases h with rfl | ⟨hs, h⟩
  · simp at hj
  · simp only at hs
    subst hs
    obtain ⟨T, fr, c, h1, h2⟩ := h _ hw.heap
    rw [Addr.add_lit]
    have : w.heap[b]? = some (.cells c T fr) := h1
    simp [World.cell?, this, h2 j v hj]
theorem st_loadR {t b off : Nat} {l : List Value} {i : Nat} {v : Value} (hr : Rds ctx b off l) (ht : sc t = true) (hv : l[i]? = some v) : Still e ctx (vS (Instr.loadAt t (.pointer (some ⟨b, off + i, none⟩)))) v := fun w hw => by
  obtain ⟨i', d, h1, h2, h3, h4⟩ := sc_spec ht
  obtain ⟨T, fr, c, g1, g2⟩ := hr _ hw.heap
  have : w.heap[b]? = some (.cells c T fr) := g1
  refine run_vS ?_
  simp [Instr.loadAt, Instr.sureAddr, loadVar, h4, World.cell?, this, g2 i v hv]

/-! slicing -/
theorem elem_of {t x : TypeId} (h : P.underlying t = some (.slice x)) : P.elem t = x := by simp [Program.elem, h]
theorem und_el {t x : TypeId} (h : dd t = some (.sl x)) : P.underlying t = some (.slice (P.elem t)) := by rw [elem_of (dd_sl h)]; exact dd_sl h
/-- where a part of a slice begins -/
def cut (a : Option Addr) (l m sz : Nat) : Option Addr := if m = l then a else a.map (·.add (l * sz))
theorem cut_some (b off l m sz : Nat) : cut (some ⟨b, off, none⟩) l m sz = some ⟨b, if m = l then off else off + l * sz, none⟩ := by
  unfold cut; split <;> simp [Addr.add_lit]
theorem cut_none (l m sz : Nat) : cut none l m sz = none := by unfold cut; split <;> rfl
theorem st_slL {t x sz by_ n c : Nat} {a : Option Addr} {k : IntKind} {l : Int} (ht : dd t = some (.sl x)) (hs : szof x = some (sz, by_)) (h0 : 0 ≤ l) (h1 : l ≤ n) :
    Pu (vS (Instr.sliceAt t (.slice a n c) (some (.int k l)) none none)) (.slice (cut a l.toNat c sz) (n - l.toNat) (c - l.toNat)) := Still.of_run fun w => by
  obtain ⟨i, h2, h3, _⟩ := szof_spec hs
  have hu := und_el ht
  rw [run_sliceAt_slice w t _ _ _ _ hu, run_slice_l w t a n c hu k l h0 h1, elem_of (dd_sl ht), run_sizeOf' h2, h3]
  rfl
theorem st_slH {t x sz by_ n c : Nat} {a : Option Addr} {k : IntKind} {h : Int} (ht : dd t = some (.sl x)) (hs : szof x = some (sz, by_)) (h0 : 0 ≤ h) (h1 : h ≤ c) :
    Pu (vS (Instr.sliceAt t (.slice a n c) none (some (.int k h)) none)) (.slice (cut a 0 c sz) h.toNat c) := Still.of_run fun w => by
  obtain ⟨i, h2, h3, _⟩ := szof_spec hs
  have hu := und_el ht
  rw [run_sliceAt_slice w t _ _ _ _ hu, run_slice_h w t a n c hu k h h0 h1, elem_of (dd_sl ht), run_sizeOf' h2, h3]
  rfl
theorem st_slLH {t x sz by_ n c : Nat} {a : Option Addr} {k k' : IntKind} {l h : Int} (ht : dd t = some (.sl x)) (hs : szof x = some (sz, by_)) (h0 : 0 ≤ l) (h1 : l ≤ h) (h2 : h ≤ c) :
    Pu (vS (Instr.sliceAt t (.slice a n c) (some (.int k l)) (some (.int k' h)) none)) (.slice (cut a l.toNat c sz) (h.toNat - l.toNat) (c - l.toNat)) := Still.of_run fun w => by
  obtain ⟨i, h3, h4, _⟩ := szof_spec hs
  have hu := und_el ht
  rw [run_sliceAt_slice w t _ _ _ _ hu, run_slice_lh w t a n c hu k k' l h h0 h1 h2, elem_of (dd_sl ht), run_sizeOf' h3, h4]
  rfl
theorem st_slLHM {t x sz by_ n c : Nat} {a : Option Addr} {k k' k'' : IntKind} {l h m : Int} (ht : dd t = some (.sl x)) (hs : szof x = some (sz, by_)) (h0 : 0 ≤ l) (h1 : l ≤ h) (h2 : h ≤ m) (h3 : m ≤ c) :
    Pu (vS (Instr.sliceAt t (.slice a n c) (some (.int k l)) (some (.int k' h)) (some (.int k'' m)))) (.slice (cut a l.toNat m.toNat sz) (h.toNat - l.toNat) (m.toNat - l.toNat)) := Still.of_run fun w => by
  obtain ⟨i, h4, h5, _⟩ := szof_spec hs
  have hu := und_el ht
  rw [run_sliceAt_slice w t _ _ _ _ hu, run_slice_lhm w t a n c hu k k' k'' l h m h0 h1 h2 h3, elem_of (dd_sl ht), run_sizeOf' h4, h5]
  rfl
theorem st_slHM {t x sz by_ n c : Nat} {a : Option Addr} {k k' : IntKind} {h m : Int} (ht : dd t = some (.sl x)) (hs : szof x = some (sz, by_)) (h1 : 0 ≤ h) (h2 : h ≤ m) (h3 : m ≤ c) :
    Pu (vS (Instr.sliceAt t (.slice a n c) none (some (.int k h)) (some (.int k' m)))) (.slice (cut a 0 m.toNat sz) h.toNat m.toNat) := Still.of_run fun w => by
  obtain ⟨i, h4, h5, _⟩ := szof_spec hs
  have hu := und_el ht
  rw [run_sliceAt_slice w t _ _ _ _ hu, run_slice_hm w t a n c hu k k' h m h1 h2 h3, elem_of (dd_sl ht), run_sizeOf' h4, h5]
  rfl
theorem st_slA {t x sz by_ n c : Nat} {a : Option Addr} (ht : dd t = some (.sl x)) (hs : szof x = some (sz, by_)) :
    Pu (vS (Instr.sliceAt t (.slice a n c) none none none)) (.slice (cut a 0 c sz) n c) := Still.of_run fun w => by
  obtain ⟨i, h4, h5, _⟩ := szof_spec hs
  have hu := und_el ht
  rw [run_sliceAt_slice w t _ _ _ _ hu, run_slice_all w t a n c hu, elem_of (dd_sl ht), run_sizeOf' h4, h5]
  rfl

/-! making -/
theorem Ent.make {t x by_ n : Nat} {k k' : IntKind} {z : Value} {c : Value → WP} (ht : dd t = some (.sl x)) (hs : szof x = some (1, by_)) (hz : zro x = some [z]) (hn : by_ * n ≤ 281474976710656) (h63 : n ≤ 4611686018427387904)
    (h : ∀ b, Ent e (pt b (List.replicate n z) :: ctx) (c (.slice (some ⟨b, 0, none⟩) n n))) : Ent e ctx (OpK P (.one .raw) (vS (Instr.makeSlice t (.int k n) (.int k' n))) c) := Ent.act fun w hw => by
  obtain ⟨i, h4, h5, h6⟩ := szof_spec hs
  obtain ⟨i', v, g1, g2, g3⟩ := zro_spec hz
  rw [h4] at g1; cases g1
  have hb : (i.bytes : Int) * (n : Int) ≤ 281474976710656 := by
    have h : ((by_ * n : Nat) : Int) ≤ 281474976710656 := by omega
    rw [Int.natCast_mul] at h
    rw [h6]; exact h
  have hr := run_make (P := P) w t x i v (dd_sl ht) h4 g2 k k' n n (by omega) (Int.le_refl _) hb (by omega)
  rw [Int.toNat_natCast, h5, Nat.mul_one] at hr
  have hm : madeCells v.cells n = (List.replicate n z).toArray := by
    have e1 : v.cells = #[z] := by
      have : v.cells.toList.toArray = [z].toArray := by rw [g3]
      simpa using this
    rw [e1]
    apply Array.ext
    · simp [madeCells]
    · intro j h1 h2; simp [madeCells, Nat.mod_one]
  rw [hm] at hr
  refine ⟨.slice (some ⟨w.heap.size, 0, none⟩) n n, _, .inl (run_vS hr), _, rfl, h w.heap.size _ ?_⟩
  exact hw.new _ x
/-- 'fill', on lists -/
def fillL (pl : Nat → Option (Nat × Nat)) : List Value → List (Nat × Value) → Option (List Value)
  | cells, [] => some cells
  | cells, (i, v) :: rest => match pl i with
    | none => none
    | some (off, size) => match v.cells.toList with
      | cs => match Nat.beq cs.length size && Nat.ble (off + cs.length) cells.length with
        | true => fillL pl (cells.take off ++ cs ++ cells.drop (off + cs.length)) rest
        | false => none
theorem foldl_splice (cs : List Value) : ∀ (k off : Nat) (cells : Array Value), off + k + cs.length ≤ cells.size →
    (cs.zipIdx k).foldl (fun a (p : Value × Nat) => a.setIfInBounds (off + p.2) p.1) cells = (cells.toList.take (off + k) ++ cs ++ cells.toList.drop (off + k + cs.length)).toArray := by
  induction cs with
  | nil => intro k off cells _; simp
  | cons v cs ih =>
    intro k off cells h
    simp only [List.length_cons] at h
    simp only [List.zipIdx_cons, List.foldl_cons]
    rw [ih (k + 1) off _ (by simp; omega)]
    congr 1
    have hlt : off + k < cells.toList.length := by simp; omega
    have e0 : (cells.setIfInBounds (off + k) v).toList = cells.toList.set (off + k) v := by simp
    rw [e0]
    have e1 : (cells.toList.set (off + k) v).take (off + (k + 1)) = cells.toList.take (off + k) ++ [v] := by
      rw [show off + (k + 1) = (off + k) + 1 by omega, List.take_succ_eq_append_getElem (by simpa using hlt)]
      simp
      exact List.take_set_of_le (Nat.le_refl _)
    have e2 : (cells.toList.set (off + k) v).drop (off + (k + 1) + cs.length) = cells.toList.drop (off + k + (cs.length + 1)) := by
      rw [List.drop_set_of_lt (by omega)]; congr 1; omega
    rw [e1, e2]; simp
theorem fillL_fill (pl : Nat → Option (Nat × Nat)) : ∀ (ps : List (Nat × Value)) (cells : List Value) (out : List Value), fillL pl cells ps = some out → Instr.fill pl cells.toArray ps = some out.toArray
  | [], cells, out, h => by simp only [fillL, Option.some.injEq] at h; subst h; rfl
  | (i, v) :: rest, cells, out, h => by
    simp only [fillL] at h
    simp only [Instr.fill]
    cases hp : pl i with
    | none => rw [hp] at h; cases h
    | some os =>
      obtain ⟨off, size⟩ := os
      rw [hp] at h
      simp only at h
      cases hc : (Nat.beq v.cells.toList.length size && Nat.ble (off + v.cells.toList.length) cells.length) with
      | false => rw [hc] at h; cases h
      | true =>
        rw [hc] at h
        simp only [Bool.and_eq_true] at hc
        have h1 : v.cells.size = size := by have := Nat.eq_of_beq_eq_true hc.1; simpa using this
        have h2 : off + v.cells.size ≤ cells.length := by have := Nat.le_of_ble_eq_true hc.2; simpa using this
        have h3 : (decide (v.cells.size ≠ size) || decide (off + v.cells.size > cells.toArray.size)) = false := by simp [h1]; omega
        simp only [ne_eq, h3]
        have hf := foldl_splice v.cells.toList 0 off cells.toArray (by simpa using h2)
        simp only [Nat.add_zero] at hf
        have : (v.cells.zipIdx.foldl (fun cs (c, j) => cs.setIfInBounds (off + j) c) cells.toArray) = (cells.take off ++ v.cells.toList ++ cells.drop (off + v.cells.toList.length)).toArray := by
          rw [← Array.foldl_toList, Array.toList_zipIdx]; exact hf
        rw [this]
        exact fillL_fill pl rest _ out h
/-- a struct's fields: place and cells of each -/
def plS (t : TypeId) : Option (List (Nat × Nat)) := match ti t with
  | some ⟨_, _, .struct fs⟩ => plS' fs
  | _ => none
where plS' : List (Nat × Nat) → Option (List (Nat × Nat))
  | [] => some []
  | (off, ft) :: r => match ti ft with
    | some ⟨n, _, _⟩ => match plS' r with
      | some l => some ((off, n) :: l)
      | none => none
    | none => none
theorem plS'_run (w : World) : ∀ (fs : List Field) (l : List (Nat × Nat)), plS.plS' (fs.map fun f => (f.offset, f.type)) = some l →
    (fs.mapM (m := Sem) fun f => do pure (f.offset, ← sizeOf f.type)).run P w = .ok l w
  | [], l, h => by simp only [List.map_nil, plS.plS', Option.some.injEq] at h; subst h; rfl
  | f :: r, l, h => by
    simp only [List.map_cons, plS.plS'] at h
    cases hx : ti f.type with
    | none => simp [hx] at h
    | some y =>
      obtain ⟨n, b, d⟩ := y
      simp only [hx] at h
      cases hr : plS.plS' (r.map fun f => (f.offset, f.type)) with
      | none => simp [hr] at h
      | some l' =>
        simp only [hr, Option.some.injEq] at h
        subst h
        obtain ⟨i, d', h1, _, h3, _⟩ := ti_spec hx
        have ih := plS'_run w r l' hr
        simp only [List.mapM_cons, Sem.run_bind, run_sizeOf' h1, h3, Result.andThen_ok, Sem.run_pure, ih]
theorem st_build {t : TypeId} {pl : List (Nat × Nat)} {z out : List Value} {ps : Array (Nat × Value)} (hp : plS t = some pl) (hz : zro t = some z) (hf : fillL (fun i : Nat => pl[i]?) z ps.toList = some out) :
    Pu (vS (Instr.build t ps)) (.agg out.toArray) := Still.of_run fun w => by
  unfold plS at hp
  split at hp
  · rename_i sz by_ fs hx
    obtain ⟨i, d, h1, h2, h3, h4, h5⟩ := ti_spec hx
    simp only at h5
    cases d <;> simp only [dOf] at h5 <;> try (cases h5)
    rename_i fields
    obtain ⟨i', v, g1, g2, g3⟩ := zro_spec hz
    have hr := plS'_run w fields.toList pl hp
    have hm : (fields.mapM (m := Sem) fun f => do pure (f.offset, ← sizeOf f.type)).run P w = .ok pl.toArray w := by
      rw [Array.mapM_eq_mapM_toList]
      simp only [Sem.run_map, hr, Result.andThen_ok]
    have hff := fillL_fill _ _ _ _ hf
    have e1 : v.cells = z.toArray := by rw [← g3]
    simp only [Instr.build, Sem.run_bind, run_zero g1 g2, Result.andThen_ok, run_underlying h2, hm, e1]
    have e2 : (fun x : Nat => pl.toArray[x]?) = fun i : Nat => pl[i]? := by funext i; simp
    rw [e2, hff]
    rfl
  · cases hp
theorem Ent.slice0 {t x sz by_ n : Nat} {z out : List Value} {ps : Array (Nat × Value)} {c : Value → WP} (ht : dd t = some (.sl x)) (hs : szof x = some (sz, by_)) (hz : zro x = some z) (hsz : z.length = sz) (hn : n * sz ≤ 16777216) (h0 : sz ≠ 0)
    (hf : fillL (fun i => some (i * sz, sz)) (List.replicate n z).flatten ps.toList = some out) (h : ∀ b, Ent e (p0 b out :: ctx) (c (.slice (some ⟨b, 0, none⟩) n n))) :
    Ent e ctx (OpK P (.one .raw) (vS (Instr.buildSlice t n ps)) c) := Ent.act fun w hw => by
  obtain ⟨i, h4, h5, h6⟩ := szof_spec hs
  obtain ⟨i', v, g1, g2, g3⟩ := zro_spec hz
  have hff := fillL_fill _ _ _ _ hf
  have e1 : v.cells = z.toArray := by rw [← g3]
  have hzs : z.toArray.size = sz := by simp [hsz]
  have e2 : (Array.range (n * sz)).map (z.toArray[· % z.toArray.size]!) = (List.replicate n z).flatten.toArray := by
    apply Array.ext
    · simp [hsz]
    · intro j h1 h2
      simp only [Array.size_map, Array.size_range] at h1
      have hlt : j % sz < z.length := by rw [hsz]; exact Nat.mod_lt _ (by omega)
      have key : ∀ (n j : Nat), j < n * sz → (List.replicate n z).flatten[j]? = z[j % sz]? := by
        intro n
        induction n with
        | zero => intro j hj; omega
        | succ n ih =>
          intro j hj
          rw [List.replicate_succ, List.flatten_cons]
          by_cases hjs : j < z.length
          · rw [List.getElem?_append_left hjs, Nat.mod_eq_of_lt (by omega)]
          · rw [List.getElem?_append_right (by omega), ih _ (by rw [Nat.succ_mul] at hj; omega), hsz]
            congr 1
            rw [Nat.mod_eq_sub_mod (by omega : j ≥ sz)]
      have hk := key n j h1
      rw [List.getElem?_eq_getElem hlt] at hk
      have h2' : j < (List.replicate n z).flatten.length := by simpa using h2
      rw [List.getElem?_eq_getElem h2'] at hk
      simp only [Array.getElem_map, Array.getElem_range, hzs]
      rw [getElem!_pos z.toArray (j % sz) (by simpa using hlt)]
      simp only [List.getElem_toArray]
      exact (Option.some.inj hk).symm
  refine ⟨.slice (some ⟨w.heap.size, 0, none⟩) n n, w.alloc (.cells out.toArray x), .inl (run_vS ?_), _, rfl, h w.heap.size _ (hw.new0 out x)⟩
  have n1 : ¬ 16777216 < n * sz := by omega
  by_cases hn0 : n * sz = 0
  · have hn00 : n = 0 := by rcases Nat.mul_eq_zero.1 hn0 with h | h; exact h; exact absurd h h0
    subst hn00
    simp only [List.replicate_zero, List.flatten_nil] at hff
    simp only [Instr.buildSlice, Sem.run_bind, run_underlying (dd_sl ht), Result.andThen_ok, run_sizeOf' h4, h5, Nat.zero_mul]
    have e3 : ∀ f : Nat → Value, Array.map f (Array.range 0) = #[] := fun f => Array.ext (by simp) (fun j h1 h2 => by simp at h2)
    simp only [Nat.not_lt_zero, if_false, if_true, Sem.run_bind, Sem.run_pure, Result.andThen_ok, e3, hff, Nat.reducePow, gt_iff_lt]
    rfl
  · simp only [Instr.buildSlice, Sem.run_bind, run_underlying (dd_sl ht), Result.andThen_ok, run_sizeOf' h4, h5, Nat.reducePow, if_neg n1, Sem.run_pure]
    simp only [hn0, if_false, Sem.run_bind, run_zero g1 g2, Result.andThen_ok, Sem.run_pure, e1, e2, hff]
    rfl
theorem Ent.slice {t x sz by_ n : Nat} {z out : List Value} {ps : Array (Nat × Value)} {c : Value → WP} (ht : dd t = some (.sl x)) (hs : szof x = some (sz, by_)) (hz : zro x = some z) (hsz : z.length = sz) (hn : n * sz ≤ 16777216) (h0 : sz ≠ 0)
    (hf : fillL (fun i => some (i * sz, sz)) (List.replicate n z).flatten ps.toList = some out) (h : ∀ b, Ent e (pt b out :: ctx) (c (.slice (some ⟨b, 0, none⟩) n n))) :
    Ent e ctx (OpK P (.one .raw) (vS (Instr.buildSlice t n ps)) c) :=
  Ent.slice0 ht hs hz hsz hn h0 hf fun b => (h b).imp fun _ => sepL_cons p0_pt fun _ x => x
/-- the mark of a literal's bytes -/
theorem Ent.mark {t x b n : Nat} {l : List Value} {k : Value → WP} (ht : dd t = some (.sl x)) (hx : dd x = some (.int .u8)) (h : Ent e (pt b l :: ctx) (k (.slice (some ⟨b, 0, none⟩) n n))) :
    Ent e (p0 b l :: ctx) (OpK P (.one .raw) (vS (convert t t (.slice (some ⟨b, 0, none⟩) n n))) k) := Ent.act fun w hw => by
  have hb : ∃ T, w.heap[b]? = some (.cells l.toArray T) := by
    obtain ⟨g1, g2, hd, l1, l2, ⟨T, a⟩, r⟩ := hw.heap
    exact ⟨T, l1 _ _ a⟩
  obtain ⟨T, hb⟩ := hb
  refine ⟨_, w.freeze ⟨b, l.length, none⟩ 1, .inl (run_vS (v := .slice (some ⟨b, 0, none⟩) n n) ?_), _, rfl, h _ ?_⟩
  · have hs : w.shape? b = some (T, l.length) := by simp [World.shape?, hb]
    simp [convert, run_underlying (dd_sl ht), run_underlying (dd_int hx), markStringish, hs]
  · have hlt : b < w.heap.size := (Array.getElem?_eq_some_iff.1 hb).1
    have hw' : Sat e (sepL ((fun h => h b = some (.cells l.toArray T)) :: ctx)) w := by
      obtain ⟨g1, g2, hd, l1, l2, ⟨T', a⟩, r⟩ := hw.heap
      have := l1 _ _ a
      have he : hpOf w b = w.heap[b]? := rfl
      rw [he, hb] at this
      cases this
      exact ⟨hw.os, hw.tape, hw.output, g1, g2, hd, l1, l2, a, r⟩
    refine Sat.turn (o' := .cells l.toArray T (l.length, l.length + 1)) hw' (fun _ k => k) (fun _ k => ⟨T, _, k, fun i hi => by simp; omega⟩) rfl rfl rfl ?_ fun i hi => ?_
    · simp [World.freeze, Array.getElem?_modify, hb]
    · simp [World.freeze, Array.getElem?_modify]
      intro h; exact absurd h.symm hi
end
end Go.Proofs.YtfofnagocedlgaaDoor.Sl
end
section
/-
  THE SECOND LAYER's RULES: append, copy, bytes and strings.
-/
set_option maxRecDepth 100000
set_option linter.unusedVariables false
set_option linter.unusedSimpArgs false
namespace Go.Proofs.YtfofnagocedlgaaDoor.Sl
open Go Sh
section
variable {e : Env} {ctx ctx' R : List HProp}
theorem growslice_fits' {need old by_ : Nat} (ho : old < need) (hb : need * by_ ≤ 140737488355328) : Builtin.nextslicecap need old * by_ ≤ 281474976710656 := growslice_fits ho hb
theorem Ent.append' {t ty x sz by_ n c m c' : Nat} {a a' : Option Addr} {l news z : List Value} {k : Value → WP} (hp : Pick ctx (SlO a n c sz l) ctx') (hr : Rd ctx a' news) (ht : dd t = some (.sl x)) (hs : szof x = some (sz, by_))
    (hz : zro x = some z) (hzl : z.length = sz) (hsz : sz ≠ 0) (hl : news.length = m * sz) (h1 : ∀ v ∈ news, v.oneCell' = true) (hb : (n + m) * by_ ≤ 140737488355328) (h63 : n + m ≤ 4611686018427387904)
    (h : ∀ a2 c2, (a ≠ none → a2 ≠ none) → Ent e (SlO a2 (n + m) c2 sz (l ++ news) :: ctx') (k (.slice a2 (n + m) c2))) :
    Ent e ctx (OpK P (.one .raw) (vS (Builtin.append_ #[t, t] ty #[.slice a n c, .slice a' m c'])) k) := Ent.act fun w hw => by
  obtain ⟨i, h4, h5, h6⟩ := szof_spec hs
  obtain ⟨i', zv, g1, g2, g3⟩ := zro_spec hz
  rw [h4] at g1; cases g1
  have hu := dd_sl ht
  have hzs : zv.cells.size = sz := by rw [← hzl, ← g3]; simp
  have hnews : ∀ b', a' = some b' → ∀ j v, news[j]? = some v → w.cell? (b'.add j) = some v := fun b' hb' => by subst hb'; exact hr.cells hw
  have hw2 : Sat e (sepL (SlO a n c sz l :: ctx')) w := hw.imp (sepL_perm hp.perm)
  obtain ⟨g, gl, hll, hcase⟩ := Has.at_ .hd hw2
  -- the block is new
  have fresh : ∀ (olds : List Value) (cap : Nat) (T : TypeId) (n' : Nat), olds.length = n' * sz → n' ≤ cap →
      Sat e (sepL (SlO (some ⟨w.heap.size, 0, none⟩) n' cap sz olds :: ctx')) (w.drew.alloc (.cells (olds.toArray ++ Builtin.zeroCells zv.cells (cap - n')) T)) := by
    intro olds cap T n' ho hc
    have hw3 : Sat e (sepL ctx') w.drew := (hw2.imp fun _ => sepL_drop).drawn _
    have hn := hw3.new (olds ++ (Builtin.zeroCells zv.cells (cap - n')).toList) T
    have e1 : (olds ++ (Builtin.zeroCells zv.cells (cap - n')).toList).toArray = olds.toArray ++ Builtin.zeroCells zv.cells (cap - n') := by simp
    rw [e1] at hn
    refine hn.imp fun x kx => sepL_cons (fun h hh => ?_) (fun _ y => y) kx
    refine ⟨ho, .inr ⟨_, _, rfl, hc, ?_, hh⟩⟩
    simp only [List.length_append, Array.length_toList, size_zeroCells, hzs, ho, ← Nat.add_mul]
    exact Nat.mul_le_mul_right _ (by omega)
  have room : n + m ≤ c → ∃ v w', (Builtin.append_ #[t, t] ty #[.slice a n c, .slice a' m c']).run P w = .ok v w' ∧ ∃ a2 c2, v = .slice a2 (n + m) c2 ∧ (a ≠ none → a2 ≠ none) ∧ Sat e (sepL (SlO a2 (n + m) c2 sz (l ++ news) :: ctx')) w' := by
    intro hroom
    have hfc : (Builtin.firstCells sz m (.slice a' m c')).run P w = .ok news.toArray w := by
      cases a' with
      | none =>
        have : news = [] := hr
        subst this; rfl
      | some b' => exact run_firstCells_some w sz m b' m c' news hl (hnews b' rfl)
    rcases hcase with ⟨rfl, rfl, rfl⟩ | ⟨b, r, rfl, hnc, hlr, hpt⟩
    · have hm0 : m = 0 := by omega
      subst hm0
      have hn0 : news = [] := List.eq_nil_of_length_eq_zero (by simpa using hl)
      subst hn0
      refine ⟨.slice none 0 0, w, ?_, none, 0, rfl, fun h => absurd rfl h, ?_⟩
      · simp only [Builtin.append_, List.getElem?_toArray, List.getElem?_cons_zero, List.getElem?_cons_succ, Sem.run_bind, run_underlying hu, Result.andThen_ok, run_sizeOf' h4, h5, Builtin.lenOf, Sem.run_pure]
        simp [hfc]
      · simpa using hw2
    · have hw4 : Sat e (sepL (pt b (l ++ r) :: ctx')) w := by
        obtain ⟨g1, g2, hd, l1, l2, hA, hrest⟩ := hw2.heap
        refine ⟨hw2.os, hw2.tape, hw2.output, g1, g2, hd, l1, l2, ?_, hrest⟩
        obtain ⟨_, hA⟩ := hA
        rcases hA with ⟨hA, _⟩ | ⟨b', r', hb', _, hlr', hA⟩
        · cases hA
        · cases hb'
          obtain ⟨T, fr, e1, e2⟩ := hA
          obtain ⟨T', fr', e1', _⟩ := hpt
          have x1 := l1 _ _ e1
          have x2 := gl _ _ e1'
          rw [x1] at x2
          simp only [Option.some.injEq, Obj.cells.injEq] at x2
          have : l ++ r' = l ++ r := by simpa using x2.1
          rw [this] at e1 e2
          exact ⟨T, fr, e1, e2⟩
      have hfit : n * sz + 0 + news.length ≤ (l ++ r).length := by
        refine Nat.le_trans ?_ hlr
        rw [hl, Nat.add_zero, ← Nat.add_mul]; exact Nat.mul_le_mul_right _ hroom
      obtain ⟨w', hst, hs'⟩ := run_storeCells_pt (b := b) (off := n * sz) news 0 (l ++ r) ctx' w hfit h1 hw4
      refine ⟨_, w', ?_, some ⟨b, 0, none⟩, c, rfl, fun _ => by simp, ?_⟩
      · simp [Builtin.append_, run_underlying hu, run_sizeOf' h4, h5, Builtin.lenOf, hroom, hfc, Addr.add_lit, hst]
      · refine hs'.imp fun x kx => sepL_cons (fun h hh => ?_) (fun _ y => y) kx
        have e1 : (l ++ r).take (n * sz + 0) = l := by rw [Nat.add_zero, ← hll]; exact List.take_left
        have e2 : (l ++ r).drop (n * sz + 0 + news.length) = r.drop news.length := by
          rw [Nat.add_zero, ← hll, List.drop_append]; simp
        rw [e1, e2] at hh
        refine ⟨by rw [List.length_append, hll, hl, Nat.add_mul], .inr ⟨b, r.drop news.length, rfl, hroom, ?_, hh⟩⟩
        simp only [List.length_append, List.length_drop] at hlr hfit ⊢
        omega
  by_cases hroom : n + m ≤ c
  · obtain ⟨v, w', hrun, a2, c2, rfl, hne, hs'⟩ := room hroom
    exact ⟨_, w', .inl (run_vS hrun), _, rfl, h a2 c2 hne w' hs'⟩
  · have hm0 : 0 < m := by
      rcases hcase with ⟨rfl, rfl, rfl⟩ | ⟨b, r, rfl, hnc, _⟩ <;> omega
    obtain ⟨b', rfl⟩ : ∃ b', a' = some b' := by
      cases a' with
      | some b' => exact ⟨b', rfl⟩
      | none =>
        have : news = [] := hr
        subst this
        simp only [List.length_nil] at hl
        rcases Nat.mul_eq_zero.1 hl.symm with h | h
        · omega
        · exact absurd h hsz
    rcases hcase with ⟨rfl, rfl, rfl⟩ | ⟨b, r, rfl, hnc, hlr, hpt⟩
    · have hl0 : l = [] := List.eq_nil_of_length_eq_zero (by simpa using hll)
      subst hl0
      simp only [Nat.zero_add] at h hb h63 ⊢
      have hrun := run_append_nil (P := P) w t ty x i zv hu h4 g2 b' m c' news (by rw [h5]; exact hl) (hnews b' rfl) hm0 (by omega) (by rw [h6]; omega)
      have hf := fresh news (grownCap w m 0 x) x m hl (grownCap_ge w m 0 x)
      exact ⟨_, _, .inl (run_vS hrun), _, rfl, h _ _ (fun _ => by simp) _ hf⟩
    · have hcells : ∀ j v, l[j]? = some v → w.cell? ((⟨b, 0, none⟩ : Addr).add j) = some v := by
        intro j v hj
        obtain ⟨T, fr, e1, _⟩ := hpt
        have : w.heap[b]? = some (.cells (l ++ r).toArray T fr) := gl _ _ e1
        rw [Addr.add_lit, Nat.zero_add]
        simp [World.cell?, this, List.getElem?_append_left (List.getElem?_eq_some_iff.1 hj).1, hj]
      have hrun := run_append_grow (P := P) w t ty x i zv hu h4 g2 ⟨b, 0, none⟩ n c l (by rw [h5]; exact hll) hcells b' m c' news (by rw [h5]; exact hl) (hnews b' rfl) (by omega) (by omega)
        (growslice_fits (by omega) (by rw [h6]; exact hb))
      have hf := fresh (l ++ news) (grownCap w (n + m) c x) x (n + m) (by rw [List.length_append, hll, hl, Nat.add_mul]) (grownCap_ge w (n + m) c x)
      refine ⟨_, _, .inl (run_vS hrun), _, rfl, h _ _ (fun _ => by simp) _ ?_⟩
      have e1 : (l ++ news).toArray = l.toArray ++ news.toArray := by simp
      rw [e1] at hf
      exact hf
theorem Ent.append {t ty x sz by_ n c m c' : Nat} {a a' : Option Addr} {l news z : List Value} {k : Value → WP} (hp : Pick ctx (SlO a n c sz l) ctx') (hr : Rd ctx a' news) (ht : dd t = some (.sl x)) (hs : szof x = some (sz, by_))
    (hz : zro x = some z) (hzl : z.length = sz) (hsz : sz ≠ 0) (hl : news.length = m * sz) (h1 : ∀ v ∈ news, v.oneCell' = true) (hb : (n + m) * by_ ≤ 140737488355328) (h63 : n + m ≤ 4611686018427387904)
    (h : ∀ a2 c2, Ent e (SlO a2 (n + m) c2 sz (l ++ news) :: ctx') (k (.slice a2 (n + m) c2))) :
    Ent e ctx (OpK P (.one .raw) (vS (Builtin.append_ #[t, t] ty #[.slice a n c, .slice a' m c'])) k) :=
  Ent.append' hp hr ht hs hz hzl hsz hl h1 hb h63 fun a2 c2 _ => h a2 c2
/-! copy -/
theorem Ent.copy {t s' ty x by_ b off dn dc sn sc' : Nat} {a' : Option Addr} {l cs : List Value} {k : Int → WP} (hu : Upd ctx (pt b l) (pt b (l.take off ++ cs ++ l.drop (off + cs.length))) ctx') (hr : Rd ctx a' cs) (ht : dd t = some (.sl x))
    (hs : szof x = some (1, by_)) (hl : cs.length = min sn dn) (h1 : ∀ v ∈ cs, v.oneCell' = true) (hf : off + cs.length ≤ l.length) (h : Ent e ctx' (k (cs.length : Nat))) :
    Ent e ctx (OpK P (.one (.int .i64)) (vS (Builtin.copy_ #[t, s'] ty #[.slice (some ⟨b, off, none⟩) dn dc, .slice a' sn sc'])) k) := Ent.act fun w hw => by
  obtain ⟨s2, hp, hq⟩ := hu.pick
  obtain ⟨i, h4, h5, h6⟩ := szof_spec hs
  have hw2 : Sat e (sepL (pt b l :: s2)) w := hw.imp (sepL_perm hp.perm)
  obtain ⟨w', hst, hs'⟩ := run_storeCells_pt (b := b) (off := off) cs 0 l s2 w (by simpa using hf) h1 hw2
  have hfc : (Builtin.firstCells 1 (Nat.min sn dn) (.slice a' sn sc')).run P w = .ok cs.toArray w := by
    cases a' with
    | none => have : cs = [] := hr; subst this; rfl
    | some b' => exact run_firstCells_some w 1 _ b' sn sc' cs (by rw [hl]; simp [Nat.min_def]) (hr.cells hw)
  refine ⟨.int .i64 cs.length, w', .inl (run_vS ?_), _, rfl, h w' (hs'.imp ?_)⟩
  · have e1 : Nat.min sn dn = cs.length := hl.symm
    simp only [Builtin.copy_, List.getElem?_toArray, List.getElem?_cons_zero, List.getElem?_cons_succ, Sem.run_bind, run_underlying (dd_sl ht), Result.andThen_ok, run_sizeOf' h4, h5, Builtin.lenOf, Sem.run_pure, hfc]
    rw [hst]
    simp [goInt, e1]
  · intro y ky
    refine sepL_perm hq.symm y ?_
    simpa using ky
/-- nothing is copied -/
theorem Ent.copy0 {t s' ty x by_ dn dc sn sc' : Nat} {a a' : Option Addr} {k : Int → WP} (ht : dd t = some (.sl x)) (hs : szof x = some (1, by_)) (hl : min sn dn = 0) (h : Ent e ctx (k 0)) :
    Ent e ctx (OpK P (.one (.int .i64)) (vS (Builtin.copy_ #[t, s'] ty #[.slice a dn dc, .slice a' sn sc'])) k) := Ent.act fun w hw => by
  obtain ⟨i, h4, h5, h6⟩ := szof_spec hs
  have e1 : Nat.min sn dn = 0 := hl
  have hfc : (Builtin.firstCells 1 0 (.slice a' sn sc')).run P w = .ok #[] w := by
    cases a' with
    | none => rfl
    | some b' => rfl
  refine ⟨.int .i64 0, w, .inl (run_vS ?_), _, rfl, h w hw⟩
  cases a <;> simp [Builtin.copy_, run_underlying (dd_sl ht), run_sizeOf' h4, h5, Builtin.lenOf, e1, hfc, goInt, storeCells]

/-! bytes and strings -/
theorem run_b2s {s x d : TypeId} {l : List UInt8} {a : Option Addr} {c : Nat} {w : World} (hs : dd s = some (.sl x)) (hx : dd x = some (.int .u8)) (hd : dd d = some .str) (hr : RdB ctx a l) (hw : Sat e (sepL ctx) w) :
    (convert s d (.slice a l.length c)).run P w = .ok (.string (ba l)) w := by
  rw [run_convert_bytes_string w s d x a _ c (dd_sl hs) (dd_int hx) (dd_str hd)]
  cases a with
  | none =>
    have : u8 l = [] := hr
    have : l = [] := by simpa [u8] using this
    subst this; rfl
  | some b =>
    have hc : (loadCells b (u8 l).length).run P w = .ok (u8 l).toArray w := run_loadCells_list (P := P) w b (u8 l) (hr.cells hw)
    rw [u8_length] at hc
    have hm : u8 l = (l.map fun b => (b.toNat : Int)).map (Value.int .u8) := by simp [u8]
    rw [hm] at hc
    rw [run_bytesToString w b l.length c _ hc, foldl_push_bytes]
    congr 2
    simp only [ba, ByteArray.empty, ByteArray.emptyWithCapacity]
    congr 1
    apply Array.ext'
    simp only [List.map_map]
    have e0 : ((fun n : Int => UInt8.ofNat n.toNat) ∘ fun b : UInt8 => (b.toNat : Int)) = id := by funext b; simp
    rw [e0, List.map_id]
    simp
    rfl
theorem st_b2s {s x d : TypeId} {l : List UInt8} {a : Option Addr} {c : Nat} (hr : RdB ctx a l) (hs : dd s = some (.sl x)) (hx : dd x = some (.int .u8)) (hd : dd d = some .str) :
    Still e ctx (vS (convert s d (.slice a l.length c))) (.string (ba l)) := fun w hw => run_vS (run_b2s hs hx hd hr hw)
theorem ba_eq (a b : ByteArray) : (a.toList == b.toList) = decide (a = b) := by
  rw [ByteArray.toList_eq, ByteArray.toList_eq]
  obtain ⟨⟨a⟩⟩ := a
  obtain ⟨⟨b⟩⟩ := b
  simp only [ByteArray.mk.injEq, Array.mk.injEq]
  rw [Bool.eq_iff_iff]
  simp
theorem st_eqS {t : TypeId} {X Y : Operand} {a b : ByteArray} : Pu (bS .eql t X Y (.string a) (.string b)) (.bool (decide (a = b))) :=
  still_bS (guard_str _ _ _ _ _ _) fun w => by simp [binOp, Op.stringOp, ba_eq]
theorem st_neS {t : TypeId} {X Y : Operand} {a b : ByteArray} : Pu (bS .neq t X Y (.string a) (.string b)) (.bool (!decide (a = b))) :=
  still_bS (guard_str _ _ _ _ _ _) fun w => by simp [binOp, Op.stringOp, ba_eq]
theorem st_addS {t : TypeId} {X Y : Operand} {a b : ByteArray} (h : a.size + b.size ≤ 9223372036854775807) : Pu (bS .add t X Y (.string a) (.string b)) (.string (a ++ b)) :=
  still_bS (guard_str _ _ _ _ _ _) fun w => by simp only [binOp]; exact run_string_add_sum w a b h
theorem Ent.s2b {s d x : TypeId} {l : List UInt8} {k : Value → WP} (hs : dd s = some .str) (hd : dd d = some (.sl x)) (hx : dd x = some (.int .u8)) (hl : l.length ≤ 4611686018427387904)
    (h : ∀ a c, Ent e (BS a c l :: ctx) (k (.slice a l.length c))) : Ent e ctx (OpK P (.one .raw) (vS (convert s d (.string (ba l)))) k) := Ent.act fun w hw => by
  let cap := grownCap w l.length 0 x
  have hcap : l.length ≤ cap := grownCap_ge w l.length 0 x
  let cells : List Value := u8 l ++ List.replicate (cap - l.length) (.int .u8 0)
  have hw1 : Sat e (sepL ctx) w.drew := hw.drawn _
  have hnew := hw1.new cells x
  -- the mark behind the last cell
  have hmark : Sat e (sepL (pt w.heap.size cells :: ctx)) ((w.drew.alloc (.cells cells.toArray x)).freeze ⟨w.heap.size, cells.length, none⟩ 1) := by
    refine Sat.turn (A := fun h => h w.heap.size = some (.cells cells.toArray x)) (b := w.heap.size) (o' := .cells cells.toArray x (cells.length, cells.length + 1)) (w := w.drew.alloc (.cells cells.toArray x)) ?_ (fun _ k => k) ?_ rfl rfl rfl ?_ ?_
    · exact hw1.alloc _
    · intro h hh; exact ⟨x, (cells.length, cells.length + 1), hh, fun i hi k => by simp only at k; omega⟩
    · show ((w.heap.push (.cells cells.toArray x)).modify w.heap.size _)[w.heap.size]? = _
      rw [Array.getElem?_modify, if_pos rfl]
      simp
    · intro i hi
      simp only [World.freeze]
      rw [if_neg (by omega)]
      simp only [Array.getElem?_modify]
      rw [if_neg (fun h => hi h.symm)]
  refine ⟨.slice (some ⟨w.heap.size, 0, none⟩) l.length cap, (w.drew.alloc (.cells cells.toArray x)).freeze ⟨w.heap.size, cells.length, none⟩ 1, .inl (run_vS ?_), _, rfl, h _ _ _ (hmark.imp fun y ky => sepL_cons (fun h hh => ?_) (fun _ z => z) ky)⟩
  · have e1 : ((ba l).data.map fun b => Value.int .u8 b.toNat) ++ Array.replicate (cap - l.length) (Value.int .u8 0) = cells.toArray := by simp [cells, u8]
    have hsz : (ba l).size = l.length := by simp [ba, ByteArray.size]
    simp only [convert, Sem.run_bind, run_underlying (dd_str hs), run_underlying (dd_sl hd), run_underlying (dd_int hx), Result.andThen_ok, Conv.stringToBytes, hsz]
    have hch : (choose (.appendCap l.length 0 x)).run P w = .ok cap w.drew := by
      rfl
    rw [hch]
    simp only [Result.andThen_ok, e1]
    have hn : (newRow x cells.toArray).run P w.drew = .ok ⟨w.heap.size, 0, none⟩ (w.drew.alloc (.cells cells.toArray x)) := rfl
    rw [hn]
    have hsh : (markStringish ⟨w.heap.size, 0, none⟩).run P (w.drew.alloc (.cells cells.toArray x)) = .ok () ((w.drew.alloc (.cells cells.toArray x)).freeze ⟨w.heap.size, cells.length, none⟩ 1) := by
      have hshape : (w.drew.alloc (.cells cells.toArray x)).shape? w.heap.size = some (x, cells.length) := by
        show (match (w.heap.push (.cells cells.toArray x))[w.heap.size]? with | some (.cells c elem _) => some (elem, c.size) | _ => none) = _
        simp
      simp [markStringish, shape, Sem.run, hshape, freeze, Sem.run_bind]
    simp only [Result.andThen_ok, hsh, Sem.run_pure]
  · refine ⟨by simp, .inr ⟨_, List.replicate (cap - l.length) (.int .u8 0), rfl, hcap, ?_, hh⟩⟩
    simp; omega
theorem st_slSH {t : TypeId} {l : List UInt8} {k : IntKind} {h : Int} (ht : dd t = some .str) (h0 : 0 ≤ h) (h1 : h ≤ l.length) :
    Pu (vS (Instr.sliceAt t (.string (ba l)) none (some (.int k h)) none)) (.string (ba (l.take h.toNat))) := Still.of_run fun w => by
  have hsz : (ba l).size = l.length := by simp [ba, ByteArray.size]
  rw [run_sliceAt_string w t _ _ _ _ (dd_str ht), run_slice_string_h w t _ (dd_str ht) k h h0 (by rw [hsz]; exact h1), ByteArray.extract_mk]
  simp
theorem st_slSL {t : TypeId} {l : List UInt8} {k : IntKind} {h : Int} (ht : dd t = some .str) (h0 : 0 ≤ h) (h1 : h ≤ l.length) :
    Pu (vS (Instr.sliceAt t (.string (ba l)) (some (.int k h)) none none)) (.string (ba (l.drop h.toNat))) := Still.of_run fun w => by
  have hsz : (ba l).size = l.length := by simp [ba, ByteArray.size]
  rw [run_sliceAt_string w t _ _ _ _ (dd_str ht), run_slice_string_l w t _ (dd_str ht) k h h0 (by rw [hsz]; exact h1), ByteArray.extract_mk]
  congr 3
  simp only [hsz]
  exact congrArg List.toArray (List.take_of_length_le (by simp))
theorem Ent.fn {sh F : WP} (ok : ∀ w, sh w → F w) (h : Ent e ctx sh) : Ent e ctx F := fun w hw => ok w (h w hw)
/-- a call of a function value -/
theorem Ent.callF {r : RK} {f : FuncId} {cap args : Array Value} {c : r.A} (hf : memN cll f = true) (h : Ent e ctx (FnK P r f (args ++ cap) c)) : Ent e ctx (OpK P r (callS (.func (.func f) #[] cap) args) c) := fun w hw => by
  show NextK P _ _ w
  have hr : (callS (.func (.func f) #[] cap) args).run P w = .ok (.enter f (args ++ cap)) w := by
    simp only [callS, Deferred.ofValue, Sem.run_bind, Sem.run_pure, Result.andThen_ok, invoke]
    have := callFunc_run (P := P) (cx_ok.calls f hf) (#[] ++ args ++ cap) w
    rw [this]
    simp
  unfold NextK
  rw [hr]
  exact h w hw
/-- the end: what is held is what is asked for -/
theorem Imp.hd {A : HProp} {l l' : List HProp} (h : Imp l l') : Imp (A :: l) (A :: l') := Imp.cons h
theorem in_i64 {n : Int} (h1 : -9223372036854775808 ≤ n) (h2 : n ≤ 9223372036854775807) : inR .i64 n := ⟨h1, h2⟩
theorem in_u64 {n : Int} (h1 : 0 ≤ n) (h2 : n ≤ 18446744073709551615) : inR .u64 n := ⟨h1, h2⟩
theorem in_u8 {n : Int} (h1 : 0 ≤ n) (h2 : n ≤ 255) : inR .u8 n := ⟨h1, h2⟩
theorem in_u16 {n : Int} (h1 : 0 ≤ n) (h2 : n ≤ 65535) : inR .u16 n := ⟨h1, h2⟩
theorem in_u32 {n : Int} (h1 : 0 ≤ n) (h2 : n ≤ 4294967295) : inR .u32 n := ⟨h1, h2⟩
theorem in_i32 {n : Int} (h1 : -2147483648 ≤ n) (h2 : n ≤ 2147483647) : inR .i32 n := ⟨h1, h2⟩
/-- reading the first cells of what may be read -/
theorem Rd.take {a : Option Addr} {l : List Value} (h : Rd ctx a l) (n : Nat) : Rd ctx a (l.take n) := by
  cases a with
  | none => have : l = [] := h; subst this; simp [Rd]
  | some a =>
    rcases h with rfl | ⟨h1, k⟩
    · exact .inl (by simp)
    · refine .inr ⟨h1, ?_⟩
      have := k.sub 0 n
      simpa using this
theorem Rd.cut {a : Option Addr} {l : List Value} (h : Rd ctx a l) {n c : Nat} (hc : l.length ≤ c) : Rd ctx (cut a n c 1) (l.drop n) := by
  cases a with
  | none => have : l = [] := h; subst this; rw [cut_none]; simp [Rd]
  | some a =>
    rcases h with rfl | ⟨hs, k⟩
    · unfold Sl.cut
      split <;> exact .inl (by simp)
    · obtain ⟨b, off, s⟩ := a
      simp only at hs
      subst hs
      rw [cut_some]
      by_cases hcn : c = n
      · exact .inl (List.drop_eq_nil_of_le (by omega))
      · refine .inr ⟨rfl, ?_⟩
        rw [if_neg hcn, Nat.mul_one]
        have := k.sub n l.length
        rwa [List.take_of_length_le (by simp)] at this
theorem Rd.pt {b : Nat} {l : List Value} (h : Has ctx (Sl.pt b l)) : Rd ctx (some ⟨b, 0, none⟩) l := .inr ⟨rfl, Rds.of_pt h fun j v hj => by simpa using hj⟩
/-- a made block is a slice of its own -/
theorem SlO.imp {b n : Nat} {l : List Value} (hn : l.length = n) : Imp (Sl.pt b l :: ctx) (SlO (some ⟨b, 0, none⟩) n n 1 l :: ctx) := fun _ k =>
  sepL_cons (fun h hh => ⟨by omega, .inr ⟨b, [], rfl, Nat.le_refl _, by simp [hn], by simpa using hh⟩⟩) (fun _ z => z) k
/-- a shorter slice of the same block: the rest is nobody's -/
theorem SlO.cut {a : Option Addr} {n c : Nat} {l : List Value} {m : Nat} (hm : m ≤ n) : Imp (SlO a n c 1 l :: ctx) (SlO a m m 1 (l.take m) :: ctx) := fun _ k =>
  sepL_cons (fun h hh => by
    obtain ⟨h1, h2⟩ := hh
    refine ⟨by simp; omega, ?_⟩
    rcases h2 with ⟨rfl, rfl, rfl⟩ | ⟨b, r, rfl, h3, h4, h5⟩
    · exact .inl ⟨rfl, by omega, by omega⟩
    · refine .inr ⟨b, l.drop m ++ r, rfl, Nat.le_refl _, ?_, ?_⟩
      · simp only [List.length_append, List.length_take, List.length_drop] at h4 ⊢; omega
      · rw [← List.append_assoc, List.take_append_drop]; exact h5) (fun _ z => z) k
theorem SlO.c0 {a : Option Addr} {n c sz : Nat} {l : List Value} {h : Hp} (k : SlO a n c sz l h) : n ≤ c := by
  rcases k.2 with ⟨_, h2, h3⟩ | ⟨b, r, _, h3, _⟩ <;> omega
theorem cut_z (a : Option Addr) (m : Nat) (sz : Nat) (hs : ∀ b, a = some b → b.spot = none) : Sl.cut a 0 m sz = a := by
  unfold Sl.cut
  split
  · rfl
  · cases a with
    | none => rfl
    | some b => obtain ⟨b, o, s⟩ := b; have := hs _ rfl; simp only at this; subst this; simp [Addr.add_lit]
/-- what a slice of one's own says of itself -/
theorem Ent.slO {a : Option Addr} {n c sz : Nat} {l : List Value} {p : WP} (h : l.length = n * sz → n ≤ c → (∀ b, a = some b → b.spot = none) → (a = none → n = 0) → Ent e (SlO a n c sz l :: ctx) p) : Ent e (SlO a n c sz l :: ctx) p := fun w hw => by
  obtain ⟨g, gl, k⟩ := Has.at_ .hd hw
  refine h k.1 k.c0 ?_ ?_ w hw
  · intro b hb
    rcases k.2 with ⟨h1, _⟩ | ⟨b', r, h1, _⟩
    · rw [h1] at hb; cases hb
    · rw [h1] at hb; cases hb; rfl
  · intro ha
    rcases k.2 with ⟨_, h1, _⟩ | ⟨b', r, h1, _⟩
    · exact h1
    · rw [h1] at ha; cases ha
theorem SlO.rd' {a : Option Addr} {n c sz : Nat} {l : List Value} (hh : Has ctx (SlO a n c sz l)) (hn : a = none → l = []) (hs : ∀ b, a = some b → b.spot = none) : Rd ctx a l := by
  cases a with
  | none => exact hn rfl
  | some b =>
    refine .inr ⟨hs b rfl, Rds.of_has hh fun h k => ?_⟩
    obtain ⟨_, k⟩ := k
    rcases k with ⟨k, _⟩ | ⟨b', r', hb, _, _, k⟩
    · cases k
    · cases hb
      exact rdc_pt (fun j v hj => by
        rw [Nat.zero_add, List.getElem?_append_left (List.getElem?_eq_some_iff.1 hj).1]; exact hj) h k
theorem Rd.pre {a : Option Addr} {l m : List Value} (h : Rd ctx a (l ++ m)) : Rd ctx a l := by simpa using h.take l.length
theorem Imp.slN {sz : Nat} {l l' : List HProp} (h : Imp l l') : Imp l (SlO none 0 0 sz [] :: l') := fun x k =>
  ⟨fun _ => none, x, fun _ => .inl rfl, fun _ _ e => (by cases e), Hp.le_refl _, ⟨by simp, .inl ⟨rfl, rfl, rfl⟩⟩, h x k⟩
theorem Ent.slN {sz : Nat} {l : List HProp} {c : WP} (h : Ent e (SlO none 0 0 sz [] :: l) c) : Ent e l c := h.imp (Imp.slN (Imp.refl _))
/-- a slice's own block -/
theorem SlO.open1 {a : Option Addr} {n c sz : Nat} {l : List Value} {k : WP} (h : ∀ b r, n ≤ c → a = some ⟨b, 0, none⟩ → Ent e (pt b (l ++ r) :: ctx) k) (h0 : a = none → n = 0 → l = [] → Ent e ctx k) : Ent e (SlO a n c sz l :: ctx) k := fun w hw => by
  obtain ⟨g1, g2, hd, l1, l2, ⟨hl, hA⟩, hr⟩ := hw.heap
  rcases hA with ⟨ha, hn0, _⟩ | ⟨b, r, ha, hc, _, hp⟩
  · exact h0 ha hn0 (List.eq_nil_of_length_eq_zero (by rw [hl, hn0, Nat.zero_mul])) w ⟨hw.os, hw.tape, hw.output, sepL_mono l2 hr⟩
  · exact h b r hc ha w ⟨hw.os, hw.tape, hw.output, g1, g2, hd, l1, l2, hp, hr⟩
/-- a slice that may be read lies somewhere, if there is anything to read -/
theorem rd_some {a : Option Addr} {l : List Value} (h : Rd ctx a l) (hl : 0 < l.length) : ∃ b off, a = some ⟨b, off, none⟩ ∧ Rds ctx b off l := by
  cases a with
  | none => have : l = [] := h; subst this; simp at hl
  | some a =>
    rcases h with h | ⟨hs, hr⟩
    · subst h; simp at hl
    · obtain ⟨b, off, s⟩ := a
      simp only at hs
      subst hs
      exact ⟨b, off, rfl, hr⟩
theorem st_ixN {t x sz by_ b off n c i : Nat} {k : IntKind} (ht : dd t = some (.sl x)) (hs : szof x = some (sz, by_)) (h1 : i < n) :
    Pu (vS (Instr.indexAt t (.slice (some ⟨b, off, none⟩) n c) (.int k i))) (.pointer (some ⟨b, off + i * sz, none⟩)) := by
  have := st_ix (b := b) (off := off) (c := c) (k := k) (i := (i : Int)) ht hs (by omega) (by omega : (i : Int) < n)
  simpa using this
theorem Ent.rdS {a : Option Addr} {n c sz : Nat} {l : List Value} {p : WP} (h : (∀ ctx', Has ctx' (SlO a n c sz l) → Rd ctx' a l) → n ≤ c → Ent e (SlO a n c sz l :: ctx) p) : Ent e (SlO a n c sz l :: ctx) p :=
  Ent.slO fun k1 k2 k3 k4 => h (fun ctx' hi => SlO.rd' hi (fun ha => List.eq_nil_of_length_eq_zero (by rw [k1, k4 ha, Nat.zero_mul])) k3) k2
theorem flat1 {X : Type} (f : X → Value) (xs : List X) : (xs.map fun y => [f y]).flatten = xs.map f := by
  induction xs with
  | nil => rfl
  | cons x r ih => simpa using ih
theorem flat_len {X : Type} (f : X → List Value) (k : Nat) (hf : ∀ x, (f x).length = k) (xs : List X) : ((xs.map f).flatten).length = xs.length * k := by
  induction xs with
  | nil => simp
  | cons x r ih => simp only [List.map_cons, List.flatten_cons, List.length_append, List.length_cons, hf, ih, Nat.succ_mul]; omega
theorem flat_sub {X : Type} (f : X → List Value) (k : Nat) (hf : ∀ x, (f x).length = k) {xs : List X} {i : Nat} {y : X} (hy : xs[i]? = some y) : (((xs.map f).flatten).drop (i * k)).take k = f y := by
  induction xs generalizing i with
  | nil => simp at hy
  | cons x r ih =>
    cases i with
    | zero =>
      simp only [List.getElem?_cons_zero, Option.some.injEq] at hy
      subst hy
      simp only [Nat.zero_mul, List.drop_zero, List.map_cons, List.flatten_cons]
      exact List.take_left' (hf x)
    | succ i =>
      simp only [List.getElem?_cons_succ] at hy
      have e1 : (i + 1) * k = (f x).length + i * k := by rw [hf, Nat.succ_mul]; omega
      simp only [List.map_cons, List.flatten_cons]
      rw [e1, List.drop_append, List.drop_eq_nil_of_le (by omega), List.nil_append]
      simpa using ih hy
/-- a struct or an array that may be read -/
theorem st_loadRA {t b off n i : Nat} {l cs : List Value} (hr : Rds ctx b off l) (ht : ag t = some n) (hv : (l.drop i).take n = cs) (hn : cs.length = n) :
    Still e ctx (vS (Instr.loadAt t (.pointer (some ⟨b, off + i, none⟩)))) (.agg cs.toArray) := fun w hw => by
  obtain ⟨i', d, h1, h2, h3, h4⟩ := ag_spec ht
  refine run_vS ?_
  obtain ⟨T, fr, c, g1, g2⟩ := hr _ hw.heap
  have hc : ∀ j v, cs[j]? = some v → w.cell? ⟨b, off + i + j, none⟩ = some v := by
    intro j v hj
    have hj' : l[i + j]? = some v := by
      rw [← hv, List.getElem?_take] at hj
      split at hj
      · rwa [List.getElem?_drop] at hj
      · cases hj
    have g1' : w.heap[b]? = some (.cells c T fr) := g1
    have := g2 _ _ hj'
    simp only [World.cell?, g1', Nat.add_assoc]
    simpa [Nat.add_assoc] using this
  have := run_loadCells_at hc
  rw [hn] at this
  simp [Instr.loadAt, Instr.sureAddr, loadVar, run_sizeOf' h1, h3, h4, this]
end
end Go.Proofs.YtfofnagocedlgaaDoor.Sl
end
