/-
  THE SECOND LAYER's RULES, operation by operation.
-/
import Derived.Test.YtiabhghlhnnnjaaGreatDoorRl
set_option maxRecDepth 100000
set_option linter.unusedVariables false
set_option linter.unusedSimpArgs false
namespace Go.Proofs.YtiabhghlhnnnjaaGreatDoor.Sl
open Go Sh

/-- in every world that holds 'ctx' the operation leaves the world alone and gives 'v' -/
def Still (e : Env) (ctx : List HProp) (s : Sem Next) (v : Value) : Prop := ∀ w, Sat e (sepL ctx) w → s.run P w = .ok (.value v) w

section
variable {e : Env} {ctx ctx' R : List HProp}
theorem Ent.opR {s : Sem Next} {v : Value} {c : Value → WP} (hs : Still e ctx s v) (h : Ent e ctx (c v)) : Ent e ctx (OpK P (.one .raw) s c) := fun w hw => by
  show NextK P s _ w; unfold NextK; rw [hs w hw]; exact ⟨v, rfl, h w hw⟩
theorem Ent.opI {s : Sem Next} {k : IntKind} {n : Int} {c : Int → WP} (hs : Still e ctx s (.int k n)) (h : Ent e ctx (c n)) : Ent e ctx (OpK P (.one (.int k)) s c) := fun w hw => by
  show NextK P s _ w; unfold NextK; rw [hs w hw]; exact ⟨n, rfl, h w hw⟩
theorem Ent.opB {s : Sem Next} {b : Bool} {c : Bool → WP} (hs : Still e ctx s (.bool b)) (h : Ent e ctx (c b)) : Ent e ctx (OpK P (.one .bool) s c) := fun w hw => by
  show NextK P s _ w; unfold NextK; rw [hs w hw]; exact ⟨b, rfl, h w hw⟩
theorem Ent.opS {s : Sem Next} {b : ByteArray} {c : ByteArray → WP} (hs : Still e ctx s (.string b)) (h : Ent e ctx (c b)) : Ent e ctx (OpK P (.one .str) s c) := fun w hw => by
  show NextK P s _ w; unfold NextK; rw [hs w hw]; exact ⟨b, rfl, h w hw⟩
theorem Ent.stR {s : Sem Next} {v : Value} {c : Value → WP} (hs : Still e R s v) (h : Ent e ctx (c v)) : Ent e ctx (StK P (Sat e (sepL R)) (.one .raw) s c) := fun w hw =>
  ⟨v, hs, v, rfl, h w hw⟩
theorem Ent.stI {s : Sem Next} {k : IntKind} {n : Int} {c : Int → WP} (hs : Still e R s (.int k n)) (h : Ent e ctx (c n)) : Ent e ctx (StK P (Sat e (sepL R)) (.one (.int k)) s c) := fun w hw =>
  ⟨_, hs, n, rfl, h w hw⟩
theorem Ent.stB {s : Sem Next} {b : Bool} {c : Bool → WP} (hs : Still e R s (.bool b)) (h : Ent e ctx (c b)) : Ent e ctx (StK P (Sat e (sepL R)) (.one .bool) s c) := fun w hw =>
  ⟨_, hs, b, rfl, h w hw⟩
theorem Ent.stS {s : Sem Next} {b : ByteArray} {c : ByteArray → WP} (hs : Still e R s (.string b)) (h : Ent e ctx (c b)) : Ent e ctx (StK P (Sat e (sepL R)) (.one .str) s c) := fun w hw =>
  ⟨_, hs, b, rfl, h w hw⟩
/-- in every world the operation gives 'v' -/
def Pu (s : Sem Next) (v : Value) : Prop := ∀ w, s.run P w = .ok (.value v) w
theorem Pu.still {s : Sem Next} {v : Value} (h : Pu s v) : Still e ctx s v := fun w _ => h w
theorem Ent.puR {s : Sem Next} {v : Value} {c : Value → WP} (hs : Pu s v) (h : Ent e ctx (c v)) : Ent e ctx (PuK P (.one .raw) s c) := fun w hw => ⟨v, hs, v, rfl, h w hw⟩
theorem Ent.puI {s : Sem Next} {k : IntKind} {n : Int} {c : Int → WP} (hs : Pu s (.int k n)) (h : Ent e ctx (c n)) : Ent e ctx (PuK P (.one (.int k)) s c) := fun w hw => ⟨_, hs, n, rfl, h w hw⟩
theorem Ent.puB {s : Sem Next} {b : Bool} {c : Bool → WP} (hs : Pu s (.bool b)) (h : Ent e ctx (c b)) : Ent e ctx (PuK P (.one .bool) s c) := fun w hw => ⟨_, hs, b, rfl, h w hw⟩
theorem Ent.puS {s : Sem Next} {b : ByteArray} {c : ByteArray → WP} (hs : Pu s (.string b)) (h : Ent e ctx (c b)) : Ent e ctx (PuK P (.one .str) s c) := fun w hw => ⟨_, hs, b, rfl, h w hw⟩
/-- an operation that turns the world -/
theorem Ent.act {r : RK} {s : Sem Next} {c : r.A} (h : ∀ w, Sat e (sepL ctx) w → ∃ v w', (s.run P w = .ok (.value v) w' ∨ s.run P w = .ok .skip w' ∧ v = undef) ∧ tyR r c v w') : Ent e ctx (OpK P r s c) := fun w hw => by
  obtain ⟨v, w', hr, hc⟩ := h w hw
  show NextK P s _ w
  unfold NextK
  rcases hr with hr | ⟨hr, rfl⟩ <;> rw [hr] <;> exact hc

theorem run_vS {s : Sem Value} {v : Value} {w w' : World} (h : s.run P w = .ok v w') : (vS s).run P w = .ok (.value v) w' := by simp [vS, h]
theorem run_uS {s : Sem Unit} {w w' : World} (h : s.run P w = .ok () w') : (uS s).run P w = .ok .skip w' := by simp [uS, h]
theorem Still.of_run {s : Sem Value} {v : Value} (h : ∀ w, s.run P w = .ok v w) : Pu (vS s) v := fun w => run_vS (h w)

/-! types -/
theorem ti_spec {t : TypeId} {x : TI} (h : ti t = some x) : ∃ i d, P.info? t = some i ∧ P.underlying t = some d ∧ i.size = x.size ∧ i.bytes = x.bytes ∧ dOf d = x.d := tiOf_spec (ti_ok h)
theorem zro_spec {t : TypeId} {z : List Value} (h : zro t = some z) : ∃ i v, P.info? t = some i ∧ i.zero = some v ∧ v.cells.toList = z := by
  have := zro_ok h
  unfold zeroOf at this
  cases hi : P.info? t with
  | none => simp [hi] at this
  | some i =>
    simp only [hi, Option.bind_some, Option.map_eq_some_iff] at this
    obtain ⟨v, hv, hz⟩ := this
    exact ⟨i, v, rfl, hv, hz⟩
theorem run_sizeOf' {t : TypeId} {i : TypeInfo} (h : P.info? t = some i) (w : World) : (sizeOf t).run P w = .ok i.size w := by simp [sizeOf, typeInfo, h]
theorem run_zero {t : TypeId} {i : TypeInfo} {v : Value} (h : P.info? t = some i) (hz : i.zero = some v) (w : World) : (zeroValue t).run P w = .ok v w := by simp [zeroValue, typeInfo, h, hz]
/-- a type of one cell -/
def sc (t : TypeId) : Bool := match ti t with
  | some ⟨1, _, .struct _⟩ => false
  | some ⟨1, _, .arr _ _⟩ => false
  | some ⟨1, _, _⟩ => true
  | _ => false
/-- a type of several cells: how many -/
def ag (t : TypeId) : Option Nat := match ti t with
  | some ⟨n, _, .struct _⟩ => some n
  | some ⟨n, _, .arr _ _⟩ => some n
  | _ => none
theorem sc_spec {t : TypeId} (h : sc t = true) : ∃ i d, P.info? t = some i ∧ P.underlying t = some d ∧ i.size = 1 ∧ ∀ w, (isAgg t).run P w = .ok false w := by
  unfold sc at h
  cases hx : ti t with
  | none => simp [hx] at h
  | some x =>
    obtain ⟨i, d, h1, h2, h3, h4, h5⟩ := ti_spec hx
    obtain ⟨n, b, dd⟩ := x
    simp only [hx] at h
    refine ⟨i, d, h1, h2, ?_, fun w => ?_⟩
    · split at h <;> simp_all
    · simp only at h5
      simp only [isAgg, Sem.run_bind, run_underlying h2, Result.andThen_ok]
      cases d <;> first | rfl | (exfalso; simp only [dOf] at h5; subst h5; split at h <;> first | (cases h; done) | (rename_i heq; simp only [Option.some.injEq, TI.mk.injEq] at heq; obtain ⟨_, _, rfl⟩ := heq; simp_all) | simp_all)
theorem ag_spec {t : TypeId} {n : Nat} (h : ag t = some n) : ∃ i d, P.info? t = some i ∧ P.underlying t = some d ∧ i.size = n ∧ ∀ w, (isAgg t).run P w = .ok true w := by
  unfold ag at h
  cases hx : ti t with
  | none => simp [hx] at h
  | some x =>
    obtain ⟨i, d, h1, h2, h3, h4, h5⟩ := ti_spec hx
    obtain ⟨m, b, dd⟩ := x
    simp only [hx] at h
    refine ⟨i, d, h1, h2, ?_, fun w => ?_⟩
    · split at h <;> simp_all
    · simp only at h5
      simp only [isAgg, Sem.run_bind, run_underlying h2, Result.andThen_ok]
      cases d <;> simp only [dOf] at h5 <;> first | rfl | (subst h5; simp at h)
/-- a field's place in a struct -/
def fld (t f : Nat) : Option Nat := match ti t with
  | some ⟨_, _, .struct fs⟩ => match fs[f]? with
    | some (off, ft) => match ti ft with
      | some ⟨n + 1, _, _⟩ => some off
      | _ => none
    | none => none
  | _ => none
theorem run_field {t f off : Nat} (h : fld t f = some off) (b o : Nat) (w : World) : (Instr.fieldAt t (.pointer (some ⟨b, o, none⟩)) f).run P w = .ok (.pointer (some ⟨b, o + off, none⟩)) w := by
  unfold fld at h
  split at h
  · rename_i sz by_ fs hx
    obtain ⟨i, d, h1, h2, h3, h4, h5⟩ := ti_spec hx
    simp only at h5
    cases d <;> simp only [dOf] at h5 <;> try (cases h5)
    rename_i fields
    cases hf : fields[f]? with
    | none => simp [hf] at h
    | some fd =>
      have e : (fields.toList.map fun f => (f.offset, f.type))[f]? = some (fd.offset, fd.type) := by simp [hf]
      rw [e] at h
      simp only at h
      split at h
      · rename_i n b' d' hft
        cases h
        obtain ⟨i', d', h1', _, h3', _, _⟩ := ti_spec hft
        have hs : i'.size ≠ 0 := by rw [h3']; simp
        simp [Instr.fieldAt, run_underlying h2, hf, Instr.sureAddr, fieldPlace, run_sizeOf' h1', hs, Addr.add_lit]
      · cases h
  · cases h
theorem st_field {t f off b o : Nat} (h : fld t f = some off) : Pu (vS (Instr.fieldAt t (.pointer (some ⟨b, o, none⟩)) f)) (.pointer (some ⟨b, o + off, none⟩)) := Still.of_run (run_field h b o)

/-! reading and writing cells -/
theorem cell_pt {b off : Nat} {l : List Value} {v : Value} {w : World} (hh : Has ctx (pt b l)) (hv : l[off]? = some v) (hw : Sat e (sepL ctx) w) : w.cell? ⟨b, off, none⟩ = some v := by
  obtain ⟨T, fr, hb, hf⟩ := hh.pt hw
  simp [World.cell?, hb, hv]
theorem st_load {t b off : Nat} {l : List Value} {v : Value} (hh : Has ctx (pt b l)) (ht : sc t = true) (hv : l[off]? = some v) : Still e ctx (vS (Instr.loadAt t (.pointer (some ⟨b, off, none⟩)))) v := fun w hw => by
  obtain ⟨i, d, h1, h2, h3, h4⟩ := sc_spec ht
  refine run_vS ?_
  simp [Instr.loadAt, Instr.sureAddr, loadVar, h4, cell_pt hh hv hw]
theorem run_loadCells_at {b off : Nat} {w : World} {cs : List Value} (h : ∀ j v, cs[j]? = some v → w.cell? ⟨b, off + j, none⟩ = some v) : (loadCells ⟨b, off, none⟩ cs.length).run P w = .ok cs.toArray w :=
  run_loadCells_list (P := P) w ⟨b, off, none⟩ cs (fun j v hv => by rw [Addr.add_lit]; exact h j v hv)
theorem st_loadA {t b off n : Nat} {l : List Value} {cs : List Value} (hh : Has ctx (pt b l)) (ht : ag t = some n) (hv : (l.drop off).take n = cs) (hn : cs.length = n) :
    Still e ctx (vS (Instr.loadAt t (.pointer (some ⟨b, off, none⟩)))) (.agg cs.toArray) := fun w hw => by
  obtain ⟨i, d, h1, h2, h3, h4⟩ := ag_spec ht
  refine run_vS ?_
  have hl : (loadCells ⟨b, off, none⟩ cs.length).run P w = .ok cs.toArray w := run_loadCells_at fun j v hj => by
    refine cell_pt hh ?_ hw
    rw [← hv, List.getElem?_take] at hj
    split at hj
    · rwa [List.getElem?_drop] at hj
    · cases hj
  rw [hn] at hl
  simp [Instr.loadAt, Instr.sureAddr, loadVar, h4, run_sizeOf' h1, h3, hl]
theorem run_storeCells_pt {b off : Nat} : ∀ (vs : List Value) (i : Nat) (l : List Value) (ctx : List HProp) (w : World), off + i + vs.length ≤ l.length → (∀ v ∈ vs, v.oneCell' = true) → Sat e (sepL (pt b l :: ctx)) w →
    ∃ w', (storeCells ⟨b, off, none⟩ vs i).run P w = .ok () w' ∧ Sat e (sepL (pt b (l.take (off + i) ++ vs ++ l.drop (off + i + vs.length)) :: ctx)) w'
  | [], i, l, ctx, w, hl, _, hw => ⟨w, rfl, by simpa using hw⟩
  | v :: vs, i, l, ctx, w, hl, h1, hw => by
    simp only [List.length_cons] at hl
    obtain ⟨T, fr, hb, hf⟩ := Has.pt .hd hw
    have hlt : off + i < l.length := by omega
    have hc : w.cell? ⟨b, off + i, none⟩ = some l[off + i] := by simp [World.cell?, hb, hlt]
    have hz : w.frozen? ⟨b, off + i, none⟩ = false := by
      have := hf _ hlt
      simp only [World.frozen?, hb]
      simp only [Bool.and_eq_false_iff, decide_eq_false_iff_not]
      by_cases h : fr.1 ≤ off + i
      · exact .inr fun k => this ⟨h, k⟩
      · exact .inl h
    have hst : (store (Addr.add ⟨b, off, none⟩ i) v).run P w = .ok () (w.setCell ⟨b, off + i, none⟩ v) := by
      rw [run_store P w _ v .plain (h1 v (by simp)), Addr.add_lit, hc, hz]; rfl
    have hrow : w.setCell ⟨b, off + i, none⟩ v = w.setRow b (l.set (off + i) v).toArray := by
      rw [setCell_eq_setRow w b (off + i) l.toArray T fr v hb]
      congr 1
      simp [hlt]
    have hw2 : Sat e (sepL (pt b (l.set (off + i) v) :: ctx)) (w.setRow b (l.set (off + i) v).toArray) := Sat.setRow (by simp) hw
    obtain ⟨w', hr, hs⟩ := run_storeCells_pt (off := off) vs (i + 1) (l.set (off + i) v) ctx _ (by simp; omega) (fun u hu => h1 u (by simp [hu])) hw2
    refine ⟨w', ?_, ?_⟩
    · simp only [storeCells, Sem.run_bind, hst, Result.andThen_ok, hrow]
      exact hr
    · have el : (l.set (off + i) v).take (off + (i + 1)) ++ vs ++ (l.set (off + i) v).drop (off + (i + 1) + vs.length) = l.take (off + i) ++ (v :: vs) ++ l.drop (off + i + (vs.length + 1)) := by
        have e1 : (l.set (off + i) v).take (off + (i + 1)) = l.take (off + i) ++ [v] := by
          rw [show off + (i + 1) = (off + i) + 1 by omega, List.take_succ_eq_append_getElem (by simpa using hlt)]
          simp
          exact List.take_set_of_le (Nat.le_refl _)
        have e2 : (l.set (off + i) v).drop (off + (i + 1) + vs.length) = l.drop (off + i + (vs.length + 1)) := by
          rw [List.drop_set_of_lt (by omega)]
          congr 1; omega
        rw [e1, e2]; simp
      rw [el] at hs
      simpa using hs
/-- a value of one cell -/
def one (v : Value) : Bool := v.oneCell'
theorem one_cells {v : Value} (h : one v = true) : v.cells = #[v] := by cases v <;> simp_all [one, Value.oneCell', Value.cells]
theorem Ent.store {t b off : Nat} {l : List Value} {v : Value} {c : Value → WP} (hu : Upd ctx (pt b l) (pt b (l.set off v)) ctx') (ht : sc t = true) (hv : one v = true) (ho : off < l.length)
    (h : Ent e ctx' (c undef)) : Ent e ctx (OpK P (.one .raw) (uS (Instr.storeAt t (.pointer (some ⟨b, off, none⟩)) v)) c) := Ent.act fun w hw => by
  obtain ⟨s, hp, hq⟩ := hu.pick
  obtain ⟨i, d, h1, h2, h3, h4⟩ := sc_spec ht
  obtain ⟨w', hr, hs⟩ := run_storeCells_pt (b := b) (off := off) [v] 0 l s w (by simp; omega) (by simpa [one] using hv) (hw.imp (sepL_perm hp.perm))
  refine ⟨undef, w', .inr ⟨run_uS ?_, rfl⟩, undef, rfl, h w' (hs.imp ?_)⟩
  · have hc := one_cells hv
    simp [Instr.storeAt, Instr.sureAddr, storeVar, run_sizeOf' h1, h3, hc, hr]
  · intro x k
    refine sepL_perm hq.symm x ?_
    have : l.set off v = l.take (off + 0) ++ [v] ++ l.drop (off + 0 + [v].length) := by
      simp [List.set_eq_take_append_cons_drop, ho]
    rw [this]; exact k
theorem Ent.storeA {t b off n : Nat} {l : List Value} {vs : List Value} {c : Value → WP} (hu : Upd ctx (pt b l) (pt b (l.take off ++ vs ++ l.drop (off + vs.length))) ctx') (ht : ag t = some n) (hv : vs.all one = true) (hn : vs.length = n)
    (ho : off + n ≤ l.length) (h : Ent e ctx' (c undef)) : Ent e ctx (OpK P (.one .raw) (uS (Instr.storeAt t (.pointer (some ⟨b, off, none⟩)) (.agg vs.toArray))) c) := Ent.act fun w hw => by
  obtain ⟨s, hp, hq⟩ := hu.pick
  obtain ⟨i, d, h1, h2, h3, h4⟩ := ag_spec ht
  obtain ⟨w', hr, hs⟩ := run_storeCells_pt (b := b) (off := off) vs 0 l s w (by omega) (fun v hm => List.all_eq_true.1 hv v hm) (hw.imp (sepL_perm hp.perm))
  refine ⟨undef, w', .inr ⟨run_uS ?_, rfl⟩, undef, rfl, h w' (hs.imp ?_)⟩
  · simp [Instr.storeAt, Instr.sureAddr, storeVar, run_sizeOf' h1, h3, Value.cells, hn, hr]
  · intro x k; exact sepL_perm hq.symm x k
/-! new blocks -/
theorem Ent.box {t : Nat} {v : Value} {l : List Value} {c : Value → WP} (hl : v.cells.toList = l) (h : ∀ b, Ent e (pt b l :: ctx) (c (.pointer (some ⟨b, 0, none⟩)))) : Ent e ctx (OpK P (.one .raw) (vS (Instr.box t v)) c) := Ent.act fun w hw => by
  subst hl
  refine ⟨.pointer (some ⟨w.heap.size, 0, none⟩), w.alloc (.cells v.cells t), .inl (run_vS ?_), _, rfl, h w.heap.size _ ?_⟩
  · rfl
  · have := hw.new v.cells.toList t
    simpa using this
theorem Ent.alloc {t : Nat} {l : List Value} {c : Value → WP} (hl : zro t = some l) (h : ∀ b, Ent e (pt b l :: ctx) (c (.pointer (some ⟨b, 0, none⟩)))) : Ent e ctx (OpK P (.one .raw) (vS (Instr.alloc t true (.tuple #[]))) c) := Ent.act fun w hw => by
  obtain ⟨i, v, h1, h2, rfl⟩ := zro_spec hl
  refine ⟨.pointer (some ⟨w.heap.size, 0, none⟩), w.alloc (.cells v.cells t), .inl (run_vS ?_), _, rfl, h w.heap.size _ ?_⟩
  · simp only [Instr.alloc, Sem.run_bind, run_zero h1 h2, Result.andThen_ok]
    rfl
  · have := hw.new v.cells.toList t
    simpa using this
/-! ## reckoning -/
theorem guard_ptr (op : BinOp) (t : TypeId) (x y : Operand) (a b : Option Addr) (w : World) : (eqGuard op t x y (.pointer a) (.pointer b)).run P w = .ok () w := by
  unfold eqGuard; split <;> rfl
theorem guard_slice (op : BinOp) (t : TypeId) (x y : Operand) (a b : Option Addr) (n m c d : Nat) (w : World) : (eqGuard op t x y (.slice a n c) (.slice b m d)).run P w = .ok () w := by
  unfold eqGuard; split <;> rfl
theorem guard_int (op : BinOp) (t : TypeId) (x y : Operand) (k k' : IntKind) (a b : Int) (w : World) : (eqGuard op t x y (.int k a) (.int k' b)).run P w = .ok () w := by
  unfold eqGuard; split <;> rfl
theorem guard_str (op : BinOp) (t : TypeId) (x y : Operand) (a b : ByteArray) (w : World) : (eqGuard op t x y (.string a) (.string b)).run P w = .ok () w := by
  unfold eqGuard; split <;> rfl
theorem guard_bool (op : BinOp) (t : TypeId) (x y : Operand) (a b : Bool) (w : World) : (eqGuard op t x y (.bool a) (.bool b)).run P w = .ok () w := by
  unfold eqGuard; split <;> rfl
theorem guard_map (op : BinOp) (t : TypeId) (x y : Operand) (a b : Option Nat) (w : World) : (eqGuard op t x y (.map a) (.map b)).run P w = .ok () w := by
  unfold eqGuard; split <;> rfl
theorem guard_flt (op : BinOp) (t : TypeId) (x y : Operand) (k k' : FloatKind) (a b : Nat) (w : World) : (eqGuard op t x y (.float k a) (.float k' b)).run P w = .ok () w := by
  unfold eqGuard; split <;> rfl
theorem guard_cpl (op : BinOp) (t : TypeId) (x y : Operand) (k k' : FloatKind) (a b c d : Nat) (w : World) : (eqGuard op t x y (.complex k a b) (.complex k' c d)).run P w = .ok () w := by
  unfold eqGuard; split <;> rfl
theorem still_bS {op : BinOp} {t : TypeId} {x y : Operand} {a b v : Value} (hg : ∀ w, (eqGuard op t x y a b).run P w = .ok () w) (h : ∀ w, (binOp op t a b).run P w = .ok v w) : Pu (bS op t x y a b) v :=
  Still.of_run fun w => by simp [hg, h]
/-- what a type is -/
def dd (t : TypeId) : Option D := (ti t).map (·.d)
theorem dd_ptr {t x : TypeId} (h : dd t = some (.ptr x)) : P.underlying t = some (.pointer x) := by
  unfold dd at h; cases hx : ti t with
  | none => simp [hx] at h
  | some y =>
    simp only [hx, Option.map_some, Option.some.injEq] at h
    obtain ⟨i, d, _, h2, _, _, h5⟩ := ti_spec hx
    rw [h] at h5; cases d <;> simp only [dOf] at h5 <;> cases h5; exact h2
theorem dd_sl {t x : TypeId} (h : dd t = some (.sl x)) : P.underlying t = some (.slice x) := by
  unfold dd at h; cases hx : ti t with
  | none => simp [hx] at h
  | some y =>
    simp only [hx, Option.map_some, Option.some.injEq] at h
    obtain ⟨i, d, _, h2, _, _, h5⟩ := ti_spec hx
    rw [h] at h5; cases d <;> simp only [dOf] at h5 <;> cases h5; exact h2
theorem dd_arr {t n x : Nat} (h : dd t = some (.arr n x)) : P.underlying t = some (.array n x) := by
  unfold dd at h; cases hx : ti t with
  | none => simp [hx] at h
  | some y =>
    simp only [hx, Option.map_some, Option.some.injEq] at h
    obtain ⟨i, d, _, h2, _, _, h5⟩ := ti_spec hx
    rw [h] at h5; cases d <;> simp only [dOf] at h5 <;> cases h5; exact h2
theorem dd_mp {t k x : TypeId} (h : dd t = some (.mp k x)) : P.underlying t = some (.map k x) := by
  unfold dd at h; cases hx : ti t with
  | none => simp [hx] at h
  | some y =>
    simp only [hx, Option.map_some, Option.some.injEq] at h
    obtain ⟨i, d, _, h2, _, _, h5⟩ := ti_spec hx
    rw [h] at h5; cases d <;> simp only [dOf] at h5 <;> cases h5; exact h2
theorem dd_int {t : TypeId} {k : IntKind} (h : dd t = some (.int k)) : P.underlying t = some (.int k) := by
  unfold dd at h; cases hx : ti t with
  | none => simp [hx] at h
  | some y =>
    simp only [hx, Option.map_some, Option.some.injEq] at h
    obtain ⟨i, d, _, h2, _, _, h5⟩ := ti_spec hx
    rw [h] at h5; cases d <;> simp only [dOf] at h5 <;> cases h5; exact h2
theorem dd_str {t : TypeId} (h : dd t = some .str) : P.underlying t = some .string := by
  unfold dd at h; cases hx : ti t with
  | none => simp [hx] at h
  | some y =>
    simp only [hx, Option.map_some, Option.some.injEq] at h
    obtain ⟨i, d, _, h2, _, _, h5⟩ := ti_spec hx
    rw [h] at h5; cases d <;> simp only [dOf] at h5 <;> cases h5; exact h2
theorem dd_bool {t : TypeId} (h : dd t = some .bool) : P.underlying t = some .bool := by
  unfold dd at h; cases hx : ti t with
  | none => simp [hx] at h
  | some y =>
    simp only [hx, Option.map_some, Option.some.injEq] at h
    obtain ⟨i, d, _, h2, _, _, h5⟩ := ti_spec hx
    rw [h] at h5; cases d <;> simp only [dOf] at h5 <;> cases h5; exact h2
theorem dd_flt {t : TypeId} {k : FloatKind} (h : dd t = some (.flt k)) : P.underlying t = some (.float k) := by
  unfold dd at h; cases hx : ti t with
  | none => simp [hx] at h
  | some y =>
    simp only [hx, Option.map_some, Option.some.injEq] at h
    obtain ⟨i, d, _, h2, _, _, h5⟩ := ti_spec hx
    rw [h] at h5; cases d <;> simp only [dOf] at h5 <;> cases h5; exact h2
/-- cells and bytes of a type -/
def szof (t : TypeId) : Option (Nat × Nat) := (ti t).map fun x => (x.size, x.bytes)
theorem szof_spec {t n b : Nat} (h : szof t = some (n, b)) : ∃ i, P.info? t = some i ∧ i.size = n ∧ i.bytes = b := by
  unfold szof at h; cases hx : ti t with
  | none => simp [hx] at h
  | some y =>
    simp only [hx, Option.map_some, Option.some.injEq, Prod.mk.injEq] at h
    obtain ⟨i, d, h1, _, h3, h4, _⟩ := ti_spec hx
    exact ⟨i, h1, h3.trans h.1, h4.trans h.2⟩

/-! pointers against nil -/
theorem equal_deep (t : TypeId) (x y : Value) : ∃ d, Op.equal t x y = Op.equalIn (d + 1) t x y := ⟨9999, rfl⟩
theorem run_eql_ptr {t x : TypeId} (ht : dd t = some (.ptr x)) (a b : Option Addr) (hn : a = none ∨ b = none) (w : World) : (Op.equal t (.pointer a) (.pointer b)).run P w = .ok (a.isNone && b.isNone) w := by
  obtain ⟨dp, hdp⟩ := equal_deep t (.pointer a) (.pointer b)
  rw [hdp]
  simp only [Op.equalIn, Sem.run_bind, run_underlying (dd_ptr ht), Result.andThen_ok]
  rcases hn with rfl | rfl
  · simp
  · cases a <;> simp
theorem st_nilP {t x : TypeId} {X Y : Operand} {a b : Option Addr} (ht : dd t = some (.ptr x)) (hn : a = none ∨ b = none) : Pu (bS .eql t X Y (.pointer a) (.pointer b)) (.bool (a.isNone && b.isNone)) :=
  still_bS (guard_ptr _ _ _ _ _ _) fun w => by simp [binOp, run_eql_ptr ht a b hn]
theorem st_nnilP {t x : TypeId} {X Y : Operand} {a b : Option Addr} (ht : dd t = some (.ptr x)) (hn : a = none ∨ b = none) : Pu (bS .neq t X Y (.pointer a) (.pointer b)) (.bool (!(a.isNone && b.isNone))) :=
  still_bS (guard_ptr _ _ _ _ _ _) fun w => by simp [binOp, run_eql_ptr ht a b hn]
theorem run_eql_sl {t x : TypeId} (ht : dd t = some (.sl x)) (a b : Option Addr) (n m c d : Nat) (hn : a = none ∨ b = none) (w : World) : (Op.equal t (.slice a n c) (.slice b m d)).run P w = .ok (a.isNone && b.isNone) w := by
  obtain ⟨dp, hdp⟩ := equal_deep t (.slice a n c) (.slice b m d)
  rw [hdp]
  simp only [Op.equalIn, Sem.run_bind, run_underlying (dd_sl ht), Result.andThen_ok]
  rcases hn with rfl | rfl
  · simp
  · cases a <;> simp
theorem st_nilS {t x : TypeId} {X Y : Operand} {a b : Option Addr} {n m c d : Nat} (ht : dd t = some (.sl x)) (hn : a = none ∨ b = none) : Pu (bS .eql t X Y (.slice a n c) (.slice b m d)) (.bool (a.isNone && b.isNone)) :=
  still_bS (guard_slice _ _ _ _ _ _ _ _ _ _) fun w => by simp [binOp, run_eql_sl ht a b n m c d hn]
theorem st_nnilS {t x : TypeId} {X Y : Operand} {a b : Option Addr} {n m c d : Nat} (ht : dd t = some (.sl x)) (hn : a = none ∨ b = none) : Pu (bS .neq t X Y (.slice a n c) (.slice b m d)) (.bool (!(a.isNone && b.isNone))) :=
  still_bS (guard_slice _ _ _ _ _ _ _ _ _ _) fun w => by simp [binOp, run_eql_sl ht a b n m c d hn]
theorem run_eql_mp {t k x : TypeId} (ht : dd t = some (.mp k x)) (a b : Option Nat) (hn : a = none ∨ b = none) (w : World) : (Op.equal t (.map a) (.map b)).run P w = .ok (a.isNone && b.isNone) w := by
  obtain ⟨dp, hdp⟩ := equal_deep t (.map a) (.map b)
  rw [hdp]
  simp only [Op.equalIn, Sem.run_bind, run_underlying (dd_mp ht), Result.andThen_ok]
  rcases hn with rfl | rfl
  · simp
  · cases a <;> simp
theorem st_nilM {t k x : TypeId} {X Y : Operand} {a b : Option Nat} (ht : dd t = some (.mp k x)) (hn : a = none ∨ b = none) : Pu (bS .eql t X Y (.map a) (.map b)) (.bool (a.isNone && b.isNone)) :=
  still_bS (guard_map _ _ _ _ _ _) fun w => by simp [binOp, run_eql_mp ht a b hn]
theorem st_nnilM {t k x : TypeId} {X Y : Operand} {a b : Option Nat} (ht : dd t = some (.mp k x)) (hn : a = none ∨ b = none) : Pu (bS .neq t X Y (.map a) (.map b)) (.bool (!(a.isNone && b.isNone))) :=
  still_bS (guard_map _ _ _ _ _ _) fun w => by simp [binOp, run_eql_mp ht a b hn]
theorem run_eql_bool {t : TypeId} (ht : dd t = some .bool) (a b : Bool) (w : World) : (Op.equal t (.bool a) (.bool b)).run P w = .ok (a == b) w := by
  obtain ⟨dp, hdp⟩ := equal_deep t (.bool a) (.bool b)
  rw [hdp]
  simp [Op.equalIn, run_underlying (dd_bool ht)]
theorem st_eqB {t : TypeId} {X Y : Operand} {a b : Bool} (ht : dd t = some .bool) : Pu (bS .eql t X Y (.bool a) (.bool b)) (.bool (a == b)) :=
  still_bS (guard_bool _ _ _ _ _ _) fun w => by simp [binOp, run_eql_bool ht]
theorem st_neB {t : TypeId} {X Y : Operand} {a b : Bool} (ht : dd t = some .bool) : Pu (bS .neq t X Y (.bool a) (.bool b)) (.bool (a != b)) :=
  still_bS (guard_bool _ _ _ _ _ _) fun w => by simp [binOp, run_eql_bool ht, bne]

/-! numbers -/
theorem st_rem {t : TypeId} {X Y : Operand} {k : IntKind} {a b : Int} (hb : b ≠ 0) : Pu (bS .rem t X Y (.int k a) (.int k b)) (.int k (a.tmod b)) :=
  still_bS (guard_int _ _ _ _ _ _ _ _) fun w => by simp [binOp, Op.intDiv, hb]
theorem st_quo {t : TypeId} {X Y : Operand} {k : IntKind} {a b : Int} (hb : b ≠ 0) (hr : inR k (a.tdiv b)) : Pu (bS .quo t X Y (.int k a) (.int k b)) (.int k (a.tdiv b)) :=
  still_bS (guard_int _ _ _ _ _ _ _ _) fun w => by simp [binOp, Op.intDiv, hb, wrap_in hr]
theorem st_xor {t : TypeId} {X Y : Operand} {k : IntKind} {a b : Int} : Pu (bS .xor t X Y (.int k a) (.int k b)) (.int k (k.wrap (BitVec.ofInt k.bits a ^^^ BitVec.ofInt k.bits b).toNat)) :=
  still_bS (guard_int _ _ _ _ _ _ _ _) fun w => by simp [binOp, Op.intBits]
theorem st_and {t : TypeId} {X Y : Operand} {k : IntKind} {a b : Int} : Pu (bS .and t X Y (.int k a) (.int k b)) (.int k (k.wrap (BitVec.ofInt k.bits a &&& BitVec.ofInt k.bits b).toNat)) :=
  still_bS (guard_int _ _ _ _ _ _ _ _) fun w => by simp [binOp, Op.intBits]
theorem st_or {t : TypeId} {X Y : Operand} {k : IntKind} {a b : Int} : Pu (bS .or t X Y (.int k a) (.int k b)) (.int k (k.wrap (BitVec.ofInt k.bits a ||| BitVec.ofInt k.bits b).toNat)) :=
  still_bS (guard_int _ _ _ _ _ _ _ _) fun w => by simp [binOp, Op.intBits]
theorem run_conv {s d : TypeId} {k k' : IntKind} (hs : dd s = some (.int k)) (hd : dd d = some (.int k')) (n : Int) (w : World) : (convert s d (.int k n)).run P w = .ok (.int k' (k'.wrap n)) w := by
  simp [convert, run_underlying (dd_int hs), run_underlying (dd_int hd), Conv.intToInt]
theorem st_conv {s d : TypeId} {k k' : IntKind} {n : Int} (hs : dd s = some (.int k)) (hd : dd d = some (.int k')) (hr : inR k' n) : Pu (vS (convert s d (.int k n))) (.int k' n) :=
  Still.of_run fun w => by rw [run_conv hs hd, wrap_in hr]
theorem st_convw {s d : TypeId} {k k' : IntKind} {n : Int} (hs : dd s = some (.int k)) (hd : dd d = some (.int k')) : Pu (vS (convert s d (.int k n))) (.int k' (k'.wrap n)) := Still.of_run (run_conv hs hd n)
theorem st_min {ts : Array TypeId} {t : TypeId} {k : IntKind} {a b : Int} : Pu (vS (Builtin.min_ ts t #[.int k a, .int k b])) (.int k (if b < a then b else a)) := Still.of_run fun w => by
  simp [Builtin.min_, Builtin.min2]
theorem st_max {ts : Array TypeId} {t : TypeId} {k : IntKind} {a b : Int} : Pu (vS (Builtin.max_ ts t #[.int k a, .int k b])) (.int k (if b > a then b else a)) := Still.of_run fun w => by
  simp [Builtin.max_, Builtin.max2]

/-! slices and strings -/
theorem st_len {t x ty : TypeId} {a : Option Addr} {n c : Nat} (ht : dd t = some (.sl x)) : Pu (vS (Builtin.len_ #[t] ty #[.slice a n c])) (.int .i64 n) := Still.of_run fun w => by
  simp [Builtin.len_, run_underlying (dd_sl ht), goInt]
theorem st_cap {t x ty : TypeId} {a : Option Addr} {n c : Nat} (ht : dd t = some (.sl x)) : Pu (vS (Builtin.cap_ #[t] ty #[.slice a n c])) (.int .i64 c) := Still.of_run fun w => by
  simp [Builtin.cap_, run_underlying (dd_sl ht), goInt]
theorem st_lenS {t ty : TypeId} {s : ByteArray} (ht : dd t = some .str) : Pu (vS (Builtin.len_ #[t] ty #[.string s])) (.int .i64 s.size) := Still.of_run fun w => by
  simp [Builtin.len_, run_underlying (dd_str ht), goInt]
theorem st_ix {t x sz by_ b off n c : Nat} {k : IntKind} {i : Int} (ht : dd t = some (.sl x)) (hs : szof x = some (sz, by_)) (h0 : 0 ≤ i) (h1 : i < n) :
    Pu (vS (Instr.indexAt t (.slice (some ⟨b, off, none⟩) n c) (.int k i))) (.pointer (some ⟨b, off + i.toNat * sz, none⟩)) := Still.of_run fun w => by
  obtain ⟨i', h2, h3, _⟩ := szof_spec hs
  have hz : (P.info? x).map (·.size) = some sz := by simp [h2, h3]
  simp [Instr.indexAt, asIntOf, run_underlying (dd_sl ht), h0, h1, run_sizeOf' h2, h3, Addr.add_lit]
/-- an array's element, by its address -/
theorem st_ixA {t x m sz by_ b off : Nat} {k : IntKind} {i : Int} (ht : dd t = some (.arr m x)) (hs : szof x = some (sz, by_)) (h0 : 0 ≤ i) (h1 : i < m) :
    Pu (vS (Instr.indexAt t (.pointer (some ⟨b, off, none⟩)) (.int k i))) (.pointer (some ⟨b, off + i.toNat * sz, none⟩)) := Still.of_run fun w => by
  obtain ⟨i', h2, h3, _⟩ := szof_spec hs
  simp [Instr.indexAt, Instr.sureAddr, asIntOf, run_underlying (dd_arr ht), h0, h1, run_sizeOf' h2, h3, Addr.add_lit]
theorem st_ixS {t : TypeId} {s : ByteArray} {k : IntKind} {i : Int} (ht : dd t = some .str) (h0 : 0 ≤ i) (h1 : i.toNat < s.size) :
    Pu (vS (Instr.index t (.string s) (.int k i))) (.int .u8 (s[i.toNat]).toNat) := Still.of_run fun w => by
  simp [Instr.index, asIntOf, run_underlying (dd_str ht), h0, h1]
end
end Go.Proofs.YtiabhghlhnnnjaaGreatDoor.Sl
