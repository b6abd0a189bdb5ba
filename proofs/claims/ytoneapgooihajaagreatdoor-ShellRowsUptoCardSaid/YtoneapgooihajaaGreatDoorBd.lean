/-
  BUILDERS: a strings.Builder that holds bytes ('Bld b l'): made, written to, asked for its length, read.
-/
import Derived.Test.YtoneapgooihajaaGreatDoorPx
import Derived.Lib.Builder
import Derived.Lib.AppendStr
import Derived.Lib.UnsafeStr
set_option maxRecDepth 100000
set_option linter.unusedVariables false
set_option linter.unusedSectionVars false
set_option linter.unusedSimpArgs false
namespace Go.Proofs.YtoneapgooihajaaGreatDoor.Sl
open Go Sh
/-- cells of a type -/
abbrev tc (l : List Value) (T : TypeId) : Obj := .cells l.toArray T (0, 0)
section
variable {e : Env} {ctx ctx' R : List HProp}
/-- a bound method called -/
theorem Ent.callB {r : RK} {f : FuncId} {first args : Array Value} {c : r.A} (hf : memN cll f = true) (h : Ent e ctx (FnK P r f (first ++ args) c)) : Ent e ctx (OpK P r (callS (.func (.func f) first #[]) args) c) := fun w hw => by
  show NextK P _ _ w
  have hr : (callS (.func (.func f) first #[]) args).run P w = .ok (.enter f (first ++ args)) w := by
    simp only [callS, Deferred.ofValue, Sem.run_bind, Sem.run_pure, Result.andThen_ok, invoke]
    have := callFunc_run (P := P) (cx_ok.calls f hf) (first ++ args ++ #[]) w
    rw [this]
    simp
  unfold NextK
  rw [hr]
  exact h w hw
theorem ob_rds {b : Nat} {l : List Value} {T : TypeId} (hh : Has ctx (ob b (tc l T))) : Rds ctx b 0 l := fun x k => by
  obtain ⟨r, hr⟩ := hh.pick
  obtain ⟨g1, g2, _, l1, _, a', _⟩ := sepL_perm hr.perm _ k
  exact ⟨T, (0, 0), l.toArray, l1 _ _ a', fun j v hj => by simpa using hj⟩
theorem Ent.allocT {t : Nat} {l : List Value} {c : Value → WP} (h : ∀ b, Ent e (ob b (tc l t) :: ctx) (c (.pointer (some ⟨b, 0, none⟩)))) (hl : zro t = some l := by exact rfl) : Ent e ctx (OpK P (.one .raw) (vS (Instr.alloc t true (.tuple #[]))) c) := Ent.act fun w hw => by
  obtain ⟨i, v, h1, h2, rfl⟩ := zro_spec hl
  refine ⟨.pointer (some ⟨w.heap.size, 0, none⟩), w.alloc (.cells v.cells t), .inl (run_vS ?_), _, rfl, h w.heap.size _ ?_⟩
  · simp only [Instr.alloc, Sem.run_bind, run_zero h1 h2, Result.andThen_ok]
    rfl
  · have := hw.alloc (.cells v.cells t)
    simpa [tc] using this
theorem Ent.storeT {t b off : Nat} {l : List Value} {T : TypeId} {v : Value} {c : Value → WP} (hp : Pick ctx (ob b (tc l T)) ctx') (ht : sc t = true) (hv : one v = true) (ho : off < l.length)
    (h : Ent e (ob b (tc (l.set off v) T) :: ctx') (c undef)) : Ent e ctx (OpK P (.one .raw) (uS (Instr.storeAt t (.pointer (some ⟨b, off, none⟩)) v)) c) := Ent.act fun w hw => by
  obtain ⟨i, d, h1, h2, h3, h4⟩ := sc_spec ht
  have hw2 := hw.imp (sepL_perm hp.perm)
  have hb : w.heap[b]? = some (tc l T) := Has.ob .hd hw2
  have hc : w.cell? ⟨b, off, none⟩ = some l[off] := by simp [World.cell?, hb, ho]
  have hz : w.frozen? ⟨b, off, none⟩ = false := by simp [World.frozen?, hb]
  have hst : (Go.store (Addr.add ⟨b, off, none⟩ 0) v).run P w = .ok () (w.setCell ⟨b, off, none⟩ v) := by
    rw [run_store P w _ v .plain (by simpa [one] using hv), Addr.add_lit, Nat.add_zero, hc, hz]; rfl
  have hrow : w.setCell ⟨b, off, none⟩ v = w.setRow b (l.set off v).toArray := by
    rw [setCell_eq_setRow w b off l.toArray T (0, 0) v hb]
    congr 1
    simp [ho]
  have hs : Sat e (sepL (ob b (tc (l.set off v) T) :: ctx')) (w.setRow b (l.set off v).toArray) :=
    Sat.turn hw2 (fun _ k => k) (fun _ k => k) rfl rfl rfl (setRow_heap w b _ _ T (0, 0) hb) (fun i hi => setRow_other w b i _ hi)
  refine ⟨undef, _, .inr ⟨run_uS ?_, rfl⟩, undef, rfl, h _ (hrow ▸ hs)⟩
  have hc := one_cells hv
  simp [Instr.storeAt, Instr.sureAddr, storeVar, run_sizeOf' h1, h3, hc, storeCells, hst]
/-- a row of bytes that is one's own, its block of uint8 -/
def RowT (v : Value) (l : List UInt8) : HProp := fun h => (v = .slice none 0 0 ∧ l = []) ∨
  ∃ g cap r, v = .slice (some ⟨g, 0, none⟩) l.length cap ∧ ob g (tc (u8 l ++ r) 5) h ∧ (u8 l ++ r).length = cap ∧ 0 < cap
theorem strCells_ba (l : List UInt8) : Lib.strCells (ba l) = u8 l := rfl
theorem Ent.appS {t u ty : Nat} {v : Value} {l s : List UInt8} {k : Value → WP} (hp : Pick ctx (RowT v l) ctx') (hl : l.length + s.length ≤ 140737488355328)
    (h : ∀ v', Ent e (RowT v' (l ++ s) :: ctx') (k v')) (ht : dd t = some (.sl 5) := by exact rfl) (hu : dd u = some .str := by exact rfl) :
    Ent e ctx (OpK P (.one .raw) (vS (Builtin.append_ #[t, u] ty #[v, .string (ba s)])) k) := Ent.act fun w hw => by
  have hs : szof 5 = some (1, 1) := rfl
  obtain ⟨i, h4, h5, h6⟩ := szof_spec hs
  have hz : zro 5 = some [.int .u8 0] := rfl
  obtain ⟨i', zv, g1, g2, g3⟩ := zro_spec hz
  rw [h4] at g1; cases g1
  have hzv : zv.cells = #[.int .u8 0] := by
    have := congrArg List.toArray g3
    simpa using this
  have hu' := dd_str hu
  have ht' := dd_sl ht
  have hsz : (ba s).size = s.length := by simp [ByteArray.size]
  have hw2 := hw.imp (sepL_perm hp.perm)
  obtain ⟨q1, q2, hd, l1, l2, hA, hr⟩ := hw2.heap
  rcases hA with ⟨rfl, rfl⟩ | ⟨g, cap, r, rfl, hg, hcap, hcap0⟩
  · have hw3 : Sat e (sepL ctx') w := hw2.imp fun _ => sepL_drop
    by_cases h0 : s = []
    · subst h0
      refine ⟨.slice none 0 0, w, .inl (run_vS ?_), _, rfl, h _ w (hw3.imp fun x kx => ⟨fun _ => none, x, fun _ => .inl rfl, (fun _ _ hh => by cases hh), Hp.le_refl x, .inl ⟨rfl, rfl⟩, kx⟩)⟩
      have hf := Lib.run_firstCells_string (P := P) w 1 ByteArray.empty
      have hf0 : ByteArray.empty.size = 0 := rfl
      rw [hf0] at hf
      rw [show ba ([] : List UInt8) = ByteArray.empty from rfl]
      simp only [Builtin.append_, List.getElem?_toArray, List.getElem?_cons_zero, List.getElem?_cons_succ, Sem.run_bind, run_underlying ht', run_underlying hu', Result.andThen_ok, run_sizeOf' h4, h5, Builtin.lenOf, Sem.run_pure]
      simp [hf, Lib.strCells]
    · have hpos : 0 < s.length := List.length_pos_iff.2 h0
      have hrun := run_append_nil_string (P := P) (w := w) t u ty _ i zv ht' hu' h4 g2 (ba s) (by rw [hsz]; exact hpos) (by rw [hsz]; simp at hl; omega) (by rw [hsz, h6]; simp at hl; omega)
      rw [hsz] at hrun
      refine ⟨_, _, .inl (run_vS hrun), _, rfl, h _ _ ?_⟩
      have ha := (hw3.drawn (w.drawn + 1)).alloc (.cells ((ba s).data.map (fun b => Value.int .u8 b.toNat) ++ Builtin.zeroCells zv.cells (grownCap w s.length 0 5 - s.length)) 5)
      refine ha.imp fun x kx => sepL_cons (fun hp2 hh => .inr ⟨w.heap.size, _, (Builtin.zeroCells zv.cells (grownCap w s.length 0 5 - s.length)).toList, rfl, ?_, ?_, by have := grownCap_ge w s.length 0 5; omega⟩) (fun _ z => z) kx
      · have e1 : (tc (u8 ([] ++ s) ++ (Builtin.zeroCells zv.cells (grownCap w s.length 0 5 - s.length)).toList) 5) = .cells ((ba s).data.map (fun b => Value.int .u8 b.toNat) ++ Builtin.zeroCells zv.cells (grownCap w s.length 0 5 - s.length)) 5 (0, 0) := by
          simp [tc, u8]
        rw [e1]; exact hh
      · have := grownCap_ge w s.length 0 5
        simp [size_zeroCells, hzv]; omega
  · have hb : w.heap[g]? = some (tc (u8 l ++ r) 5) := l1 _ _ hg
    by_cases hroom : l.length + s.length ≤ cap
    · have hrun := Lib.run_append_room_string (P := P) w t u ty _ i ht' hu' h4 h5 g l.length cap _ hb (ba s) (by rw [hsz]; exact hroom) (by rw [hsz]; simpa using (by rw [← hcap] at hroom; simpa using hroom))
      rw [hsz] at hrun
      refine ⟨_, _, .inl (run_vS hrun), _, rfl, h _ _ ?_⟩
      have e1 : ((u8 l ++ r).toArray.toList.take l.length ++ Lib.strCells (ba s) ++ (u8 l ++ r).toArray.toList.drop (l.length + s.length)) = u8 (l ++ s) ++ r.drop s.length := by
        have h1 : (u8 l ++ r).take l.length = u8 l := List.take_left' (by simp)
        have h2 : (u8 l ++ r).drop (l.length + s.length) = r.drop s.length := by
          rw [← List.drop_drop, List.drop_left' (by simp)]
        simp only [strCells_ba, h1, h2, u8_append]
      rw [e1]
      have hs2 : Sat e (sepL (ob g (tc (u8 (l ++ s) ++ r.drop s.length) 5) :: ctx')) (w.setRow g (u8 (l ++ s) ++ r.drop s.length).toArray) := by
        refine Sat.turn (A := ob g (tc (u8 l ++ r) 5)) (w := w) ⟨hw2.os, hw2.tape, hw2.output, q1, q2, hd, l1, l2, hg, hr⟩ (fun _ k => k) (fun _ k => k) rfl rfl rfl (setRow_heap w g _ _ 5 (0, 0) hb) (fun i hi => setRow_other w g i _ hi)
      refine hs2.imp fun x kx => sepL_cons (fun hp2 hh => .inr ⟨g, cap, r.drop s.length, by simp, hh, ?_, hcap0⟩) (fun _ z => z) kx
      rw [← hcap] at hroom ⊢
      simp at hroom ⊢
      omega
    · have hcells : ∀ j v, (u8 l)[j]? = some v → w.cell? ((⟨g, 0, none⟩ : Addr).add j) = some v := by
        intro j v hj
        rw [Addr.add_lit, Nat.zero_add]
        simp [World.cell?, hb, List.getElem?_append_left (List.getElem?_eq_some_iff.1 hj).1, hj]
      have hrun := Lib.run_append_grow_string (P := P) w t u ty _ i zv ht' hu' h4 g2 ⟨g, 0, none⟩ l.length cap (u8 l) (by rw [h5]; simp) hcells (ba s) (by rw [hsz]; omega) (by rw [hsz]; omega) (by rw [hsz]; exact growslice_fits (by omega) (by rw [h6]; omega))
      rw [hsz] at hrun
      refine ⟨_, _, .inl (run_vS hrun), _, rfl, h _ _ ?_⟩
      have hw3 : Sat e (sepL ctx') w := hw2.imp fun _ => sepL_drop
      have ha := (hw3.drawn (w.drawn + 1)).alloc (.cells ((u8 l).toArray ++ (Lib.strCells (ba s)).toArray ++ Builtin.zeroCells zv.cells (grownCap w (l.length + s.length) cap 5 - (l.length + s.length))) 5)
      refine ha.imp fun x kx => sepL_cons (fun hp2 hh => .inr ⟨w.heap.size, _, (Builtin.zeroCells zv.cells (grownCap w (l.length + s.length) cap 5 - (l.length + s.length))).toList, (by simp; rfl), ?_, ?_, (by have := grownCap_ge w (l.length + s.length) cap 5; omega)⟩) (fun _ z => z) kx
      · have e1 : (tc (u8 (l ++ s) ++ (Builtin.zeroCells zv.cells (grownCap w (l.length + s.length) cap 5 - (l.length + s.length))).toList) 5) = .cells ((u8 l).toArray ++ (Lib.strCells (ba s)).toArray ++ Builtin.zeroCells zv.cells (grownCap w (l.length + s.length) cap 5 - (l.length + s.length))) 5 (0, 0) := by
          simp [tc, strCells_ba]
        rw [e1]; exact hh
      · have := grownCap_ge w (l.length + s.length) cap 5
        simp [size_zeroCells, hzv]; omega
end
end Go.Proofs.YtoneapgooihajaaGreatDoor.Sl
