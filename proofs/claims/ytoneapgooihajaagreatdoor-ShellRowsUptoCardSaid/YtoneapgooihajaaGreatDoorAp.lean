/-
  A STRING APPENDED TO A ROW OF BYTES.
-/
import Derived.Test.YtoneapgooihajaaGreatDoorBd
set_option maxRecDepth 100000
set_option linter.unusedVariables false
set_option linter.unusedSectionVars false
set_option linter.unusedSimpArgs false
namespace Go.Proofs.YtoneapgooihajaaGreatDoor.Sl
open Go Sh
section
variable {e : Env} {ctx ctx' : List HProp}
theorem Ent.appendS {t u ty c : Nat} {a : Option Addr} {l s : List UInt8} {k : Value → WP} (h : ∀ a2 c2, Ent e (SlO a2 (l ++ s).length c2 1 (u8 (l ++ s)) :: ctx') (k (.slice a2 (l ++ s).length c2)))
    (hl : l.length + s.length ≤ 140737488355328 := by omega) (hp : Pick ctx (SlO a l.length c 1 (u8 l)) ctx' := by (repeat (first | exact Pick.hd | apply Pick.tl))) (ht : dd t = some (.sl 5) := by exact rfl) (hu : dd u = some .str := by exact rfl) :
    Ent e ctx (OpK P (.one .raw) (vS (Builtin.append_ #[t, u] ty #[.slice a l.length c, .string (ba s)])) k) := Ent.act fun w hw => by
  have hs : szof 5 = some (1, 1) := rfl
  obtain ⟨i, h4, h5, h6⟩ := szof_spec hs
  have hz : zro 5 = some [.int .u8 0] := rfl
  obtain ⟨i', zv, g1, g2, g3⟩ := zro_spec hz
  rw [h4] at g1; cases g1
  have hzs : zv.cells.size = 1 := by
    have := congrArg List.length g3
    simpa using this
  have hu' := dd_str hu
  have ht' := dd_sl ht
  have hsz : (ba s).size = s.length := by simp [ByteArray.size]
  have hlen : (l ++ s).length = l.length + s.length := List.length_append
  have hsc : Lib.strCells (ba s) = u8 s := strCells_ba s
  have hw2 : Sat e (sepL (SlO a l.length c 1 (u8 l) :: ctx')) w := hw.imp (sepL_perm hp.perm)
  obtain ⟨g, gl, hll, hcase⟩ := Has.at_ .hd hw2
  have hul : (u8 l).length = l.length := by simp
  have hus : (u8 s).length = s.length := by simp
  have fresh : ∀ (olds : List UInt8) (cap : Nat) (T : TypeId), olds.length ≤ cap →
      Sat e (sepL (SlO (some ⟨w.heap.size, 0, none⟩) olds.length cap 1 (u8 olds) :: ctx')) (w.drew.alloc (.cells ((u8 olds).toArray ++ Builtin.zeroCells zv.cells (cap - olds.length)) T)) := by
    intro olds cap T hc
    have hw3 : Sat e (sepL ctx') w.drew := (hw2.imp fun _ => sepL_drop).drawn _
    have hn := hw3.new (u8 olds ++ (Builtin.zeroCells zv.cells (cap - olds.length)).toList) T
    have e1 : (u8 olds ++ (Builtin.zeroCells zv.cells (cap - olds.length)).toList).toArray = (u8 olds).toArray ++ Builtin.zeroCells zv.cells (cap - olds.length) := by simp
    rw [e1] at hn
    refine hn.imp fun x kx => sepL_cons (fun h hh => ?_) (fun _ y => y) kx
    refine ⟨by simp, .inr ⟨_, _, rfl, hc, ?_, hh⟩⟩
    simp only [List.length_append, Array.length_toList, size_zeroCells, hzs, u8, List.length_map]
    omega
  have hfc : (Builtin.firstCells 1 s.length (.string (ba s))).run P w = .ok (u8 s).toArray w := by
    have := Lib.run_firstCells_string (P := P) w 1 (ba s)
    rw [hsz, hsc] at this
    exact this
  by_cases hroom : l.length + s.length ≤ c
  · rcases hcase with ⟨rfl, hl0, rfl⟩ | ⟨b, r, rfl, hnc, hlr, hpt⟩
    · have hs0 : s = [] := List.eq_nil_of_length_eq_zero (by omega)
      have hl1 : l = [] := List.eq_nil_of_length_eq_zero (by omega)
      subst hs0 hl1
      refine ⟨.slice none 0 0, w, .inl (run_vS ?_), _, rfl, h none 0 w (by simpa using hw2)⟩
      have hf := Lib.run_firstCells_string (P := P) w 1 ByteArray.empty
      have hf0 : ByteArray.empty.size = 0 := rfl
      rw [hf0] at hf
      rw [show ba ([] : List UInt8) = ByteArray.empty from rfl]
      simp only [Builtin.append_, List.getElem?_toArray, List.getElem?_cons_zero, List.getElem?_cons_succ, Sem.run_bind, run_underlying ht', run_underlying hu', Result.andThen_ok, run_sizeOf' h4, h5, Builtin.lenOf, Sem.run_pure]
      simp [hf, Lib.strCells]
    · have hw4 : Sat e (sepL (pt b (u8 l ++ r) :: ctx')) w := by
        obtain ⟨g1, g2, hd, l1, l2, hA, hrest⟩ := hw2.heap
        refine ⟨hw2.os, hw2.tape, hw2.output, g1, g2, hd, l1, l2, ?_, hrest⟩
        obtain ⟨_, hA⟩ := hA
        rcases hA with ⟨hA, _⟩ | ⟨b', r', hb', _, hlr', hA⟩
        · cases hA
        · cases hb'
          obtain ⟨T, fr, e1, e2⟩ := hA
          obtain ⟨T', fr', e1', _⟩ := hpt
          have x1 := l1 _ _ e1
          have x2 := gl _ _ e1'
          rw [x1] at x2
          simp only [Option.some.injEq, Obj.cells.injEq] at x2
          have : u8 l ++ r' = u8 l ++ r := by simpa using x2.1
          rw [this] at e1 e2
          exact ⟨T, fr, e1, e2⟩
      have hfit : l.length * 1 + 0 + (u8 s).length ≤ (u8 l ++ r).length := by
        refine Nat.le_trans ?_ hlr
        rw [hus]; omega
      obtain ⟨w', hst, hs'⟩ := run_storeCells_pt (b := b) (off := l.length * 1) (u8 s) 0 (u8 l ++ r) ctx' w hfit (u8_one s) hw4
      refine ⟨.slice (some ⟨b, 0, none⟩) (l.length + s.length) c, w', .inl (run_vS ?_), _, rfl, ?_⟩
      · simp [Builtin.append_, run_underlying ht', run_underlying hu', run_sizeOf' h4, h5, Builtin.lenOf, hroom, hfc, hsz, Addr.add_lit]
        rw [Nat.mul_one] at hst
        rw [hst]; rfl
      · have hh := h (some ⟨b, 0, none⟩) c w'
        rw [hlen] at hh
        refine hh (hs'.imp fun x kx => sepL_cons (fun h hh => ?_) (fun _ y => y) kx)
        have e1 : (u8 l ++ r).take (l.length * 1 + 0) = u8 l := by rw [Nat.add_zero, Nat.mul_one, ← hul]; exact List.take_left
        have e2 : (u8 l ++ r).drop (l.length * 1 + 0 + (u8 s).length) = r.drop s.length := by
          rw [Nat.add_zero, Nat.mul_one, hus, ← List.drop_drop, List.drop_left' (by simp)]
        rw [e1, e2, ← u8_append] at hh
        refine ⟨by simp, .inr ⟨b, r.drop s.length, rfl, hroom, ?_, hh⟩⟩
        simp only [List.length_append, List.length_drop, u8_append, hul, hus] at hlr hfit ⊢
        omega
  · have hm0 : 0 < s.length := by
      rcases hcase with ⟨rfl, hl0, rfl⟩ | ⟨b, r, rfl, hnc, _⟩ <;> omega
    rcases hcase with ⟨rfl, hl0, rfl⟩ | ⟨b, r, rfl, hnc, hlr, hpt⟩
    · have hl1 : l = [] := List.eq_nil_of_length_eq_zero (by omega)
      subst hl1
      have hrun := run_append_nil_string (P := P) (w := w) t u ty _ i zv ht' hu' h4 g2 (ba s) (by rw [hsz]; exact hm0) (by rw [hsz]; simp at hl; omega) (by rw [hsz, h6]; simp at hl; omega)
      rw [hsz] at hrun
      have hf := fresh s (grownCap w s.length 0 5) 5 (grownCap_ge w s.length 0 5)
      have e1 : ((ba s).data.map (fun b => Value.int .u8 b.toNat)) = (u8 s).toArray := by simp [u8]
      rw [e1] at hrun
      exact ⟨_, _, .inl (run_vS hrun), _, rfl, h _ _ _ hf⟩
    · have hcells : ∀ j v, (u8 l)[j]? = some v → w.cell? ((⟨b, 0, none⟩ : Addr).add j) = some v := by
        intro j v hj
        obtain ⟨T, fr, e1, _⟩ := hpt
        have : w.heap[b]? = some (.cells (u8 l ++ r).toArray T fr) := gl _ _ e1
        rw [Addr.add_lit, Nat.zero_add]
        simp [World.cell?, this, List.getElem?_append_left (List.getElem?_eq_some_iff.1 hj).1, hj]
      have hrun := Lib.run_append_grow_string (P := P) w t u ty _ i zv ht' hu' h4 g2 ⟨b, 0, none⟩ l.length c (u8 l) (by rw [h5]; simp) hcells (ba s) (by rw [hsz]; omega) (by rw [hsz]; omega) (by rw [hsz]; exact growslice_fits (by omega) (by rw [h6]; omega))
      rw [hsz, hsc] at hrun
      have hf := fresh (l ++ s) (grownCap w (l.length + s.length) c 5) 5 (by rw [hlen]; exact grownCap_ge w (l.length + s.length) c 5)
      have e1 : (u8 (l ++ s)).toArray = (u8 l).toArray ++ (u8 s).toArray := by simp
      rw [hlen, e1] at hf
      have hh := h (some ⟨w.heap.size, 0, none⟩) (grownCap w (l.length + s.length) c 5)
      rw [hlen] at hh
      exact ⟨_, _, .inl (run_vS hrun), _, rfl, hh _ hf⟩
end
end Go.Proofs.YtoneapgooihajaaGreatDoor.Sl
