/-
  THE SECOND LAYER's RULES: append, copy, bytes and strings.
-/
import Derived.Test.YtiabhghlhnnnjaaGreatDoorOp2
import Derived.Laws.BytesArg
set_option maxRecDepth 100000
set_option linter.unusedVariables false
set_option linter.unusedSimpArgs false
namespace Go.Proofs.YtiabhghlhnnnjaaGreatDoor.Sl
open Go Sh
section
variable {e : Env} {ctx ctx' R : List HProp}
theorem growslice_fits' {need old by_ : Nat} (ho : old < need) (hb : need * by_ ≤ 140737488355328) : Builtin.nextslicecap need old * by_ ≤ 281474976710656 := growslice_fits ho hb
theorem Ent.append' {t ty x sz by_ n c m c' : Nat} {a a' : Option Addr} {l news z : List Value} {k : Value → WP} (hp : Pick ctx (SlO a n c sz l) ctx') (hr : Rd ctx a' news) (ht : dd t = some (.sl x)) (hs : szof x = some (sz, by_))
    (hz : zro x = some z) (hzl : z.length = sz) (hsz : sz ≠ 0) (hl : news.length = m * sz) (h1 : ∀ v ∈ news, v.oneCell' = true) (hb : (n + m) * by_ ≤ 140737488355328) (h63 : n + m ≤ 4611686018427387904)
    (h : ∀ a2 c2, (a ≠ none → a2 ≠ none) → Ent e (SlO a2 (n + m) c2 sz (l ++ news) :: ctx') (k (.slice a2 (n + m) c2))) :
    Ent e ctx (OpK P (.one .raw) (vS (Builtin.append_ #[t, t] ty #[.slice a n c, .slice a' m c'])) k) := Ent.act fun w hw => by
  obtain ⟨i, h4, h5, h6⟩ := szof_spec hs
  obtain ⟨i', zv, g1, g2, g3⟩ := zro_spec hz
  rw [h4] at g1; cases g1
  have hu := dd_sl ht
  have hzs : zv.cells.size = sz := by rw [← hzl, ← g3]; simp
  have hnews : ∀ b', a' = some b' → ∀ j v, news[j]? = some v → w.cell? (b'.add j) = some v := fun b' hb' => by subst hb'; exact hr.cells hw
  have hw2 : Sat e (sepL (SlO a n c sz l :: ctx')) w := hw.imp (sepL_perm hp.perm)
  obtain ⟨g, gl, hll, hcase⟩ := Has.at_ .hd hw2
  -- the block is new
  have fresh : ∀ (olds : List Value) (cap : Nat) (T : TypeId) (n' : Nat), olds.length = n' * sz → n' ≤ cap →
      Sat e (sepL (SlO (some ⟨w.heap.size, 0, none⟩) n' cap sz olds :: ctx')) (w.drew.alloc (.cells (olds.toArray ++ Builtin.zeroCells zv.cells (cap - n')) T)) := by
    intro olds cap T n' ho hc
    have hw3 : Sat e (sepL ctx') w.drew := (hw2.imp fun _ => sepL_drop).drawn _
    have hn := hw3.new (olds ++ (Builtin.zeroCells zv.cells (cap - n')).toList) T
    have e1 : (olds ++ (Builtin.zeroCells zv.cells (cap - n')).toList).toArray = olds.toArray ++ Builtin.zeroCells zv.cells (cap - n') := by simp
    rw [e1] at hn
    refine hn.imp fun x kx => sepL_cons (fun h hh => ?_) (fun _ y => y) kx
    refine ⟨ho, .inr ⟨_, _, rfl, hc, ?_, hh⟩⟩
    simp only [List.length_append, Array.length_toList, size_zeroCells, hzs, ho, ← Nat.add_mul]
    exact Nat.mul_le_mul_right _ (by omega)
  have room : n + m ≤ c → ∃ v w', (Builtin.append_ #[t, t] ty #[.slice a n c, .slice a' m c']).run P w = .ok v w' ∧ ∃ a2 c2, v = .slice a2 (n + m) c2 ∧ (a ≠ none → a2 ≠ none) ∧ Sat e (sepL (SlO a2 (n + m) c2 sz (l ++ news) :: ctx')) w' := by
    intro hroom
    have hfc : (Builtin.firstCells sz m (.slice a' m c')).run P w = .ok news.toArray w := by
      cases a' with
      | none =>
        have : news = [] := hr
        subst this; rfl
      | some b' => exact run_firstCells_some w sz m b' m c' news hl (hnews b' rfl)
    rcases hcase with ⟨rfl, rfl, rfl⟩ | ⟨b, r, rfl, hnc, hlr, hpt⟩
    · have hm0 : m = 0 := by omega
      subst hm0
      have hn0 : news = [] := List.eq_nil_of_length_eq_zero (by simpa using hl)
      subst hn0
      refine ⟨.slice none 0 0, w, ?_, none, 0, rfl, fun h => absurd rfl h, ?_⟩
      · simp only [Builtin.append_, List.getElem?_toArray, List.getElem?_cons_zero, List.getElem?_cons_succ, Sem.run_bind, run_underlying hu, Result.andThen_ok, run_sizeOf' h4, h5, Builtin.lenOf, Sem.run_pure]
        simp [hfc]
      · simpa using hw2
    · have hw4 : Sat e (sepL (pt b (l ++ r) :: ctx')) w := by
        obtain ⟨g1, g2, hd, l1, l2, hA, hrest⟩ := hw2.heap
        refine ⟨hw2.os, hw2.tape, hw2.output, g1, g2, hd, l1, l2, ?_, hrest⟩
        obtain ⟨_, hA⟩ := hA
        rcases hA with ⟨hA, _⟩ | ⟨b', r', hb', _, hlr', hA⟩
        · cases hA
        · cases hb'
          obtain ⟨T, fr, e1, e2⟩ := hA
          obtain ⟨T', fr', e1', _⟩ := hpt
          have x1 := l1 _ _ e1
          have x2 := gl _ _ e1'
          rw [x1] at x2
          simp only [Option.some.injEq, Obj.cells.injEq] at x2
          have : l ++ r' = l ++ r := by simpa using x2.1
          rw [this] at e1 e2
          exact ⟨T, fr, e1, e2⟩
      have hfit : n * sz + 0 + news.length ≤ (l ++ r).length := by
        refine Nat.le_trans ?_ hlr
        rw [hl, Nat.add_zero, ← Nat.add_mul]; exact Nat.mul_le_mul_right _ hroom
      obtain ⟨w', hst, hs'⟩ := run_storeCells_pt (b := b) (off := n * sz) news 0 (l ++ r) ctx' w hfit h1 hw4
      refine ⟨_, w', ?_, some ⟨b, 0, none⟩, c, rfl, fun _ => by simp, ?_⟩
      · simp [Builtin.append_, run_underlying hu, run_sizeOf' h4, h5, Builtin.lenOf, hroom, hfc, Addr.add_lit, hst]
      · refine hs'.imp fun x kx => sepL_cons (fun h hh => ?_) (fun _ y => y) kx
        have e1 : (l ++ r).take (n * sz + 0) = l := by rw [Nat.add_zero, ← hll]; exact List.take_left
        have e2 : (l ++ r).drop (n * sz + 0 + news.length) = r.drop news.length := by
          rw [Nat.add_zero, ← hll, List.drop_append]; simp
        rw [e1, e2] at hh
        refine ⟨by rw [List.length_append, hll, hl, Nat.add_mul], .inr ⟨b, r.drop news.length, rfl, hroom, ?_, hh⟩⟩
        simp only [List.length_append, List.length_drop] at hlr hfit ⊢
        omega
  by_cases hroom : n + m ≤ c
  · obtain ⟨v, w', hrun, a2, c2, rfl, hne, hs'⟩ := room hroom
    exact ⟨_, w', .inl (run_vS hrun), _, rfl, h a2 c2 hne w' hs'⟩
  · have hm0 : 0 < m := by
      rcases hcase with ⟨rfl, rfl, rfl⟩ | ⟨b, r, rfl, hnc, _⟩ <;> omega
    obtain ⟨b', rfl⟩ : ∃ b', a' = some b' := by
      cases a' with
      | some b' => exact ⟨b', rfl⟩
      | none =>
        have : news = [] := hr
        subst this
        simp only [List.length_nil] at hl
        rcases Nat.mul_eq_zero.1 hl.symm with h | h
        · omega
        · exact absurd h hsz
    rcases hcase with ⟨rfl, rfl, rfl⟩ | ⟨b, r, rfl, hnc, hlr, hpt⟩
    · have hl0 : l = [] := List.eq_nil_of_length_eq_zero (by simpa using hll)
      subst hl0
      simp only [Nat.zero_add] at h hb h63 ⊢
      have hrun := run_append_nil (P := P) w t ty x i zv hu h4 g2 b' m c' news (by rw [h5]; exact hl) (hnews b' rfl) hm0 (by omega) (by rw [h6]; omega)
      have hf := fresh news (grownCap w m 0 x) x m hl (grownCap_ge w m 0 x)
      exact ⟨_, _, .inl (run_vS hrun), _, rfl, h _ _ (fun _ => by simp) _ hf⟩
    · have hcells : ∀ j v, l[j]? = some v → w.cell? ((⟨b, 0, none⟩ : Addr).add j) = some v := by
        intro j v hj
        obtain ⟨T, fr, e1, _⟩ := hpt
        have : w.heap[b]? = some (.cells (l ++ r).toArray T fr) := gl _ _ e1
        rw [Addr.add_lit, Nat.zero_add]
        simp [World.cell?, this, List.getElem?_append_left (List.getElem?_eq_some_iff.1 hj).1, hj]
      have hrun := run_append_grow (P := P) w t ty x i zv hu h4 g2 ⟨b, 0, none⟩ n c l (by rw [h5]; exact hll) hcells b' m c' news (by rw [h5]; exact hl) (hnews b' rfl) (by omega) (by omega)
        (growslice_fits (by omega) (by rw [h6]; exact hb))
      have hf := fresh (l ++ news) (grownCap w (n + m) c x) x (n + m) (by rw [List.length_append, hll, hl, Nat.add_mul]) (grownCap_ge w (n + m) c x)
      refine ⟨_, _, .inl (run_vS hrun), _, rfl, h _ _ (fun _ => by simp) _ ?_⟩
      have e1 : (l ++ news).toArray = l.toArray ++ news.toArray := by simp
      rw [e1] at hf
      exact hf
theorem Ent.append {t ty x sz by_ n c m c' : Nat} {a a' : Option Addr} {l news z : List Value} {k : Value → WP} (hp : Pick ctx (SlO a n c sz l) ctx') (hr : Rd ctx a' news) (ht : dd t = some (.sl x)) (hs : szof x = some (sz, by_))
    (hz : zro x = some z) (hzl : z.length = sz) (hsz : sz ≠ 0) (hl : news.length = m * sz) (h1 : ∀ v ∈ news, v.oneCell' = true) (hb : (n + m) * by_ ≤ 140737488355328) (h63 : n + m ≤ 4611686018427387904)
    (h : ∀ a2 c2, Ent e (SlO a2 (n + m) c2 sz (l ++ news) :: ctx') (k (.slice a2 (n + m) c2))) :
    Ent e ctx (OpK P (.one .raw) (vS (Builtin.append_ #[t, t] ty #[.slice a n c, .slice a' m c'])) k) :=
  Ent.append' hp hr ht hs hz hzl hsz hl h1 hb h63 fun a2 c2 _ => h a2 c2
/-! copy -/
theorem Ent.copy {t s' ty x by_ b off dn dc sn sc' : Nat} {a' : Option Addr} {l cs : List Value} {k : Int → WP} (hu : Upd ctx (pt b l) (pt b (l.take off ++ cs ++ l.drop (off + cs.length))) ctx') (hr : Rd ctx a' cs) (ht : dd t = some (.sl x))
    (hs : szof x = some (1, by_)) (hl : cs.length = min sn dn) (h1 : ∀ v ∈ cs, v.oneCell' = true) (hf : off + cs.length ≤ l.length) (h : Ent e ctx' (k (cs.length : Nat))) :
    Ent e ctx (OpK P (.one (.int .i64)) (vS (Builtin.copy_ #[t, s'] ty #[.slice (some ⟨b, off, none⟩) dn dc, .slice a' sn sc'])) k) := Ent.act fun w hw => by
  obtain ⟨s2, hp, hq⟩ := hu.pick
  obtain ⟨i, h4, h5, h6⟩ := szof_spec hs
  have hw2 : Sat e (sepL (pt b l :: s2)) w := hw.imp (sepL_perm hp.perm)
  obtain ⟨w', hst, hs'⟩ := run_storeCells_pt (b := b) (off := off) cs 0 l s2 w (by simpa using hf) h1 hw2
  have hfc : (Builtin.firstCells 1 (Nat.min sn dn) (.slice a' sn sc')).run P w = .ok cs.toArray w := by
    cases a' with
    | none => have : cs = [] := hr; subst this; rfl
    | some b' => exact run_firstCells_some w 1 _ b' sn sc' cs (by rw [hl]; simp [Nat.min_def]) (hr.cells hw)
  refine ⟨.int .i64 cs.length, w', .inl (run_vS ?_), _, rfl, h w' (hs'.imp ?_)⟩
  · have e1 : Nat.min sn dn = cs.length := hl.symm
    simp only [Builtin.copy_, List.getElem?_toArray, List.getElem?_cons_zero, List.getElem?_cons_succ, Sem.run_bind, run_underlying (dd_sl ht), Result.andThen_ok, run_sizeOf' h4, h5, Builtin.lenOf, Sem.run_pure, hfc]
    rw [hst]
    simp [goInt, e1]
  · intro y ky
    refine sepL_perm hq.symm y ?_
    simpa using ky
/-- nothing is copied -/
theorem Ent.copy0 {t s' ty x by_ dn dc sn sc' : Nat} {a a' : Option Addr} {k : Int → WP} (ht : dd t = some (.sl x)) (hs : szof x = some (1, by_)) (hl : min sn dn = 0) (h : Ent e ctx (k 0)) :
    Ent e ctx (OpK P (.one (.int .i64)) (vS (Builtin.copy_ #[t, s'] ty #[.slice a dn dc, .slice a' sn sc'])) k) := Ent.act fun w hw => by
  obtain ⟨i, h4, h5, h6⟩ := szof_spec hs
  have e1 : Nat.min sn dn = 0 := hl
  have hfc : (Builtin.firstCells 1 0 (.slice a' sn sc')).run P w = .ok #[] w := by
    cases a' with
    | none => rfl
    | some b' => rfl
  refine ⟨.int .i64 0, w, .inl (run_vS ?_), _, rfl, h w hw⟩
  cases a <;> simp [Builtin.copy_, run_underlying (dd_sl ht), run_sizeOf' h4, h5, Builtin.lenOf, e1, hfc, goInt, storeCells]

/-! bytes and strings -/
theorem run_b2s {s x d : TypeId} {l : List UInt8} {a : Option Addr} {c : Nat} {w : World} (hs : dd s = some (.sl x)) (hx : dd x = some (.int .u8)) (hd : dd d = some .str) (hr : RdB ctx a l) (hw : Sat e (sepL ctx) w) :
    (convert s d (.slice a l.length c)).run P w = .ok (.string (ba l)) w := by
  rw [run_convert_bytes_string w s d x a _ c (dd_sl hs) (dd_int hx) (dd_str hd)]
  cases a with
  | none =>
    have : u8 l = [] := hr
    have : l = [] := by simpa [u8] using this
    subst this; rfl
  | some b =>
    have hc : (loadCells b (u8 l).length).run P w = .ok (u8 l).toArray w := run_loadCells_list (P := P) w b (u8 l) (hr.cells hw)
    rw [u8_length] at hc
    have hm : u8 l = (l.map fun b => (b.toNat : Int)).map (Value.int .u8) := by simp [u8]
    rw [hm] at hc
    rw [run_bytesToString w b l.length c _ hc, foldl_push_bytes]
    congr 2
    simp only [ba, ByteArray.empty, ByteArray.emptyWithCapacity]
    congr 1
    apply Array.ext'
    simp only [List.map_map]
    have e0 : ((fun n : Int => UInt8.ofNat n.toNat) ∘ fun b : UInt8 => (b.toNat : Int)) = id := by funext b; simp
    rw [e0, List.map_id]
    simp
    rfl
theorem st_b2s {s x d : TypeId} {l : List UInt8} {a : Option Addr} {c : Nat} (hr : RdB ctx a l) (hs : dd s = some (.sl x)) (hx : dd x = some (.int .u8)) (hd : dd d = some .str) :
    Still e ctx (vS (convert s d (.slice a l.length c))) (.string (ba l)) := fun w hw => run_vS (run_b2s hs hx hd hr hw)
theorem ba_eq (a b : ByteArray) : (a.toList == b.toList) = decide (a = b) := by
  rw [ByteArray.toList_eq, ByteArray.toList_eq]
  obtain ⟨⟨a⟩⟩ := a
  obtain ⟨⟨b⟩⟩ := b
  simp only [ByteArray.mk.injEq, Array.mk.injEq]
  rw [Bool.eq_iff_iff]
  simp
theorem st_eqS {t : TypeId} {X Y : Operand} {a b : ByteArray} : Pu (bS .eql t X Y (.string a) (.string b)) (.bool (decide (a = b))) :=
  still_bS (guard_str _ _ _ _ _ _) fun w => by simp [binOp, Op.stringOp, ba_eq]
theorem st_neS {t : TypeId} {X Y : Operand} {a b : ByteArray} : Pu (bS .neq t X Y (.string a) (.string b)) (.bool (!decide (a = b))) :=
  still_bS (guard_str _ _ _ _ _ _) fun w => by simp [binOp, Op.stringOp, ba_eq]
theorem st_addS {t : TypeId} {X Y : Operand} {a b : ByteArray} (h : a.size + b.size ≤ 9223372036854775807) : Pu (bS .add t X Y (.string a) (.string b)) (.string (a ++ b)) :=
  still_bS (guard_str _ _ _ _ _ _) fun w => by simp only [binOp]; exact run_string_add_sum w a b h
theorem Ent.s2b {s d x : TypeId} {l : List UInt8} {k : Value → WP} (hs : dd s = some .str) (hd : dd d = some (.sl x)) (hx : dd x = some (.int .u8)) (hl : l.length ≤ 4611686018427387904)
    (h : ∀ a c, Ent e (BS a c l :: ctx) (k (.slice a l.length c))) : Ent e ctx (OpK P (.one .raw) (vS (convert s d (.string (ba l)))) k) := Ent.act fun w hw => by
  let cap := grownCap w l.length 0 x
  have hcap : l.length ≤ cap := grownCap_ge w l.length 0 x
  let cells : List Value := u8 l ++ List.replicate (cap - l.length) (.int .u8 0)
  have hw1 : Sat e (sepL ctx) w.drew := hw.drawn _
  have hnew := hw1.new cells x
  -- the mark behind the last cell
  have hmark : Sat e (sepL (pt w.heap.size cells :: ctx)) ((w.drew.alloc (.cells cells.toArray x)).freeze ⟨w.heap.size, cells.length, none⟩ 1) := by
    refine Sat.turn (A := fun h => h w.heap.size = some (.cells cells.toArray x)) (b := w.heap.size) (o' := .cells cells.toArray x (cells.length, cells.length + 1)) (w := w.drew.alloc (.cells cells.toArray x)) ?_ (fun _ k => k) ?_ rfl rfl rfl ?_ ?_
    · exact hw1.alloc _
    · intro h hh; exact ⟨x, (cells.length, cells.length + 1), hh, fun i hi => .inl hi⟩
    · show ((w.heap.push (.cells cells.toArray x)).modify w.heap.size _)[w.heap.size]? = _
      rw [Array.getElem?_modify, if_pos rfl]
      simp
    · intro i hi
      simp only [World.freeze]
      rw [if_neg (by omega)]
      simp only [Array.getElem?_modify]
      rw [if_neg (fun h => hi h.symm)]
  refine ⟨.slice (some ⟨w.heap.size, 0, none⟩) l.length cap, (w.drew.alloc (.cells cells.toArray x)).freeze ⟨w.heap.size, cells.length, none⟩ 1, .inl (run_vS ?_), _, rfl, h _ _ _ (hmark.imp fun y ky => sepL_cons (fun h hh => ?_) (fun _ z => z) ky)⟩
  · have e1 : ((ba l).data.map fun b => Value.int .u8 b.toNat) ++ Array.replicate (cap - l.length) (Value.int .u8 0) = cells.toArray := by simp [cells, u8]
    have hsz : (ba l).size = l.length := by simp [ba, ByteArray.size]
    simp only [convert, Sem.run_bind, run_underlying (dd_str hs), run_underlying (dd_sl hd), run_underlying (dd_int hx), Result.andThen_ok, Conv.stringToBytes, hsz]
    have hch : (choose (.appendCap l.length 0 x)).run P w = .ok cap w.drew := by
      rfl
    rw [hch]
    simp only [Result.andThen_ok, e1]
    have hn : (newRow x cells.toArray).run P w.drew = .ok ⟨w.heap.size, 0, none⟩ (w.drew.alloc (.cells cells.toArray x)) := rfl
    rw [hn]
    have hsh : (markStringish ⟨w.heap.size, 0, none⟩).run P (w.drew.alloc (.cells cells.toArray x)) = .ok () ((w.drew.alloc (.cells cells.toArray x)).freeze ⟨w.heap.size, cells.length, none⟩ 1) := by
      have hshape : (w.drew.alloc (.cells cells.toArray x)).shape? w.heap.size = some (x, cells.length) := by
        show (match (w.heap.push (.cells cells.toArray x))[w.heap.size]? with | some (.cells c elem _) => some (elem, c.size) | _ => none) = _
        simp
      simp [markStringish, shape, Sem.run, hshape, freeze, Sem.run_bind]
    simp only [Result.andThen_ok, hsh, Sem.run_pure]
  · refine ⟨by simp, .inr ⟨_, List.replicate (cap - l.length) (.int .u8 0), rfl, hcap, ?_, hh⟩⟩
    simp; omega
theorem st_slSH {t : TypeId} {l : List UInt8} {k : IntKind} {h : Int} (ht : dd t = some .str) (h0 : 0 ≤ h) (h1 : h ≤ l.length) :
    Pu (vS (Instr.sliceAt t (.string (ba l)) none (some (.int k h)) none)) (.string (ba (l.take h.toNat))) := Still.of_run fun w => by
  have hsz : (ba l).size = l.length := by simp [ba, ByteArray.size]
  rw [run_sliceAt_string w t _ _ _ _ (dd_str ht), run_slice_string_h w t _ (dd_str ht) k h h0 (by rw [hsz]; exact h1), ByteArray.extract_mk]
  simp
theorem st_slSL {t : TypeId} {l : List UInt8} {k : IntKind} {h : Int} (ht : dd t = some .str) (h0 : 0 ≤ h) (h1 : h ≤ l.length) :
    Pu (vS (Instr.sliceAt t (.string (ba l)) (some (.int k h)) none none)) (.string (ba (l.drop h.toNat))) := Still.of_run fun w => by
  have hsz : (ba l).size = l.length := by simp [ba, ByteArray.size]
  rw [run_sliceAt_string w t _ _ _ _ (dd_str ht), run_slice_string_l w t _ (dd_str ht) k h h0 (by rw [hsz]; exact h1), ByteArray.extract_mk]
  congr 3
  simp only [hsz]
  exact congrArg List.toArray (List.take_of_length_le (by simp))
theorem Ent.fn {sh F : WP} (ok : ∀ w, sh w → F w) (h : Ent e ctx sh) : Ent e ctx F := fun w hw => ok w (h w hw)
/-- a call of a function value -/
theorem Ent.callF {r : RK} {f : FuncId} {cap args : Array Value} {c : r.A} (hf : memN cll f = true) (h : Ent e ctx (FnK P r f (args ++ cap) c)) : Ent e ctx (OpK P r (callS (.func (.func f) #[] cap) args) c) := fun w hw => by
  show NextK P _ _ w
  have hr : (callS (.func (.func f) #[] cap) args).run P w = .ok (.enter f (args ++ cap)) w := by
    simp only [callS, Deferred.ofValue, Sem.run_bind, Sem.run_pure, Result.andThen_ok, invoke]
    have := callFunc_run (P := P) (cx_ok.calls f hf) (#[] ++ args ++ cap) w
    rw [this]
    simp
  unfold NextK
  rw [hr]
  exact h w hw
/-- the end: what is held is what is asked for -/
theorem Imp.hd {A : HProp} {l l' : List HProp} (h : Imp l l') : Imp (A :: l) (A :: l') := Imp.cons h
theorem in_i64 {n : Int} (h1 : -9223372036854775808 ≤ n) (h2 : n ≤ 9223372036854775807) : inR .i64 n := ⟨h1, h2⟩
theorem in_u64 {n : Int} (h1 : 0 ≤ n) (h2 : n ≤ 18446744073709551615) : inR .u64 n := ⟨h1, h2⟩
theorem in_u8 {n : Int} (h1 : 0 ≤ n) (h2 : n ≤ 255) : inR .u8 n := ⟨h1, h2⟩
theorem in_u16 {n : Int} (h1 : 0 ≤ n) (h2 : n ≤ 65535) : inR .u16 n := ⟨h1, h2⟩
theorem in_u32 {n : Int} (h1 : 0 ≤ n) (h2 : n ≤ 4294967295) : inR .u32 n := ⟨h1, h2⟩
theorem in_i32 {n : Int} (h1 : -2147483648 ≤ n) (h2 : n ≤ 2147483647) : inR .i32 n := ⟨h1, h2⟩
/-- reading the first cells of what may be read -/
theorem Rd.take {a : Option Addr} {l : List Value} (h : Rd ctx a l) (n : Nat) : Rd ctx a (l.take n) := by
  cases a with
  | none => have : l = [] := h; subst this; simp [Rd]
  | some a =>
    rcases h with rfl | ⟨h1, k⟩
    · exact .inl (by simp)
    · refine .inr ⟨h1, ?_⟩
      have := k.sub 0 n
      simpa using this
theorem Rd.cut {a : Option Addr} {l : List Value} (h : Rd ctx a l) {n c : Nat} (hc : l.length ≤ c) : Rd ctx (cut a n c 1) (l.drop n) := by
  cases a with
  | none => have : l = [] := h; subst this; rw [cut_none]; simp [Rd]
  | some a =>
    rcases h with rfl | ⟨hs, k⟩
    · unfold Sl.cut
      split <;> exact .inl (by simp)
    · obtain ⟨b, off, s⟩ := a
      simp only at hs
      subst hs
      rw [cut_some]
      by_cases hcn : c = n
      · exact .inl (List.drop_eq_nil_of_le (by omega))
      · refine .inr ⟨rfl, ?_⟩
        rw [if_neg hcn, Nat.mul_one]
        have := k.sub n l.length
        rwa [List.take_of_length_le (by simp)] at this
theorem Rd.pt {b : Nat} {l : List Value} (h : Has ctx (Sl.pt b l)) : Rd ctx (some ⟨b, 0, none⟩) l := .inr ⟨rfl, Rds.of_pt h fun j v hj => by simpa using hj⟩
/-- a made block is a slice of its own -/
theorem SlO.imp {b n : Nat} {l : List Value} (hn : l.length = n) : Imp (Sl.pt b l :: ctx) (SlO (some ⟨b, 0, none⟩) n n 1 l :: ctx) := fun _ k =>
  sepL_cons (fun h hh => ⟨by omega, .inr ⟨b, [], rfl, Nat.le_refl _, by simp [hn], by simpa using hh⟩⟩) (fun _ z => z) k
/-- a shorter slice of the same block: the rest is nobody's -/
theorem SlO.cut {a : Option Addr} {n c : Nat} {l : List Value} {m : Nat} (hm : m ≤ n) : Imp (SlO a n c 1 l :: ctx) (SlO a m m 1 (l.take m) :: ctx) := fun _ k =>
  sepL_cons (fun h hh => by
    obtain ⟨h1, h2⟩ := hh
    refine ⟨by simp; omega, ?_⟩
    rcases h2 with ⟨rfl, rfl, rfl⟩ | ⟨b, r, rfl, h3, h4, h5⟩
    · exact .inl ⟨rfl, by omega, by omega⟩
    · refine .inr ⟨b, l.drop m ++ r, rfl, Nat.le_refl _, ?_, ?_⟩
      · simp only [List.length_append, List.length_take, List.length_drop] at h4 ⊢; omega
      · rw [← List.append_assoc, List.take_append_drop]; exact h5) (fun _ z => z) k
theorem SlO.c0 {a : Option Addr} {n c sz : Nat} {l : List Value} {h : Hp} (k : SlO a n c sz l h) : n ≤ c := by
  rcases k.2 with ⟨_, h2, h3⟩ | ⟨b, r, _, h3, _⟩ <;> omega
theorem cut_z (a : Option Addr) (m : Nat) (sz : Nat) (hs : ∀ b, a = some b → b.spot = none) : Sl.cut a 0 m sz = a := by
  unfold Sl.cut
  split
  · rfl
  · cases a with
    | none => rfl
    | some b => obtain ⟨b, o, s⟩ := b; have := hs _ rfl; simp only at this; subst this; simp [Addr.add_lit]
/-- what a slice of one's own says of itself -/
theorem Ent.slO {a : Option Addr} {n c sz : Nat} {l : List Value} {p : WP} (h : l.length = n * sz → n ≤ c → (∀ b, a = some b → b.spot = none) → (a = none → n = 0) → Ent e (SlO a n c sz l :: ctx) p) : Ent e (SlO a n c sz l :: ctx) p := fun w hw => by
  obtain ⟨g, gl, k⟩ := Has.at_ .hd hw
  refine h k.1 k.c0 ?_ ?_ w hw
  · intro b hb
    rcases k.2 with ⟨h1, _⟩ | ⟨b', r, h1, _⟩
    · rw [h1] at hb; cases hb
    · rw [h1] at hb; cases hb; rfl
  · intro ha
    rcases k.2 with ⟨_, h1, _⟩ | ⟨b', r, h1, _⟩
    · exact h1
    · rw [h1] at ha; cases ha
theorem SlO.rd' {a : Option Addr} {n c sz : Nat} {l : List Value} (hh : Has ctx (SlO a n c sz l)) (hn : a = none → l = []) (hs : ∀ b, a = some b → b.spot = none) : Rd ctx a l := by
  cases a with
  | none => exact hn rfl
  | some b =>
    refine .inr ⟨hs b rfl, Rds.of_has hh fun h k => ?_⟩
    obtain ⟨_, k⟩ := k
    rcases k with ⟨k, _⟩ | ⟨b', r', hb, _, _, k⟩
    · cases k
    · cases hb
      exact rdc_pt (fun j v hj => by
        rw [Nat.zero_add, List.getElem?_append_left (List.getElem?_eq_some_iff.1 hj).1]; exact hj) h k
theorem Rd.pre {a : Option Addr} {l m : List Value} (h : Rd ctx a (l ++ m)) : Rd ctx a l := by simpa using h.take l.length
theorem Imp.slN {sz : Nat} {l l' : List HProp} (h : Imp l l') : Imp l (SlO none 0 0 sz [] :: l') := fun x k =>
  ⟨fun _ => none, x, fun _ => .inl rfl, fun _ _ e => (by cases e), Hp.le_refl _, ⟨by simp, .inl ⟨rfl, rfl, rfl⟩⟩, h x k⟩
theorem Ent.slN {sz : Nat} {l : List HProp} {c : WP} (h : Ent e (SlO none 0 0 sz [] :: l) c) : Ent e l c := h.imp (Imp.slN (Imp.refl _))
/-- a slice's own block -/
theorem SlO.open1 {a : Option Addr} {n c sz : Nat} {l : List Value} {k : WP} (h : ∀ b r, n ≤ c → a = some ⟨b, 0, none⟩ → Ent e (pt b (l ++ r) :: ctx) k) (h0 : a = none → n = 0 → l = [] → Ent e ctx k) : Ent e (SlO a n c sz l :: ctx) k := fun w hw => by
  obtain ⟨g1, g2, hd, l1, l2, ⟨hl, hA⟩, hr⟩ := hw.heap
  rcases hA with ⟨ha, hn0, _⟩ | ⟨b, r, ha, hc, _, hp⟩
  · exact h0 ha hn0 (List.eq_nil_of_length_eq_zero (by rw [hl, hn0, Nat.zero_mul])) w ⟨hw.os, hw.tape, hw.output, sepL_mono l2 hr⟩
  · exact h b r hc ha w ⟨hw.os, hw.tape, hw.output, g1, g2, hd, l1, l2, hp, hr⟩
/-- a slice that may be read lies somewhere, if there is anything to read -/
theorem rd_some {a : Option Addr} {l : List Value} (h : Rd ctx a l) (hl : 0 < l.length) : ∃ b off, a = some ⟨b, off, none⟩ ∧ Rds ctx b off l := by
  cases a with
  | none => have : l = [] := h; subst this; simp at hl
  | some a =>
    rcases h with h | ⟨hs, hr⟩
    · subst h; simp at hl
    · obtain ⟨b, off, s⟩ := a
      simp only at hs
      subst hs
      exact ⟨b, off, rfl, hr⟩
theorem st_ixN {t x sz by_ b off n c i : Nat} {k : IntKind} (ht : dd t = some (.sl x)) (hs : szof x = some (sz, by_)) (h1 : i < n) :
    Pu (vS (Instr.indexAt t (.slice (some ⟨b, off, none⟩) n c) (.int k i))) (.pointer (some ⟨b, off + i * sz, none⟩)) := by
  have := st_ix (b := b) (off := off) (c := c) (k := k) (i := (i : Int)) ht hs (by omega) (by omega : (i : Int) < n)
  simpa using this
theorem Ent.rdS {a : Option Addr} {n c sz : Nat} {l : List Value} {p : WP} (h : (∀ ctx', Has ctx' (SlO a n c sz l) → Rd ctx' a l) → n ≤ c → Ent e (SlO a n c sz l :: ctx) p) : Ent e (SlO a n c sz l :: ctx) p :=
  Ent.slO fun k1 k2 k3 k4 => h (fun ctx' hi => SlO.rd' hi (fun ha => List.eq_nil_of_length_eq_zero (by rw [k1, k4 ha, Nat.zero_mul])) k3) k2
theorem flat1 {X : Type} (f : X → Value) (xs : List X) : (xs.map fun y => [f y]).flatten = xs.map f := by
  induction xs with
  | nil => rfl
  | cons x r ih => simpa using ih
theorem flat_len {X : Type} (f : X → List Value) (k : Nat) (hf : ∀ x, (f x).length = k) (xs : List X) : ((xs.map f).flatten).length = xs.length * k := by
  induction xs with
  | nil => simp
  | cons x r ih => simp only [List.map_cons, List.flatten_cons, List.length_append, List.length_cons, hf, ih, Nat.succ_mul]; omega
theorem flat_sub {X : Type} (f : X → List Value) (k : Nat) (hf : ∀ x, (f x).length = k) {xs : List X} {i : Nat} {y : X} (hy : xs[i]? = some y) : (((xs.map f).flatten).drop (i * k)).take k = f y := by
  induction xs generalizing i with
  | nil => simp at hy
  | cons x r ih =>
    cases i with
    | zero =>
      simp only [List.getElem?_cons_zero, Option.some.injEq] at hy
      subst hy
      simp only [Nat.zero_mul, List.drop_zero, List.map_cons, List.flatten_cons]
      exact List.take_left' (hf x)
    | succ i =>
      simp only [List.getElem?_cons_succ] at hy
      have e1 : (i + 1) * k = (f x).length + i * k := by rw [hf, Nat.succ_mul]; omega
      simp only [List.map_cons, List.flatten_cons]
      rw [e1, List.drop_append, List.drop_eq_nil_of_le (by omega), List.nil_append]
      simpa using ih hy
/-- a struct or an array that may be read -/
theorem st_loadRA {t b off n i : Nat} {l cs : List Value} (hr : Rds ctx b off l) (ht : ag t = some n) (hv : (l.drop i).take n = cs) (hn : cs.length = n) :
    Still e ctx (vS (Instr.loadAt t (.pointer (some ⟨b, off + i, none⟩)))) (.agg cs.toArray) := fun w hw => by
  obtain ⟨i', d, h1, h2, h3, h4⟩ := ag_spec ht
  refine run_vS ?_
  obtain ⟨T, fr, c, g1, g2⟩ := hr _ hw.heap
  have hc : ∀ j v, cs[j]? = some v → w.cell? ⟨b, off + i + j, none⟩ = some v := by
    intro j v hj
    have hj' : l[i + j]? = some v := by
      rw [← hv, List.getElem?_take] at hj
      split at hj
      · rwa [List.getElem?_drop] at hj
      · cases hj
    have g1' : w.heap[b]? = some (.cells c T fr) := g1
    have := g2 _ _ hj'
    simp only [World.cell?, g1', Nat.add_assoc]
    simpa [Nat.add_assoc] using this
  have := run_loadCells_at hc
  rw [hn] at this
  simp [Instr.loadAt, Instr.sureAddr, loadVar, run_sizeOf' h1, h3, h4, this]
end
end Go.Proofs.YtiabhghlhnnnjaaGreatDoor.Sl
