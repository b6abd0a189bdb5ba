/-
  THE SECOND LAYER's RULES: slices, strings.
-/
import Derived.Test.YtiabhghlhnnnjaaGreatDoorOp
import Derived.Laws.Concat
import Derived.Laws.Strings2
set_option maxRecDepth 100000
set_option linter.unusedVariables false
set_option linter.unusedSimpArgs false
namespace Go.Proofs.YtiabhghlhnnnjaaGreatDoor.Sl
open Go Sh

/-- cells that may be read: from 'off' on the block holds 'l' -/
def rdc (b off : Nat) (l : List Value) : HProp := fun h => ∃ T fr, ∃ c : Array Value, h b = some (.cells c T fr) ∧ ∀ j v, l[j]? = some v → c[off + j]? = some v
/-- whoever holds 'ctx' may read them -/
def Rds (ctx : List HProp) (b off : Nat) (l : List Value) : Prop := ∀ h, sepL ctx h → rdc b off l h
/-- a slice's cells may be read -/
def Rd (ctx : List HProp) : Option Addr → List Value → Prop
  | none, l => l = []
  | some a, l => l = [] ∨ (a.spot = none ∧ Rds ctx a.block a.off l)
/-- a slice that owns its block: n elements of sz cells -/
def SlO (a : Option Addr) (n c sz : Nat) (l : List Value) : HProp := fun h =>
  l.length = n * sz ∧ ((a = none ∧ n = 0 ∧ c = 0) ∨ ∃ b r, a = some ⟨b, 0, none⟩ ∧ n ≤ c ∧ c * sz ≤ (l ++ r).length ∧ pt b (l ++ r) h)
def u8 (l : List UInt8) : List Value := l.map fun b => .int .u8 b.toNat
abbrev ba (l : List UInt8) : ByteArray := ⟨l.toArray⟩
@[simp] theorem u8_length (l : List UInt8) : (u8 l).length = l.length := by simp [u8]
@[simp] theorem u8_append (l r : List UInt8) : u8 (l ++ r) = u8 l ++ u8 r := by simp [u8]
@[simp] theorem u8_nil : u8 [] = [] := rfl
@[simp] theorem u8_take (l : List UInt8) (n : Nat) : (u8 l).take n = u8 (l.take n) := by simp [u8, List.map_take]
@[simp] theorem u8_drop (l : List UInt8) (n : Nat) : (u8 l).drop n = u8 (l.drop n) := by simp [u8, List.map_drop]
theorem u8_get (l : List UInt8) (i : Nat) : (u8 l)[i]? = (l[i]?).map fun b => .int .u8 b.toNat := by simp [u8]
theorem u8_one (l : List UInt8) : ∀ v ∈ u8 l, v.oneCell' = true := by intro v hv; simp only [u8, List.mem_map] at hv; obtain ⟨b, _, rfl⟩ := hv; rfl
/-- a slice of bytes that owns its block -/
abbrev BS (a : Option Addr) (c : Nat) (l : List UInt8) : HProp := SlO a l.length c 1 (u8 l)
abbrev RdB (ctx : List HProp) (a : Option Addr) (l : List UInt8) : Prop := Rd ctx a (u8 l)

section
variable {e : Env} {ctx ctx' R : List HProp}
theorem Rds.mono {b off : Nat} {l : List Value} (h : Rds ctx b off l) (hi : Imp ctx' ctx) : Rds ctx' b off l := fun x k => h x (hi x k)
theorem Rds.tl {A : HProp} {b off : Nat} {l : List Value} (h : Rds ctx b off l) : Rds (A :: ctx) b off l := h.mono (Imp.drop (Imp.refl _))
theorem Rd.mono {a : Option Addr} {l : List Value} (h : Rd ctx a l) (hi : Imp ctx' ctx) : Rd ctx' a l := by
  cases a with
  | none => exact h
  | some a => exact h.imp id fun k => ⟨k.1, k.2.mono hi⟩
theorem Rd.tl {A : HProp} {a : Option Addr} {l : List Value} (h : Rd ctx a l) : Rd (A :: ctx) a l := h.mono (Imp.drop (Imp.refl _))
theorem rdc_le {b off : Nat} {l : List Value} {h h' : Hp} (hl : Hp.le h h') (k : rdc b off l h) : rdc b off l h' := by
  obtain ⟨T, fr, c, h1, h2⟩ := k
  exact ⟨T, fr, c, hl _ _ h1, h2⟩
theorem Rds.of_has {A : HProp} {b off : Nat} {l : List Value} (hh : Has ctx A) (hA : ∀ h, A h → rdc b off l h) : Rds ctx b off l := fun h k => by
  obtain ⟨r, hr⟩ := hh.pick
  obtain ⟨h1, _, _, l1, _, a, _⟩ := sepL_perm hr.perm _ k
  exact rdc_le l1 (hA _ a)
theorem rdc_pt {b off : Nat} {l m : List Value} (hm : ∀ j v, m[j]? = some v → l[off + j]? = some v) (h : Hp) (k : pt b l h) : rdc b off m h := by
  obtain ⟨T, fr, h1, _⟩ := k
  exact ⟨T, fr, _, h1, fun j v hj => by simpa using hm j v hj⟩
theorem Rds.of_pt {b off : Nat} {l m : List Value} (hh : Has ctx (pt b l)) (hm : ∀ j v, m[j]? = some v → l[off + j]? = some v) : Rds ctx b off m := Rds.of_has hh (rdc_pt hm)
theorem Rd.nil (ctx : List HProp) : Rd ctx none [] := rfl
theorem SlO.rd {a : Option Addr} {n c sz : Nat} {l : List Value} (hh : Has ctx (SlO a n c sz l)) (hs : ∃ w, Sat e (sepL ctx) w) : Rd ctx a l := by
  obtain ⟨w, hw⟩ := hs
  obtain ⟨h, _, hl, h2⟩ := hh.at_ hw
  rcases h2 with ⟨rfl, rfl, rfl⟩ | ⟨b, r, rfl, _, _, _⟩
  · exact List.eq_nil_of_length_eq_zero (by simpa using hl)
  · refine .inr ⟨rfl, Rds.of_has hh fun h k => ?_⟩
    obtain ⟨_, k⟩ := k
    rcases k with ⟨k, _⟩ | ⟨b', r', hb, _, _, k⟩
    · cases k
    · cases hb
      exact rdc_pt (fun j v hj => by
        rw [Nat.zero_add, List.getElem?_append_left (List.getElem?_eq_some_iff.1 hj).1]; exact hj) h k
theorem Rds.sub {b off : Nat} {l : List Value} (h : Rds ctx b off l) (i n : Nat) : Rds ctx b (off + i) ((l.drop i).take n) := fun x k => by
  obtain ⟨T, fr, c, h1, h2⟩ := h x k
  refine ⟨T, fr, c, h1, fun j v hj => ?_⟩
  rw [List.getElem?_take] at hj
  split at hj
  · rw [List.getElem?_drop] at hj
    rw [Nat.add_assoc]; exact h2 _ _ hj
  · cases hj
theorem Rds.pre {b off : Nat} {l m : List Value} (h : Rds ctx b off (l ++ m)) : Rds ctx b off l := fun x k => by
  obtain ⟨T, fr, c, h1, h2⟩ := h x k
  exact ⟨T, fr, c, h1, fun j v hj => h2 j v (by rw [List.getElem?_append_left (List.getElem?_eq_some_iff.1 hj).1]; exact hj)⟩
theorem Rd.cells {a : Addr} {l : List Value} {w : World} (h : Rd ctx (some a) l) (hw : Sat e (sepL ctx) w) : ∀ j v, l[j]? = some v → w.cell? (a.add j) = some v := by
  intro j v hj
  obtain ⟨b, off, s⟩ := a
  rcases h with rfl | ⟨hs, h⟩
  · simp at hj
  · simp only at hs
    subst hs
    obtain ⟨T, fr, c, h1, h2⟩ := h _ hw.heap
    rw [Addr.add_lit]
    have : w.heap[b]? = some (.cells c T fr) := h1
    simp [World.cell?, this, h2 j v hj]
theorem st_loadR {t b off : Nat} {l : List Value} {i : Nat} {v : Value} (hr : Rds ctx b off l) (ht : sc t = true) (hv : l[i]? = some v) : Still e ctx (vS (Instr.loadAt t (.pointer (some ⟨b, off + i, none⟩)))) v := fun w hw => by
  obtain ⟨i', d, h1, h2, h3, h4⟩ := sc_spec ht
  obtain ⟨T, fr, c, g1, g2⟩ := hr _ hw.heap
  have : w.heap[b]? = some (.cells c T fr) := g1
  refine run_vS ?_
  simp [Instr.loadAt, Instr.sureAddr, loadVar, h4, World.cell?, this, g2 i v hv]

/-! slicing -/
theorem elem_of {t x : TypeId} (h : P.underlying t = some (.slice x)) : P.elem t = x := by simp [Program.elem, h]
theorem und_el {t x : TypeId} (h : dd t = some (.sl x)) : P.underlying t = some (.slice (P.elem t)) := by rw [elem_of (dd_sl h)]; exact dd_sl h
/-- where a part of a slice begins -/
def cut (a : Option Addr) (l m sz : Nat) : Option Addr := if m = l then a else a.map (·.add (l * sz))
theorem cut_some (b off l m sz : Nat) : cut (some ⟨b, off, none⟩) l m sz = some ⟨b, if m = l then off else off + l * sz, none⟩ := by
  unfold cut; split <;> simp [Addr.add_lit]
theorem cut_none (l m sz : Nat) : cut none l m sz = none := by unfold cut; split <;> rfl
theorem st_slL {t x sz by_ n c : Nat} {a : Option Addr} {k : IntKind} {l : Int} (ht : dd t = some (.sl x)) (hs : szof x = some (sz, by_)) (h0 : 0 ≤ l) (h1 : l ≤ n) :
    Pu (vS (Instr.sliceAt t (.slice a n c) (some (.int k l)) none none)) (.slice (cut a l.toNat c sz) (n - l.toNat) (c - l.toNat)) := Still.of_run fun w => by
  obtain ⟨i, h2, h3, _⟩ := szof_spec hs
  have hu := und_el ht
  rw [run_sliceAt_slice w t _ _ _ _ hu, run_slice_l w t a n c hu k l h0 h1, elem_of (dd_sl ht), run_sizeOf' h2, h3]
  rfl
theorem st_slH {t x sz by_ n c : Nat} {a : Option Addr} {k : IntKind} {h : Int} (ht : dd t = some (.sl x)) (hs : szof x = some (sz, by_)) (h0 : 0 ≤ h) (h1 : h ≤ c) :
    Pu (vS (Instr.sliceAt t (.slice a n c) none (some (.int k h)) none)) (.slice (cut a 0 c sz) h.toNat c) := Still.of_run fun w => by
  obtain ⟨i, h2, h3, _⟩ := szof_spec hs
  have hu := und_el ht
  rw [run_sliceAt_slice w t _ _ _ _ hu, run_slice_h w t a n c hu k h h0 h1, elem_of (dd_sl ht), run_sizeOf' h2, h3]
  rfl
theorem st_slLH {t x sz by_ n c : Nat} {a : Option Addr} {k k' : IntKind} {l h : Int} (ht : dd t = some (.sl x)) (hs : szof x = some (sz, by_)) (h0 : 0 ≤ l) (h1 : l ≤ h) (h2 : h ≤ c) :
    Pu (vS (Instr.sliceAt t (.slice a n c) (some (.int k l)) (some (.int k' h)) none)) (.slice (cut a l.toNat c sz) (h.toNat - l.toNat) (c - l.toNat)) := Still.of_run fun w => by
  obtain ⟨i, h3, h4, _⟩ := szof_spec hs
  have hu := und_el ht
  rw [run_sliceAt_slice w t _ _ _ _ hu, run_slice_lh w t a n c hu k k' l h h0 h1 h2, elem_of (dd_sl ht), run_sizeOf' h3, h4]
  rfl
theorem st_slLHM {t x sz by_ n c : Nat} {a : Option Addr} {k k' k'' : IntKind} {l h m : Int} (ht : dd t = some (.sl x)) (hs : szof x = some (sz, by_)) (h0 : 0 ≤ l) (h1 : l ≤ h) (h2 : h ≤ m) (h3 : m ≤ c) :
    Pu (vS (Instr.sliceAt t (.slice a n c) (some (.int k l)) (some (.int k' h)) (some (.int k'' m)))) (.slice (cut a l.toNat m.toNat sz) (h.toNat - l.toNat) (m.toNat - l.toNat)) := Still.of_run fun w => by
  obtain ⟨i, h4, h5, _⟩ := szof_spec hs
  have hu := und_el ht
  rw [run_sliceAt_slice w t _ _ _ _ hu, run_slice_lhm w t a n c hu k k' k'' l h m h0 h1 h2 h3, elem_of (dd_sl ht), run_sizeOf' h4, h5]
  rfl
theorem st_slHM {t x sz by_ n c : Nat} {a : Option Addr} {k k' : IntKind} {h m : Int} (ht : dd t = some (.sl x)) (hs : szof x = some (sz, by_)) (h1 : 0 ≤ h) (h2 : h ≤ m) (h3 : m ≤ c) :
    Pu (vS (Instr.sliceAt t (.slice a n c) none (some (.int k h)) (some (.int k' m)))) (.slice (cut a 0 m.toNat sz) h.toNat m.toNat) := Still.of_run fun w => by
  obtain ⟨i, h4, h5, _⟩ := szof_spec hs
  have hu := und_el ht
  rw [run_sliceAt_slice w t _ _ _ _ hu, run_slice_hm w t a n c hu k k' h m h1 h2 h3, elem_of (dd_sl ht), run_sizeOf' h4, h5]
  rfl
theorem st_slA {t x sz by_ n c : Nat} {a : Option Addr} (ht : dd t = some (.sl x)) (hs : szof x = some (sz, by_)) :
    Pu (vS (Instr.sliceAt t (.slice a n c) none none none)) (.slice (cut a 0 c sz) n c) := Still.of_run fun w => by
  obtain ⟨i, h4, h5, _⟩ := szof_spec hs
  have hu := und_el ht
  rw [run_sliceAt_slice w t _ _ _ _ hu, run_slice_all w t a n c hu, elem_of (dd_sl ht), run_sizeOf' h4, h5]
  rfl

/-! making -/
theorem Ent.make {t x by_ n : Nat} {k k' : IntKind} {z : Value} {c : Value → WP} (ht : dd t = some (.sl x)) (hs : szof x = some (1, by_)) (hz : zro x = some [z]) (hn : by_ * n ≤ 281474976710656) (h63 : n ≤ 4611686018427387904)
    (h : ∀ b, Ent e (pt b (List.replicate n z) :: ctx) (c (.slice (some ⟨b, 0, none⟩) n n))) : Ent e ctx (OpK P (.one .raw) (vS (Instr.makeSlice t (.int k n) (.int k' n))) c) := Ent.act fun w hw => by
  obtain ⟨i, h4, h5, h6⟩ := szof_spec hs
  obtain ⟨i', v, g1, g2, g3⟩ := zro_spec hz
  rw [h4] at g1; cases g1
  have hb : (i.bytes : Int) * (n : Int) ≤ 281474976710656 := by
    have h : ((by_ * n : Nat) : Int) ≤ 281474976710656 := by omega
    rw [Int.natCast_mul] at h
    rw [h6]; exact h
  have hr := run_make (P := P) w t x i v (dd_sl ht) h4 g2 k k' n n (by omega) (Int.le_refl _) hb (by omega)
  rw [Int.toNat_natCast, h5, Nat.mul_one] at hr
  have hm : madeCells v.cells n = (List.replicate n z).toArray := by
    have e1 : v.cells = #[z] := by
      have : v.cells.toList.toArray = [z].toArray := by rw [g3]
      simpa using this
    rw [e1]
    apply Array.ext
    · simp [madeCells]
    · intro j h1 h2; simp [madeCells, Nat.mod_one]
  rw [hm] at hr
  refine ⟨.slice (some ⟨w.heap.size, 0, none⟩) n n, _, .inl (run_vS hr), _, rfl, h w.heap.size _ ?_⟩
  exact hw.new _ x
/-- 'fill', on lists -/
def fillL (pl : Nat → Option (Nat × Nat)) : List Value → List (Nat × Value) → Option (List Value)
  | cells, [] => some cells
  | cells, (i, v) :: rest => match pl i with
    | none => none
    | some (off, size) => match v.cells.toList with
      | cs => match Nat.beq cs.length size && Nat.ble (off + cs.length) cells.length with
        | true => fillL pl (cells.take off ++ cs ++ cells.drop (off + cs.length)) rest
        | false => none
theorem foldl_splice (cs : List Value) : ∀ (k off : Nat) (cells : Array Value), off + k + cs.length ≤ cells.size →
    (cs.zipIdx k).foldl (fun a (p : Value × Nat) => a.setIfInBounds (off + p.2) p.1) cells = (cells.toList.take (off + k) ++ cs ++ cells.toList.drop (off + k + cs.length)).toArray := by
  induction cs with
  | nil => intro k off cells _; simp
  | cons v cs ih =>
    intro k off cells h
    simp only [List.length_cons] at h
    simp only [List.zipIdx_cons, List.foldl_cons]
    rw [ih (k + 1) off _ (by simp; omega)]
    congr 1
    have hlt : off + k < cells.toList.length := by simp; omega
    have e0 : (cells.setIfInBounds (off + k) v).toList = cells.toList.set (off + k) v := by simp
    rw [e0]
    have e1 : (cells.toList.set (off + k) v).take (off + (k + 1)) = cells.toList.take (off + k) ++ [v] := by
      rw [show off + (k + 1) = (off + k) + 1 by omega, List.take_succ_eq_append_getElem (by simpa using hlt)]
      simp
      exact List.take_set_of_le (Nat.le_refl _)
    have e2 : (cells.toList.set (off + k) v).drop (off + (k + 1) + cs.length) = cells.toList.drop (off + k + (cs.length + 1)) := by
      rw [List.drop_set_of_lt (by omega)]; congr 1; omega
    rw [e1, e2]; simp
theorem fillL_fill (pl : Nat → Option (Nat × Nat)) : ∀ (ps : List (Nat × Value)) (cells : List Value) (out : List Value), fillL pl cells ps = some out → Instr.fill pl cells.toArray ps = some out.toArray
  | [], cells, out, h => by simp only [fillL, Option.some.injEq] at h; subst h; rfl
  | (i, v) :: rest, cells, out, h => by
    simp only [fillL] at h
    simp only [Instr.fill]
    cases hp : pl i with
    | none => rw [hp] at h; cases h
    | some os =>
      obtain ⟨off, size⟩ := os
      rw [hp] at h
      simp only at h
      cases hc : (Nat.beq v.cells.toList.length size && Nat.ble (off + v.cells.toList.length) cells.length) with
      | false => rw [hc] at h; cases h
      | true =>
        rw [hc] at h
        simp only [Bool.and_eq_true] at hc
        have h1 : v.cells.size = size := by have := Nat.eq_of_beq_eq_true hc.1; simpa using this
        have h2 : off + v.cells.size ≤ cells.length := by have := Nat.le_of_ble_eq_true hc.2; simpa using this
        have h3 : (decide (v.cells.size ≠ size) || decide (off + v.cells.size > cells.toArray.size)) = false := by simp [h1]; omega
        simp only [ne_eq, h3]
        have hf := foldl_splice v.cells.toList 0 off cells.toArray (by simpa using h2)
        simp only [Nat.add_zero] at hf
        have : (v.cells.zipIdx.foldl (fun cs (c, j) => cs.setIfInBounds (off + j) c) cells.toArray) = (cells.take off ++ v.cells.toList ++ cells.drop (off + v.cells.toList.length)).toArray := by
          rw [← Array.foldl_toList, Array.toList_zipIdx]; exact hf
        rw [this]
        exact fillL_fill pl rest _ out h
/-- a struct's fields: place and cells of each -/
def plS (t : TypeId) : Option (List (Nat × Nat)) := match ti t with
  | some ⟨_, _, .struct fs⟩ => plS' fs
  | _ => none
where plS' : List (Nat × Nat) → Option (List (Nat × Nat))
  | [] => some []
  | (off, ft) :: r => match ti ft with
    | some ⟨n, _, _⟩ => match plS' r with
      | some l => some ((off, n) :: l)
      | none => none
    | none => none
theorem plS'_run (w : World) : ∀ (fs : List Field) (l : List (Nat × Nat)), plS.plS' (fs.map fun f => (f.offset, f.type)) = some l →
    (fs.mapM (m := Sem) fun f => do pure (f.offset, ← sizeOf f.type)).run P w = .ok l w
  | [], l, h => by simp only [List.map_nil, plS.plS', Option.some.injEq] at h; subst h; rfl
  | f :: r, l, h => by
    simp only [List.map_cons, plS.plS'] at h
    cases hx : ti f.type with
    | none => simp [hx] at h
    | some y =>
      obtain ⟨n, b, d⟩ := y
      simp only [hx] at h
      cases hr : plS.plS' (r.map fun f => (f.offset, f.type)) with
      | none => simp [hr] at h
      | some l' =>
        simp only [hr, Option.some.injEq] at h
        subst h
        obtain ⟨i, d', h1, _, h3, _⟩ := ti_spec hx
        have ih := plS'_run w r l' hr
        simp only [List.mapM_cons, Sem.run_bind, run_sizeOf' h1, h3, Result.andThen_ok, Sem.run_pure, ih]
theorem st_build {t : TypeId} {pl : List (Nat × Nat)} {z out : List Value} {ps : Array (Nat × Value)} (hp : plS t = some pl) (hz : zro t = some z) (hf : fillL (fun i : Nat => pl[i]?) z ps.toList = some out) :
    Pu (vS (Instr.build t ps)) (.agg out.toArray) := Still.of_run fun w => by
  unfold plS at hp
  split at hp
  · rename_i sz by_ fs hx
    obtain ⟨i, d, h1, h2, h3, h4, h5⟩ := ti_spec hx
    simp only at h5
    cases d <;> simp only [dOf] at h5 <;> try (cases h5)
    rename_i fields
    obtain ⟨i', v, g1, g2, g3⟩ := zro_spec hz
    have hr := plS'_run w fields.toList pl hp
    have hm : (fields.mapM (m := Sem) fun f => do pure (f.offset, ← sizeOf f.type)).run P w = .ok pl.toArray w := by
      rw [Array.mapM_eq_mapM_toList]
      simp only [Sem.run_map, hr, Result.andThen_ok]
    have hff := fillL_fill _ _ _ _ hf
    have e1 : v.cells = z.toArray := by rw [← g3]
    simp only [Instr.build, Sem.run_bind, run_zero g1 g2, Result.andThen_ok, run_underlying h2, hm, e1]
    have e2 : (fun x : Nat => pl.toArray[x]?) = fun i : Nat => pl[i]? := by funext i; simp
    rw [e2, hff]
    rfl
  · cases hp
theorem Ent.slice0 {t x sz by_ n : Nat} {z out : List Value} {ps : Array (Nat × Value)} {c : Value → WP} (ht : dd t = some (.sl x)) (hs : szof x = some (sz, by_)) (hz : zro x = some z) (hsz : z.length = sz) (hn : n * sz ≤ 16777216) (h0 : sz ≠ 0)
    (hf : fillL (fun i => some (i * sz, sz)) (List.replicate n z).flatten ps.toList = some out) (h : ∀ b, Ent e (p0 b out :: ctx) (c (.slice (some ⟨b, 0, none⟩) n n))) :
    Ent e ctx (OpK P (.one .raw) (vS (Instr.buildSlice t n ps)) c) := Ent.act fun w hw => by
  obtain ⟨i, h4, h5, h6⟩ := szof_spec hs
  obtain ⟨i', v, g1, g2, g3⟩ := zro_spec hz
  have hff := fillL_fill _ _ _ _ hf
  have e1 : v.cells = z.toArray := by rw [← g3]
  have hzs : z.toArray.size = sz := by simp [hsz]
  have e2 : (Array.range (n * sz)).map (z.toArray[· % z.toArray.size]!) = (List.replicate n z).flatten.toArray := by
    apply Array.ext
    · simp [hsz]
    · intro j h1 h2
      simp only [Array.size_map, Array.size_range] at h1
      have hlt : j % sz < z.length := by rw [hsz]; exact Nat.mod_lt _ (by omega)
      have key : ∀ (n j : Nat), j < n * sz → (List.replicate n z).flatten[j]? = z[j % sz]? := by
        intro n
        induction n with
        | zero => intro j hj; omega
        | succ n ih =>
          intro j hj
          rw [List.replicate_succ, List.flatten_cons]
          by_cases hjs : j < z.length
          · rw [List.getElem?_append_left hjs, Nat.mod_eq_of_lt (by omega)]
          · rw [List.getElem?_append_right (by omega), ih _ (by rw [Nat.succ_mul] at hj; omega), hsz]
            congr 1
            rw [Nat.mod_eq_sub_mod (by omega : j ≥ sz)]
      have hk := key n j h1
      rw [List.getElem?_eq_getElem hlt] at hk
      have h2' : j < (List.replicate n z).flatten.length := by simpa using h2
      rw [List.getElem?_eq_getElem h2'] at hk
      simp only [Array.getElem_map, Array.getElem_range, hzs]
      rw [getElem!_pos z.toArray (j % sz) (by simpa using hlt)]
      simp only [List.getElem_toArray]
      exact (Option.some.inj hk).symm
  refine ⟨.slice (some ⟨w.heap.size, 0, none⟩) n n, w.alloc (.cells out.toArray x), .inl (run_vS ?_), _, rfl, h w.heap.size _ (hw.new0 out x)⟩
  have n1 : ¬ 16777216 < n * sz := by omega
  by_cases hn0 : n * sz = 0
  · have hn00 : n = 0 := by rcases Nat.mul_eq_zero.1 hn0 with h | h; exact h; exact absurd h h0
    subst hn00
    simp only [List.replicate_zero, List.flatten_nil] at hff
    simp only [Instr.buildSlice, Sem.run_bind, run_underlying (dd_sl ht), Result.andThen_ok, run_sizeOf' h4, h5, Nat.zero_mul]
    have e3 : ∀ f : Nat → Value, Array.map f (Array.range 0) = #[] := fun f => Array.ext (by simp) (fun j h1 h2 => by simp at h2)
    simp only [Nat.not_lt_zero, if_false, if_true, Sem.run_bind, Sem.run_pure, Result.andThen_ok, e3, hff, Nat.reducePow, gt_iff_lt]
    rfl
  · simp only [Instr.buildSlice, Sem.run_bind, run_underlying (dd_sl ht), Result.andThen_ok, run_sizeOf' h4, h5, Nat.reducePow, if_neg n1, Sem.run_pure]
    simp only [hn0, if_false, Sem.run_bind, run_zero g1 g2, Result.andThen_ok, Sem.run_pure, e1, e2, hff]
    rfl
theorem Ent.slice {t x sz by_ n : Nat} {z out : List Value} {ps : Array (Nat × Value)} {c : Value → WP} (ht : dd t = some (.sl x)) (hs : szof x = some (sz, by_)) (hz : zro x = some z) (hsz : z.length = sz) (hn : n * sz ≤ 16777216) (h0 : sz ≠ 0)
    (hf : fillL (fun i => some (i * sz, sz)) (List.replicate n z).flatten ps.toList = some out) (h : ∀ b, Ent e (pt b out :: ctx) (c (.slice (some ⟨b, 0, none⟩) n n))) :
    Ent e ctx (OpK P (.one .raw) (vS (Instr.buildSlice t n ps)) c) :=
  Ent.slice0 ht hs hz hsz hn h0 hf fun b => (h b).imp fun _ => sepL_cons p0_pt fun _ x => x
/-- the mark of a literal's bytes -/
theorem Ent.mark {t x b n : Nat} {l : List Value} {k : Value → WP} (ht : dd t = some (.sl x)) (hx : dd x = some (.int .u8)) (h : Ent e (pt b l :: ctx) (k (.slice (some ⟨b, 0, none⟩) n n))) :
    Ent e (p0 b l :: ctx) (OpK P (.one .raw) (vS (convert t t (.slice (some ⟨b, 0, none⟩) n n))) k) := Ent.act fun w hw => by
  have hb : ∃ T, w.heap[b]? = some (.cells l.toArray T) := by
    obtain ⟨g1, g2, hd, l1, l2, ⟨T, a⟩, r⟩ := hw.heap
    exact ⟨T, l1 _ _ a⟩
  obtain ⟨T, hb⟩ := hb
  refine ⟨_, w.freeze ⟨b, l.length, none⟩ 1, .inl (run_vS (v := .slice (some ⟨b, 0, none⟩) n n) ?_), _, rfl, h _ ?_⟩
  · have hs : w.shape? b = some (T, l.length) := by simp [World.shape?, hb]
    simp [convert, run_underlying (dd_sl ht), run_underlying (dd_int hx), markStringish, hs]
  · have hlt : b < w.heap.size := (Array.getElem?_eq_some_iff.1 hb).1
    have hw' : Sat e (sepL ((fun h => h b = some (.cells l.toArray T)) :: ctx)) w := by
      obtain ⟨g1, g2, hd, l1, l2, ⟨T', a⟩, r⟩ := hw.heap
      have := l1 _ _ a
      have he : hpOf w b = w.heap[b]? := rfl
      rw [he, hb] at this
      cases this
      exact ⟨hw.os, hw.tape, hw.output, g1, g2, hd, l1, l2, a, r⟩
    refine Sat.turn (o' := .cells l.toArray T (l.length, l.length + 1)) hw' (fun _ k => k) (fun _ k => ⟨T, _, k, fun i hi => .inl hi⟩) rfl rfl rfl ?_ fun i hi => ?_
    · simp [World.freeze, Array.getElem?_modify, hb]
    · simp [World.freeze, Array.getElem?_modify]
      intro h; exact absurd h.symm hi
end
end Go.Proofs.YtiabhghlhnnnjaaGreatDoor.Sl
