/-
  MAPS OF OWNED THINGS; ranges over maps as folds; a present key set while a range goes on; clear.
-/
import Derived.Test.YtiabhghlhnnnjaaGreatDoorMp
import Derived.Test.YtiabhghlhnnnjaaGreatDoorRv
set_option maxRecDepth 100000
set_option linter.unusedVariables false
set_option linter.unusedSectionVars false
set_option linter.unusedSimpArgs false
namespace Go.Proofs.YtiabhghlhnnnjaaGreatDoor.Sl
open Go Sh MapKept
section plain
variable {α β : Type} [DecidableEq α]
theorem mdel_perm {a : α} {b : β} : ∀ {m : List (α × β)}, mfind a m = some b → m.Perm ((a, b) :: mdel a m)
  | [], h => by cases h
  | q :: m, h => by
    simp only [mfind] at h
    by_cases hq : q.1 = a
    · rw [if_pos hq] at h; cases h; subst hq
      simp only [mdel, if_true]; exact .refl _
    · rw [if_neg hq] at h
      simp only [mdel, if_neg hq]
      exact ((mdel_perm h).cons q).trans (.swap _ _ _)
theorem mset_perm {a : α} {b : β} : ∀ {m : List (α × β)}, (mset a b m).Perm ((a, b) :: mdel a m)
  | [] => .refl _
  | q :: m => by
    by_cases hq : q.1 = a
    · subst hq; simp only [mset, mdel, if_true]; exact .refl _
    · simp only [mset, mdel, if_neg hq]
      exact ((mset_perm (m := m)).cons q).trans (.swap _ _ _)
theorem mfind_of_mem {a : α} {b : β} : ∀ {m : List (α × β)}, (m.map (·.1)).Nodup → (a, b) ∈ m → mfind a m = some b
  | [], _, h => by cases h
  | q :: m, hn, h => by
    simp only [List.map_cons, List.nodup_cons] at hn
    rcases List.mem_cons.1 h with h | h
    · subst h; simp [mfind]
    · have : q.1 ≠ a := fun e => hn.1 (List.mem_map.2 ⟨_, h, e.symm⟩)
      simp only [mfind, if_neg this]; exact mfind_of_mem hn.2 h
theorem mfind_set {a c : α} {b : β} : ∀ {m : List (α × β)}, mfind c (mset a b m) = if c = a then some b else mfind c m
  | [] => by
    by_cases h : c = a
    · simp [mset, mfind, h]
    · simp [mset, mfind, h, Ne.symm h]
  | q :: m => by
    by_cases hq : q.1 = a
    · subst hq
      by_cases h : c = q.1
      · subst h; simp [mset, mfind]
      · simp [mset, mfind, h, Ne.symm h]
    · simp only [mset, if_neg hq, mfind]
      by_cases hc : q.1 = c
      · subst hc; simp [hq]
      · simp only [if_neg hc]; exact mfind_set
theorem mfind_iff {a : α} {m : List (α × β)} : mfind a m = none ↔ a ∉ m.map (·.1) := by
  induction m with
  | nil => simp [mfind]
  | cons q m ih =>
    simp only [mfind, List.map_cons, List.mem_cons]
    by_cases hq : q.1 = a
    · simp [hq]
    · simp [hq, Ne.symm hq, ih]
theorem mfind_del {a c : α} : ∀ {m : List (α × β)}, (m.map (·.1)).Nodup → mfind c (mdel a m) = if c = a then none else mfind c m
  | [], _ => by by_cases h : c = a <;> simp [mdel, mfind, h]
  | q :: m, hn => by
    simp only [List.map_cons, List.nodup_cons] at hn
    by_cases hq : q.1 = a
    · subst hq
      simp only [mdel, if_true, mfind]
      by_cases h : c = q.1
      · subst h; simp; exact mfind_iff.2 hn.1
      · simp [h, Ne.symm h]
    · simp only [mdel, if_neg hq, mfind]
      by_cases hc : q.1 = c
      · subst hc; simp [hq]
      · simp only [if_neg hc]; exact mfind_del hn.2
theorem mset_nodup {a : α} {b : β} {m : List (α × β)} (h : (m.map (·.1)).Nodup) : ((mset a b m).map (·.1)).Nodup := by
  cases hf : mfind a m with
  | none =>
    rw [mset_new hf, List.map_append]
    refine List.nodup_append.2 ⟨h, by simp, fun x hx y hy => ?_⟩
    simp only [List.map_cons, List.map_nil, List.mem_singleton] at hy
    subst hy
    exact fun e => mfind_iff.1 hf (e ▸ hx)
  | some b' =>
    have e1 : ((mset a b m).map (·.1)).Perm (m.map (·.1)) := ((mset_perm (a := a) (b := b) (m := m)).map (·.1)).trans (((mdel_perm hf).map (·.1)).symm)
    exact e1.symm.nodup h
theorem mdel_sub {a : α} : ∀ {m : List (α × β)}, (mdel a m).Sublist m
  | [] => .slnil
  | q :: m => by
    by_cases hq : q.1 = a
    · simp only [mdel, if_pos hq]; exact List.sublist_cons_self _ _
    · simp only [mdel, if_neg hq]; exact mdel_sub.cons_cons _
theorem mdel_nodup {a : α} {m : List (α × β)} (h : (m.map (·.1)).Nodup) : ((mdel a m).map (·.1)).Nodup := h.sublist (mdel_sub.map _)
end plain
section
variable {e : Env} {ctx ctx' : List HProp} {α β : Type} [DecidableEq α] {K : KeyF α} {vf : β → Value}
/-- what is held for each of many -/
def Own {γ : Type} (own : γ → HProp) (l : List γ) : HProp := sepL (l.map own)
theorem Own.perm {γ : Type} {own : γ → HProp} {l l' : List γ} (p : l.Perm l') : Imp (Own own l :: ctx) (Own own l' :: ctx) := fun _ k => sepL_cons (sepL_perm (p.map own)) (fun _ z => z) k
theorem Own.cons {γ : Type} {own : γ → HProp} {x : γ} {l : List γ} : Imp (Own own (x :: l) :: ctx) (own x :: Own own l :: ctx) := fun _ k => by
  have h1 := sepL_grp.1 k
  have h2 : sepL (own x :: (l.map own ++ ctx)) _ := h1
  exact sepL_cons (fun _ a => a) (fun _ z => sepL_grp.2 z) h2
theorem Own.uncons {γ : Type} {own : γ → HProp} {x : γ} {l : List γ} : Imp (own x :: Own own l :: ctx) (Own own (x :: l) :: ctx) := fun _ k => by
  refine sepL_grp.2 ?_
  have h2 : sepL (own x :: (l.map own ++ ctx)) _ := sepL_cons (fun _ a => a) (fun _ z => sepL_grp.1 z) k
  exact h2
theorem Own.nil {γ : Type} {own : γ → HProp} {c' : List HProp} (h : Imp ctx c') : Imp ctx (Own own [] :: c') := fun x k => sepL_grp.2 (h x k)
theorem Own.congr {γ δ : Type} {own : γ → HProp} {own' : δ → HProp} {l : List γ} {l' : List δ} (h : l.map own = l'.map own') : Imp (Own own l :: ctx) (Own own' l' :: ctx) := fun _ k => by
  unfold Own at k ⊢; rw [← h]; exact k
theorem Own.take {own : α × β → HProp} {a : α} {b : β} {m : List (α × β)} (h : mfind a m = some b) : Imp (Own own m :: ctx) (own (a, b) :: Own own (mdel a m) :: ctx) := (Own.perm (mdel_perm h)).trans Own.cons
theorem Own.put {own : α × β → HProp} {a : α} {b : β} {m : List (α × β)} : Imp (own (a, b) :: Own own (mdel a m) :: ctx) (Own own (mset a b m) :: ctx) := Own.uncons.trans (Own.perm mset_perm.symm)
theorem Own.new {own : α × β → HProp} {a : α} {b : β} {m : List (α × β)} (h : mfind a m = none) : Imp (own (a, b) :: Own own m :: ctx) (Own own (mset a b m) :: ctx) := by
  have := Own.put (own := own) (a := a) (b := b) (m := m) (ctx := ctx)
  rwa [mdel_none h] at this
/-- a map under other names -/
theorem Mp.congr {β' : Type} {vf' : β' → Value} {r : Nat} {m : List (α × β)} {m' : List (α × β')} (h : m.map (fun p => (K.f p.1, vf p.2)) = m'.map (fun p => (K.f p.1, vf' p.2))) : Imp (Mp K vf r m :: ctx) (Mp K vf' r m' :: ctx) := fun _ k =>
  sepL_cons (fun _ ⟨arr, ck, h1, h2, h3⟩ => ⟨arr, ck, h1, h2, h3.trans h⟩) (fun _ z => z) k
/-- the next entry, the entries parted in those that came and those to come -/
theorem Ent.mnextP {r i ty : Nat} {m dn rm : List (α × β)} {c0 : WP} {c1 : Value → Value → WP} (hp : Pick ctx (MpI K vf r i m (dn.map (·.1))) ctx') (hm : (dn ++ rm).Perm m) (hn : (m.map (·.1)).Nodup)
    (h0 : rm = [] → Ent e (MpI K vf r i m (dn.map (·.1)) :: ctx') c0)
    (h1 : ∀ a b rm', rm.Perm ((a, b) :: rm') → (a, b) ∈ m → (dn ++ [(a, b)] ++ rm').Perm m → Ent e (MpI K vf r i m (dn.map (·.1) ++ [a]) :: ctx') (c1 (K.f a) (vf b))) :
    Ent e ctx (NxK P (vS (Instr.next (.pointer (some ⟨i, 0, none⟩)) false ty)) .raw .raw c0 c1) := by
  have hnd : ((dn ++ rm).map (·.1)).Nodup := (hm.map _).symm.nodup hn
  rw [List.map_append] at hnd
  obtain ⟨_, _, m3⟩ := List.nodup_append.1 hnd
  refine Ent.mnext hp (fun hall => h0 ?_) (fun a b hab hx => ?_)
  · cases rm with
    | nil => rfl
    | cons y rm =>
      exfalso
      have hy : y ∈ m := hm.subset (by simp)
      exact m3 y.1 (hall y.1 y.2 hy) y.1 (by simp) rfl
  · have hxr : (a, b) ∈ rm := by
      rcases List.mem_append.1 (hm.symm.subset hab) with h | h
      · exact absurd (List.mem_map.2 ⟨_, h, rfl⟩) hx
      · exact h
    obtain ⟨l1, l2, rfl⟩ := List.append_of_mem hxr
    have hpm : (l1 ++ (a, b) :: l2).Perm ((a, b) :: (l1 ++ l2)) := List.perm_middle
    exact h1 a b (l1 ++ l2) hpm hab (by
      refine List.Perm.trans ?_ hm
      rw [List.append_assoc]
      exact (List.Perm.append_left dn (List.Perm.symm hpm)))
theorem dn_snoc {dn : List (α × β)} {a : α} {b : β} : (dn ++ [(a, b)]).map (·.1) = dn.map (·.1) ++ [a] := by simp
/-- a present key is set while a range goes on -/
theorem Ent.msetI {t kt vt r i : Nat} {m : List (α × β)} {dn : List α} {a : α} {b b' : β} {c : Value → WP} (hu : Upd ctx (MpI K vf r i m dn) (MpI K vf r i (Sl.mset a b m) dn) ctx') (hf : mfind a m = some b') (ht : dd t = some (.mp kt vt)) (hk : P.underlying kt = some K.d) (h : Ent e ctx' (c undef)) :
    Ent e ctx (OpK P (.one .raw) (uS (Instr.mapUpdate t (.map (some r)) (K.f a) (vf b))) c) := Ent.act fun w hw => by
  obtain ⟨s, hp, hq⟩ := hu.pick
  have hw2 := hw.imp (sepL_perm hp.perm)
  obtain ⟨arr, ck, seen, h1, h1i, hne, h2, h3, de, d1, d2, d3⟩ := Has.mpi .hd hw2
  obtain ⟨arr', ck', g1, g2, g3, g4⟩ := run_setM (a := a) (b := b) ht hk h1 h2 h3
  obtain ⟨hck, j, xj, hj, hxk, harr⟩ := g4 ⟨b', hf⟩
  subst hck
  refine ⟨undef, _, .inr ⟨run_uS g1, rfl⟩, _, rfl, h _ ?_⟩
  have hs := heap_set (o' := .map arr' ck') h1
  have hjm : xj ∈ arr.toList := List.mem_of_getElem? hj
  have hde : ∃ de' : List MapEntry, (∀ x ∈ de', x ∈ arr'.toList) ∧ seen.toList = de'.map (·.born) ∧ de'.map (·.key) = dn.map K.f := by
    refine ⟨de.map fun x => if x.born = xj.born then { x with key := K.f a, val := vf b } else x, fun y hy => ?_, ?_, ?_⟩
    · obtain ⟨x, hx, rfl⟩ := List.mem_map.1 hy
      have hxa := d1 x hx
      rw [harr, Array.toList_modify]
      by_cases hb : x.born = xj.born
      · have := born_uniq h2.2.1 hxa hjm hb
        subst this
        rw [if_pos rfl]
        refine List.mem_of_getElem? (i := j) ?_
        rw [List.getElem?_modify_eq, hj]; rfl
      · rw [if_neg hb]
        obtain ⟨n, hn, hxn⟩ := List.mem_iff_getElem.1 hxa
        have hjn : j ≠ n := fun he => by
          subst he
          rw [List.getElem?_eq_getElem hn, hxn] at hj
          cases hj; exact hb rfl
        refine List.mem_of_getElem? (i := n) ?_
        rw [List.getElem?_modify_ne _ _ hjn, List.getElem?_eq_getElem hn, hxn]
    · rw [d2, List.map_map]
      refine List.map_congr_left fun x _ => ?_
      simp only [Function.comp]
      split <;> rfl
    · rw [← d3, List.map_map]
      refine List.map_congr_left fun x hx => ?_
      simp only [Function.comp]
      split
      · rename_i hb
        have := born_uniq h2.2.1 (d1 x hx) hjm hb
        subst this
        exact hxk.symm
      · rfl
  obtain ⟨de', e1, e2, e3⟩ := hde
  have := Sat.turn2 (B := MpI K vf r i (Sl.mset a b m) dn) (w' := { w with heap := w.heap.setIfInBounds r (.map arr' ck') }) (b := r) (o' := .map arr' ck') hw2
    (fun g ⟨x, y, sn, hg, hgi, hne', _⟩ hl => ⟨⟨_, hg⟩, arr', ck', seen, by simp, by
      have f1 := hl _ _ hgi
      have f2 : w.heap[i]? = some (.mapIter (some r) y sn y) := f1
      rw [h1i] at f2
      cases f2
      simp [Ne.symm hne, hgi], hne, g2, g3, de', e1, e2, e3⟩) rfl rfl rfl hs.1 hs.2
  exact this.imp (sepL_perm hq.symm)
/-- a part of a block is cleared -/
theorem Ent.clear {t x ty by_ b off n c : Nat} {l : List Value} {z : Value} {k : Value → WP} (hu : Upd ctx (pt b l) (pt b (l.take off ++ List.replicate n z ++ l.drop (off + n))) ctx') (ht : dd t = some (.sl x)) (hs : szof x = some (1, by_)) (hz : zro x = some [z])
    (h1 : one z = true) (hf : off + n ≤ l.length) (h : Ent e ctx' (k (.tuple #[]))) :
    Ent e ctx (OpK P (.one .raw) (vS (Builtin.clear_ #[t] ty #[.slice (some ⟨b, off, none⟩) n c])) k) := Ent.act fun w hw => by
  obtain ⟨s2, hp, hq⟩ := hu.pick
  have hw2 : Sat e (sepL (pt b l :: s2)) w := hw.imp (sepL_perm hp.perm)
  obtain ⟨i', v, g1, g2, g3⟩ := zro_spec hz
  have hc := one_cells h1
  have hvz : v.cells = #[z] := by
    have : v.cells.toList.toArray = [z].toArray := by rw [g3]
    simpa using this
  have hzc : (Builtin.zeroCells v.cells n).toList = List.replicate n z := by
    rw [hvz]
    apply List.ext_getElem
    · simp [Builtin.zeroCells]
    · intro i h1 h2
      simp [Builtin.zeroCells, Nat.mod_one]
  obtain ⟨w', hst, hs'⟩ := run_storeCells_pt (b := b) (off := off) (List.replicate n z) 0 l s2 w (by simpa using hf) (fun v hv => by rw [List.eq_of_mem_replicate hv]; exact h1) hw2
  have hs2 : Sat e (sepL ctx') w' := hs'.imp fun y ky => sepL_perm hq.symm y (by simpa using ky)
  refine ⟨.tuple #[], w', .inl (run_vS ?_), _, rfl, h w' hs2⟩
  cases n with
  | zero =>
    have e1 : w = w' := by
      have : (storeCells ⟨b, off, none⟩ (List.replicate 0 z)).run P w = .ok () w := rfl
      rw [this] at hst; cases hst; rfl
    subst e1
    simp only [Builtin.clear_, List.getElem?_toArray, List.getElem?_cons_zero, Sem.run_bind, run_underlying (dd_sl ht), Result.andThen_ok, Sem.run_pure]
  | succ n =>
    simp only [Builtin.clear_, List.getElem?_toArray, List.getElem?_cons_zero, Sem.run_bind, run_underlying (dd_sl ht), Result.andThen_ok, run_zero g1 g2, hzc, hst, Sem.run_pure]
/-- one element behind the others, in a drawn region -/
theorem Ent.app1a {R : List HProp} {t y x sz by_ n c : Nat} {a : Option Addr} {v : Value} {l cs z : List Value} {k : Value → WP} (hS : Imp ctx R) (h : ∀ a2 c2, Ent e (SlO a2 (n + 1) c2 sz (l ++ cs) :: ctx') (k (.slice a2 (n + 1) c2)))
    (hp : Pick ctx (SlO a n c sz l) ctx' := by (repeat (first | exact Pick.hd | apply Pick.tl))) (ht : dd t = some (.sl x) := by exact rfl) (hs : szof x = some (sz, by_) := by exact rfl) (hz : zro x = some z := by exact rfl) (hv : v.cells.toList = cs := by first | exact cells_int _ _ | exact cells_str _ | exact cells_sl _ _ _ | exact cells_ptr _ | exact cells_bool _ | exact cells_agg _ | exact cells_map _ | exact rfl)
    (hb : (n + 1) * by_ ≤ 140737488355328 := by first | omega | (dsimp only; omega) | (simp; omega)) (hzl : z.length = sz := by exact rfl) (hl : cs.length = sz := by exact rfl) (h0 : sz ≠ 0 := by decide) (h2 : 1 * sz ≤ 16777216 := by decide) (h1 : cs.all one = true := by exact rfl) (h63 : n + 1 ≤ 4611686018427387904 := by omega) :
    Ent e ctx (oR (vS (Instr.buildSlice t 1 #[(0, v)])) fun s => andK (Sat e (sepL R)) (app t t y (.slice a n c) s k)) := by
  refine Ent.slice (out := cs) ht hs hz hzl h2 h0 (fill1 hv hl hzl) fun b => ?_
  refine Ent.andI (Imp.drop hS) ?_
  refine Ent.append (m := 1) (.tl hp) (Rd.pt .hd) ht hs hz hzl h0 (by rw [hl, Nat.one_mul]) (fun v hv => List.all_eq_true.1 h1 v hv) hb h63 fun a2 c2 => ?_
  exact (h a2 c2).imp (Imp.cons (Imp.drop (Imp.refl _)))
/-- results that lie in cells -/
theorem st_cellA {t b off n : Nat} {l : List Value} {cs : List Value} (hh : Has ctx (pt b l)) (ht : ag t = some n) (hv : (l.drop off).take n = cs) (hn : cs.length = n) :
    Still e ctx (vS (do loadVar t (← asAddr (.pointer (some ⟨b, off, none⟩))))) (.agg cs.toArray) := fun w hw => by
  have e1 : (do loadVar t (← asAddr (.pointer (some ⟨b, off, none⟩))) : Sem Value) = Instr.loadAt t (.pointer (some ⟨b, off, none⟩)) := rfl
  rw [e1]; exact st_loadA (e := e) hh ht hv hn w hw
theorem st_cell {t b off : Nat} {l : List Value} {v : Value} (hh : Has ctx (pt b l)) (ht : sc t = true) (hv : l[off]? = some v) :
    Still e ctx (vS (do loadVar t (← asAddr (.pointer (some ⟨b, off, none⟩))))) v := fun w hw => by
  have e1 : (do loadVar t (← asAddr (.pointer (some ⟨b, off, none⟩))) : Sem Value) = Instr.loadAt t (.pointer (some ⟨b, off, none⟩)) := rfl
  rw [e1]; exact st_load (e := e) hh ht hv w hw
theorem Ent.wrA {t b n : Nat} {l : List Value} {c : Value → WP} (h : Ent e ctx (c (.agg l.toArray))) (hh : Has ctx (pt b l) := by (repeat (first | exact Has.hd | apply Has.tl))) (ht : ag t = some n := by exact rfl) (hn : l.length = n := by exact rfl) :
    Ent e ctx (RdK P (.one .raw) (vS (do loadVar t (← asAddr (.pointer (some ⟨b, 0, none⟩))))) c) :=
  Ent.rR (st_cellA hh ht (by rw [List.drop_zero, ← hn, List.take_length]) hn) h
/-- a field of a struct's value -/
def fldT (t f : Nat) : Option (Nat × Nat) := match ti t with
  | some ⟨_, _, .struct fs⟩ => fs[f]?
  | _ => none
theorem fldT_spec {t f off ft : Nat} (h : fldT t f = some (off, ft)) : ∃ fields fd, P.underlying t = some (.struct fields) ∧ fields[f]? = some fd ∧ fd.offset = off ∧ fd.type = ft := by
  unfold fldT at h
  split at h
  · rename_i sz by_ fs hx
    obtain ⟨i, d, h1, h2, h3, h4, h5⟩ := ti_spec hx
    simp only at h5
    cases d <;> simp only [dOf] at h5 <;> try (cases h5)
    rename_i fields
    cases hf : fields[f]? with
    | none => simp [hf] at h
    | some fd =>
      have e : (fields.toList.map fun f => (f.offset, f.type))[f]? = some (fd.offset, fd.type) := by simp [hf]
      rw [e] at h
      cases h
      exact ⟨fields, fd, h2, hf, rfl, rfl⟩
  · cases h
theorem st_fieldV {t f off ft : Nat} {l : List Value} {v : Value} (h : fldT t f = some (off, ft)) (hs : sc ft = true) (hv : l[off]? = some v) : Pu (vS (Instr.field t (.agg l.toArray) f)) v := Still.of_run fun w => by
  obtain ⟨fields, fd, h1, h2, rfl, rfl⟩ := fldT_spec h
  obtain ⟨_, _, _, _, _, h4⟩ := sc_spec hs
  simp [Instr.field, run_underlying h1, h2, part, h4, asAgg, hv]
theorem st_mgetV {t kt vt r : Nat} {m : List (α × β)} {a : α} {b : β} {v : Value} (hh : Has ctx (Mp K vf r m)) (ht : dd t = some (.mp kt vt)) (hk : P.underlying kt = some K.d) (hb : mfind a m = some b) (hv : vf b = v) :
    Still e ctx (vS (Instr.lookup t (.map (some r)) (K.f a) false)) v := hv ▸ st_mgetT hh ht hk hb
theorem Ent.msetV {t kt vt r : Nat} {m : List (α × β)} {a : α} {b : β} {v : Value} {c : Value → WP} (hu : Upd ctx (Mp K vf r m) (Mp K vf r (Sl.mset a b m)) ctx') (ht : dd t = some (.mp kt vt)) (hk : P.underlying kt = some K.d) (hv : vf b = v) (h : Ent e ctx' (c undef)) :
    Ent e ctx (OpK P (.one .raw) (uS (Instr.mapUpdate t (.map (some r)) (K.f a) v)) c) := hv ▸ Ent.mset hu ht hk h
end
end Go.Proofs.YtiabhghlhnnnjaaGreatDoor.Sl
