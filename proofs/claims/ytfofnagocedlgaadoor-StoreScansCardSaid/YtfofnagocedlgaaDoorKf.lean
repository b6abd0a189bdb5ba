/- The texts Mp Rv Om Rf FT Tx, laid together. -/
import Derived.MapKept
import Derived.Maps.RangeRun
import Derived.RangeFuncSeq
import Derived.RangeFuncRecord
import Derived.Test.YtfofnagocedlgaaDoorKd
import Derived.Test.YtfofnagocedlgaaDoorKe
section
/-
  MAPS: what a map's block holds ('Mp'), also while a range goes over it ('MpI'); the rules.
-/
set_option maxRecDepth 100000
set_option linter.unusedVariables false
set_option linter.unusedSectionVars false
set_option linter.unusedSimpArgs false
namespace Go.Proofs.YtfofnagocedlgaaDoor.Sl
open Go Sh MapKept
/-- keys that are compared plainly -/
structure KeyF (α : Type) where
  f : α → Value
  d : TypeDesc
  ok : ∀ a, IsKey d (f a)
  inj : ∀ a b, f a = f b → a = b
def intK (k : IntKind) : KeyF Int := ⟨fun n => .int k n, .int k, fun _ => rfl, fun a b h => by cases h; rfl⟩
def strK : KeyF (List UInt8) := ⟨fun l => .string (ba l), .string, fun _ => trivial, fun a b h => by simp [ba] at h; exact h⟩
section plain
variable {α β : Type} [DecidableEq α]
def mfind (a : α) : List (α × β) → Option β
  | [] => none
  | p :: m => if p.1 = a then some p.2 else mfind a m
def mset (a : α) (b : β) : List (α × β) → List (α × β)
  | [] => [(a, b)]
  | p :: m => if p.1 = a then (p.1, b) :: m else p :: mset a b m
def mdel (a : α) : List (α × β) → List (α × β)
  | [] => []
  | p :: m => if p.1 = a then m else p :: mdel a m
theorem mfind_none {a : α} : ∀ {m : List (α × β)}, mfind a m = none → ∀ p ∈ m, p.1 ≠ a
  | [], _, p, hp => by cases hp
  | q :: m, h, p, hp => by
    simp only [mfind] at h
    split at h
    · cases h
    · rcases List.mem_cons.1 hp with rfl | hp
      · assumption
      · exact mfind_none h p hp
theorem mfind_mem {a : α} {b : β} : ∀ {m : List (α × β)}, mfind a m = some b → (a, b) ∈ m
  | [], h => by cases h
  | q :: m, h => by
    simp only [mfind] at h
    split at h
    · rename_i hq; cases h; subst hq; exact List.mem_cons_self
    · exact List.mem_cons_of_mem _ (mfind_mem h)
theorem mset_new {a : α} {b : β} : ∀ {m : List (α × β)}, mfind a m = none → mset a b m = m ++ [(a, b)]
  | [], _ => rfl
  | q :: m, h => by
    simp only [mfind] at h
    split at h
    · cases h
    · rename_i hq; simp only [mset, if_neg hq, mset_new h, List.cons_append]
end plain
section
variable {e : Env} {ctx ctx' : List HProp} {α β : Type} [DecidableEq α] {K : KeyF α} {vf : β → Value}
/-- the entries are these -/
def Al (K : KeyF α) (vf : β → Value) (l : List MapEntry) (m : List (α × β)) : Prop := l.map (fun x => (x.key, x.val)) = m.map fun p => (K.f p.1, vf p.2)
theorem now_eq (a b : α) : Instr.sameNow K.d (K.f a) (K.f b) = some (decide (a = b)) := by
  obtain ⟨r, h1, h2⟩ := sameNow_of_keys (K.ok a) (K.ok b)
  rw [h1]
  congr 1
  by_cases h : a = b
  · rw [decide_eq_true h, h2.2 (by rw [h])]
  · rw [decide_eq_false h]
    cases r with
    | false => rfl
    | true => exact absurd (K.inj _ _ (h2.1 rfl)) h
theorem now_m (a : α) : ∀ (l : List MapEntry) (m : List (α × β)) (i : Nat), Al K vf l m →
    (mfind a m = none → Instr.findNow K.d (K.f a) l i = some none) ∧
    (∀ b, mfind a m = some b → ∃ j x, Instr.findNow K.d (K.f a) l i = some (some (i + j, vf b)) ∧ l[j]? = some x ∧ x.key = K.f a)
  | [], [], i, _ => ⟨fun _ => rfl, fun b h => by cases h⟩
  | [], _ :: _, i, h => by simp [Al] at h
  | _ :: _, [], i, h => by simp [Al] at h
  | x :: l, p :: m, i, h => by
    simp only [Al, List.map_cons, List.cons.injEq, Prod.mk.injEq] at h
    obtain ⟨⟨h1, h2⟩, h3⟩ := h
    have ih := now_m a l m (i + 1) h3
    have hn := now_eq (K := K) a p.1
    rw [← h1] at hn
    by_cases hp : p.1 = a
    · subst hp
      simp only [decide_true] at hn
      constructor
      · intro h; simp [mfind] at h
      · intro b hb
        simp only [mfind, if_true, Option.some.injEq] at hb
        subst hb
        exact ⟨0, x, by simp [Instr.findNow, hn, h2], rfl, h1⟩
    · rw [decide_eq_false (Ne.symm hp)] at hn
      constructor
      · intro h
        simp only [mfind, if_neg hp] at h
        simp only [Instr.findNow, hn, ih.1 h]
      · intro b hb
        simp only [mfind, if_neg hp] at hb
        obtain ⟨j, y, g1, g2, g3⟩ := ih.2 b hb
        exact ⟨j + 1, y, by simp only [Instr.findNow, hn, g1]; congr 3; omega, by simpa using g2, g3⟩
theorem find_m {kt : TypeId} (hk : P.underlying kt = some K.d) {a : α} {es : Array MapEntry} {m : List (α × β)} (hm : Al K vf es.toList m) (w : World) :
    (mfind a m = none → (Instr.findKey kt (K.f a) es.toList).run P w = .ok none w) ∧
    (∀ b, mfind a m = some b → ∃ j x, (Instr.findKey kt (K.f a) es.toList).run P w = .ok (some (j, vf b)) w ∧ es.toList[j]? = some x ∧ x.key = K.f a) := by
  have h := now_m (K := K) (vf := vf) a es.toList m 0 hm
  constructor
  · intro hn; exact run_findKey hk (h.1 hn)
  · intro b hb
    obtain ⟨j, x, h1, h2, h3⟩ := h.2 b hb
    rw [Nat.zero_add] at h1
    exact ⟨j, x, run_findKey hk h1, h2, h3⟩
theorem check_m {kt : TypeId} (hk : P.underlying kt = some K.d) (a : α) (em : Bool) (w : World) : (Instr.checkKey em 10000 kt (K.f a)).run P w = .ok () w := run_checkKey hk (K.ok a) em 9999

/-- a map's block -/
def Mp (K : KeyF α) (vf : β → Value) (r : Nat) (m : List (α × β)) : HProp := fun h => ∃ arr ck, h r = some (.map arr ck) ∧ Stamped arr ck ∧ Al K vf arr.toList m
/-- a map and a range over it: the keys that have come -/
def MpI (K : KeyF α) (vf : β → Value) (r i : Nat) (m : List (α × β)) (dn : List α) : HProp := fun h => ∃ arr ck seen, h r = some (.map arr ck) ∧ h i = some (.mapIter (some r) ck seen ck) ∧ r ≠ i ∧ Stamped arr ck ∧ Al K vf arr.toList m ∧
  ∃ de : List MapEntry, (∀ x ∈ de, x ∈ arr.toList) ∧ seen.toList = de.map (·.born) ∧ de.map (·.key) = dn.map K.f
theorem Has.mp {r : Nat} {m : List (α × β)} {w : World} (hh : Has ctx (Mp K vf r m)) (hw : Sat e (sepL ctx) w) : ∃ arr ck, w.heap[r]? = some (.map arr ck) ∧ Stamped arr ck ∧ Al K vf arr.toList m := by
  obtain ⟨h, hl, arr, ck, h1, h2⟩ := hh.at_ hw
  exact ⟨arr, ck, hl _ _ h1, h2⟩
theorem Has.mpi {r i : Nat} {m : List (α × β)} {dn : List α} {w : World} (hh : Has ctx (MpI K vf r i m dn)) (hw : Sat e (sepL ctx) w) : ∃ arr ck seen, w.heap[r]? = some (.map arr ck) ∧ w.heap[i]? = some (.mapIter (some r) ck seen ck) ∧ r ≠ i ∧ Stamped arr ck ∧ Al K vf arr.toList m ∧
    ∃ de : List MapEntry, (∀ x ∈ de, x ∈ arr.toList) ∧ seen.toList = de.map (·.born) ∧ de.map (·.key) = dn.map K.f := by
  obtain ⟨h, hl, arr, ck, seen, h1, h2, h3⟩ := hh.at_ hw
  exact ⟨arr, ck, seen, hl _ _ h1, hl _ _ h2, h3⟩
/-- one block of a part turns -/
theorem Sat.turn2 {A B : HProp} {w w' : World} {b : Nat} {o' : Obj} (h : Sat e (sepL (A :: ctx)) w) (hA : ∀ g, A g → Hp.le g (hpOf w) → (∃ o, g b = some o) ∧ B (fun i => if i = b then some o' else g i))
    (h1 : w'.os = w.os) (h2 : w'.tape = w.tape) (h3 : w'.output = w.output) (hb : w'.heap[b]? = some o') (hr : ∀ i, i ≠ b → w'.heap[i]? = w.heap[i]?) : Sat e (sepL (B :: ctx)) w' := by
  obtain ⟨g1, g2, hd, l1, l2, a, r⟩ := h.heap
  obtain ⟨⟨o, hg⟩, hB⟩ := hA _ a l1
  have hg2 : g2 b = none := by
    rcases hd b with x | x
    · rw [hg] at x; cases x
    · exact x
  refine ⟨h1.trans h.os, h2.trans h.tape, h3.trans h.output, _, g2, fun i => ?_, fun i x hx => ?_, fun i x hx => ?_, hB, r⟩
  · by_cases hi : i = b
    · subst hi; exact .inr hg2
    · rcases hd i with y | y
      · exact .inl (by simp [hi, y])
      · exact .inr y
  · by_cases hi : i = b
    · subst hi; simp only [if_true] at hx; cases hx; exact hb
    · simp only [hi, if_false] at hx
      show w'.heap[i]? = some x
      rw [hr i hi]; exact l1 i x hx
  · have hi : i ≠ b := by intro e; subst e; rw [hg2] at hx; cases hx
    show w'.heap[i]? = some x
    rw [hr i hi]; exact l2 i x hx
theorem Ent.mmake {t : Nat} {c : Value → WP} (K : KeyF α) (vf : β → Value) (h : ∀ r, Ent e (Mp K vf r [] :: ctx) (c (.map (some r)))) : Ent e ctx (OpK P (.one .raw) (vS (Instr.makeMap t none)) c) := Ent.act fun w hw => by
  refine ⟨.map (some w.heap.size), w.alloc (.map #[] 0), .inl (run_vS ?_), _, rfl, h w.heap.size _ ?_⟩
  · rfl
  · exact (hw.alloc (.map #[] 0)).imp fun _ k => sepL_cons (fun g hg => ⟨#[], 0, hg, stamped_empty 0, rfl⟩) (fun _ x => x) k
/-- the value that a map has of no key -/
noncomputable def zv (t : TypeId) : Option Value := (P.info? t).bind (·.zero)
theorem zv_run {t : TypeId} {z : Value} (h : zv t = some z) (w : World) : (zeroValue t).run P w = .ok z w := by
  unfold zv at h
  cases hi : P.info? t with
  | none => simp [hi] at h
  | some i => rw [hi] at h; exact run_zero hi h w
theorem run_getT {t kt vt r : Nat} {m : List (α × β)} {a : α} {b : β} {w : World} {co : Bool} (ht : dd t = some (.mp kt vt)) (hk : P.underlying kt = some K.d) (hh : Has ctx (Mp K vf r m)) (hw : Sat e (sepL ctx) w) (hb : mfind a m = some b) :
    (Instr.lookup t (.map (some r)) (K.f a) co).run P w = .ok (if co then .tuple #[vf b, .bool true] else vf b) w := by
  obtain ⟨arr, ck, h1, h2, h3⟩ := hh.mp hw
  obtain ⟨j, x, g1, _⟩ := (find_m hk (a := a) h3 w).2 b hb
  simp only [Instr.lookup, Sem.run_bind, run_underlying (dd_mp ht), Result.andThen_ok, MapKept.run_getObj_map h1, Sem.run_pure, check_m hk, g1]
theorem run_getF {t kt vt r : Nat} {m : List (α × β)} {a : α} {z : Value} {w : World} {co : Bool} (ht : dd t = some (.mp kt vt)) (hk : P.underlying kt = some K.d) (hh : Has ctx (Mp K vf r m)) (hw : Sat e (sepL ctx) w) (hb : mfind a m = none) (hz : zv vt = some z) :
    (Instr.lookup t (.map (some r)) (K.f a) co).run P w = .ok (if co then .tuple #[z, .bool false] else z) w := by
  obtain ⟨arr, ck, h1, h2, h3⟩ := hh.mp hw
  have g1 := (find_m hk (a := a) h3 w).1 hb
  simp only [Instr.lookup, Sem.run_bind, run_underlying (dd_mp ht), Result.andThen_ok, MapKept.run_getObj_map h1, Sem.run_pure, check_m hk, g1, zv_run hz]
theorem st_mgetT {t kt vt r : Nat} {m : List (α × β)} {a : α} {b : β} (hh : Has ctx (Mp K vf r m)) (ht : dd t = some (.mp kt vt)) (hk : P.underlying kt = some K.d) (hb : mfind a m = some b) :
    Still e ctx (vS (Instr.lookup t (.map (some r)) (K.f a) false)) (vf b) := fun w hw => run_vS (by simpa using run_getT (co := false) ht hk hh hw hb)
theorem st_mgetF {t kt vt r : Nat} {m : List (α × β)} {a : α} {z : Value} (hh : Has ctx (Mp K vf r m)) (ht : dd t = some (.mp kt vt)) (hk : P.underlying kt = some K.d) (hb : mfind a m = none) (hz : zv vt = some z) :
    Still e ctx (vS (Instr.lookup t (.map (some r)) (K.f a) false)) z := fun w hw => run_vS (by simpa using run_getF (co := false) ht hk hh hw hb hz)
theorem Ent.mget2 {t kt vt r : Nat} {m : List (α × β)} {a : α} {z : Value} {c : Value → Bool → WP} (hh : Has ctx (Mp K vf r m)) (ht : dd t = some (.mp kt vt)) (hk : P.underlying kt = some K.d) (hz : zv vt = some z)
    (h1 : ∀ b, mfind a m = some b → Ent e ctx (c (vf b) true)) (h0 : mfind a m = none → Ent e ctx (c z false)) : Ent e ctx (OpK P (.tup [.raw, .bool]) (vS (Instr.lookup t (.map (some r)) (K.f a) true)) c) := fun w hw => by
  show NextK P _ _ w
  unfold NextK
  cases hb : mfind a m with
  | some b =>
    rw [run_vS (run_getT (co := true) ht hk hh hw hb)]
    exact ⟨_, true, rfl, h1 b hb w hw⟩
  | none =>
    rw [run_vS (run_getF (co := true) ht hk hh hw hb hz)]
    exact ⟨_, false, rfl, h0 hb w hw⟩
theorem al_set {a : α} {b : β} : ∀ (l : List MapEntry) (m : List (α × β)) (j : Nat) (x : MapEntry), (l.map (·.key)).Nodup → Al K vf l m → l[j]? = some x → x.key = K.f a → Al K vf (l.modify j fun x => { x with key := K.f a, val := vf b }) (mset a b m)
  | [], _, j, x, _, _, hx, _ => by simp at hx
  | _ :: _, [], _, _, _, h, _, _ => by simp [Al] at h
  | y :: l, p :: m, 0, x, hn, h, hx, hk => by
    simp only [List.getElem?_cons_zero, Option.some.injEq] at hx
    subst hx
    simp only [Al, List.map_cons, List.cons.injEq, Prod.mk.injEq] at h
    obtain ⟨⟨h1, h2⟩, h3⟩ := h
    have hp : p.1 = a := K.inj _ _ (h1.symm.trans hk)
    have e1 : mset a b (p :: m) = (p.1, b) :: m := by simp only [mset, if_pos hp]
    simp only [Al, e1, List.modify_zero_cons, List.map_cons, h3, hp]
  | y :: l, p :: m, j + 1, x, hn, h, hx, hk => by
    simp only [List.getElem?_cons_succ] at hx
    simp only [Al, List.map_cons, List.cons.injEq, Prod.mk.injEq] at h
    obtain ⟨⟨h1, h2⟩, h3⟩ := h
    simp only [List.map_cons, List.nodup_cons] at hn
    have hp : p.1 ≠ a := by
      intro hp
      refine hn.1 ?_
      rw [h1, hp, ← hk]
      exact List.mem_map.2 ⟨x, List.mem_of_getElem? hx, rfl⟩
    have ih := al_set (b := b) l m j x hn.2 h3 hx hk
    simp only [Al] at ih
    simp only [Al, mset, if_neg hp, List.modify_succ_cons, List.map_cons, h1, h2, ih]
theorem al_del {a : α} : ∀ (l : List MapEntry) (m : List (α × β)) (j : Nat) (x : MapEntry), (l.map (·.key)).Nodup → Al K vf l m → l[j]? = some x → x.key = K.f a → Al K vf (l.eraseIdx j) (mdel a m)
  | [], _, j, x, _, _, hx, _ => by simp at hx
  | _ :: _, [], _, _, _, h, _, _ => by simp [Al] at h
  | y :: l, p :: m, 0, x, hn, h, hx, hk => by
    simp only [List.getElem?_cons_zero, Option.some.injEq] at hx
    subst hx
    simp only [Al, List.map_cons, List.cons.injEq, Prod.mk.injEq] at h
    obtain ⟨⟨h1, h2⟩, h3⟩ := h
    have hp : p.1 = a := K.inj _ _ (h1.symm.trans hk)
    simp only [Al, mdel, if_pos hp, List.eraseIdx_cons_zero]
    exact h3
  | y :: l, p :: m, j + 1, x, hn, h, hx, hk => by
    simp only [List.getElem?_cons_succ] at hx
    simp only [Al, List.map_cons, List.cons.injEq, Prod.mk.injEq] at h
    obtain ⟨⟨h1, h2⟩, h3⟩ := h
    simp only [List.map_cons, List.nodup_cons] at hn
    have hp : p.1 ≠ a := by
      intro hp
      refine hn.1 ?_
      rw [h1, hp, ← hk]
      exact List.mem_map.2 ⟨x, List.mem_of_getElem? hx, rfl⟩
    have ih := al_del l m j x hn.2 h3 hx hk
    simp only [Al] at ih
    simp only [Al, mdel, if_neg hp, List.eraseIdx_cons_succ, List.map_cons, h1, h2, ih]
theorem mdel_none {a : α} : ∀ {m : List (α × β)}, mfind a m = none → mdel a m = m
  | [], _ => rfl
  | q :: m, h => by
    simp only [mfind] at h
    split at h
    · cases h
    · rename_i hq; simp only [mdel, if_neg hq, mdel_none h]
theorem same_refl (K : KeyF α) (a : α) : Instr.sameBits 10000 (K.f a) (K.f a) = true := by
  have := K.ok a
  cases hd : K.d <;> cases hv : K.f a <;> rw [hd, hv] at this <;> simp_all [IsKey, Instr.sameBits]
  exact (bytes_beq _ _).2 rfl
theorem run_setM {t kt vt r : Nat} {m : List (α × β)} {a : α} {b : β} {w : World} {arr : Array MapEntry} {ck : Nat} (ht : dd t = some (.mp kt vt)) (hk : P.underlying kt = some K.d) (h1 : w.heap[r]? = some (.map arr ck)) (h2 : Stamped arr ck) (h3 : Al K vf arr.toList m) :
    ∃ arr' ck', (Instr.mapUpdate t (.map (some r)) (K.f a) (vf b)).run P w = .ok () { w with heap := w.heap.setIfInBounds r (.map arr' ck') } ∧ Stamped arr' ck' ∧ Al K vf arr'.toList (mset a b m) ∧
      ((∃ b', mfind a m = some b') → ck' = ck ∧ ∃ j x, arr.toList[j]? = some x ∧ x.key = K.f a ∧ arr' = arr.modify j fun x => { x with key := K.f a, val := vf b }) := by
  cases hb : mfind a m with
  | none =>
    have g1 := (find_m hk (a := a) h3 w).1 hb
    refine ⟨arr.push ⟨K.f a, vf b, ck⟩, ck + 1, ?_, stamped_push h2 ?_, ?_, fun ⟨_, h⟩ => by cases h⟩
    · simp only [Instr.mapUpdate, Sem.run_bind, run_underlying (dd_mp ht), Result.andThen_ok, MapKept.run_getObj_map h1, check_m hk, g1, MapKept.run_setObj_map _ h1]
    · intro x hx
      have hne := mfind_none hb
      have hm : (x.key, x.val) ∈ arr.toList.map (fun x => (x.key, x.val)) := List.mem_map.2 ⟨x, hx, rfl⟩
      rw [h3] at hm
      obtain ⟨p, hp, hpe⟩ := List.mem_map.1 hm
      simp only [Prod.mk.injEq] at hpe
      rw [← hpe.1]
      exact fun he => hne p hp (K.inj _ _ he)
    · rw [mset_new hb]
      simp only [Al, Array.toList_push, List.map_append, List.map_cons, List.map_nil]
      rw [h3]
  | some b' =>
    obtain ⟨j, x, g1, g2, g3⟩ := (find_m hk (a := a) h3 w).2 b' hb
    refine ⟨arr.modify j fun x => { x with key := K.f a, val := vf b }, ck, ?_, stamped_modify h2 j _ (fun _ _ => rfl) (fun y hy hj => ?_), ?_, fun _ => ⟨rfl, j, x, g2, g3, rfl⟩⟩
    · have hx : ((arr[j]?).map (·.key)).getD (K.f a) = K.f a := by
        rw [← Array.getElem?_toList, g2]; exact g3
      simp only [Instr.mapUpdate, Sem.run_bind, run_underlying (dd_mp ht), Result.andThen_ok, MapKept.run_getObj_map h1, check_m hk, g1, hx, Instr.keyThatStays, same_refl, if_true, Sem.run_pure, MapKept.run_setObj_map _ h1]
    · rw [← Array.getElem?_toList] at hj
      rw [g2] at hj
      cases hj
      exact g3.symm
    · rw [Array.toList_modify]
      exact al_set _ _ j x h2.2.2 h3 g2 g3
theorem Ent.mset {t kt vt r : Nat} {m : List (α × β)} {a : α} {b : β} {c : Value → WP} (hu : Upd ctx (Mp K vf r m) (Mp K vf r (Sl.mset a b m)) ctx') (ht : dd t = some (.mp kt vt)) (hk : P.underlying kt = some K.d) (h : Ent e ctx' (c undef)) :
    Ent e ctx (OpK P (.one .raw) (uS (Instr.mapUpdate t (.map (some r)) (K.f a) (vf b))) c) := Ent.act fun w hw => by
  obtain ⟨s, hp, hq⟩ := hu.pick
  have hw2 := hw.imp (sepL_perm hp.perm)
  obtain ⟨arr, ck, h1, h2, h3⟩ := Has.mp .hd hw2
  obtain ⟨arr', ck', g1, g2, g3, _⟩ := run_setM (a := a) (b := b) ht hk h1 h2 h3
  refine ⟨undef, _, .inr ⟨run_uS g1, rfl⟩, _, rfl, h _ ?_⟩
  have hs := heap_set (o' := .map arr' ck') h1
  have := Sat.turn2 (B := Mp K vf r (Sl.mset a b m)) (w' := { w with heap := w.heap.setIfInBounds r (.map arr' ck') }) (b := r) (o' := .map arr' ck') hw2
    (fun g ⟨x, y, hg, _⟩ _ => ⟨⟨_, hg⟩, arr', ck', by simp, g2, g3⟩) rfl rfl rfl hs.1 hs.2
  exact this.imp (sepL_perm hq.symm)
theorem Ent.mdel {t kt vt r y : Nat} {ts : Nat} {m : List (α × β)} {a : α} {c : Value → WP} (hu : Upd ctx (Mp K vf r m) (Mp K vf r (Sl.mdel a m)) ctx') (ht : dd t = some (.mp kt vt)) (hk : P.underlying kt = some K.d) (h : Ent e ctx' (c (.tuple #[]))) :
    Ent e ctx (OpK P (.one .raw) (vS (Builtin.delete_ #[t, ts] y #[.map (some r), K.f a])) c) := Ent.act fun w hw => by
  obtain ⟨s, hp, hq⟩ := hu.pick
  have hw2 := hw.imp (sepL_perm hp.perm)
  obtain ⟨arr, ck, h1, h2, h3⟩ := Has.mp .hd hw2
  cases hb : mfind a m with
  | none =>
    have g1 := (find_m hk (a := a) h3 w).1 hb
    refine ⟨.tuple #[], { w with heap := w.heap.setIfInBounds r (.map arr ck) }, .inl (run_vS ?_), _, rfl, h _ ?_⟩
    · simp only [Builtin.delete_, List.getElem?_toArray, List.getElem?_cons_zero, List.getElem?_cons_succ, Sem.run_bind, run_underlying (dd_mp ht), Result.andThen_ok, MapKept.run_getObj_map h1, check_m hk, g1, MapKept.run_setObj_map _ h1, Sem.run_pure]
    · have hs := heap_set (o' := .map arr ck) h1
      have := Sat.turn2 (B := Mp K vf r (Sl.mdel a m)) (w' := { w with heap := w.heap.setIfInBounds r (.map arr ck) }) (b := r) (o' := .map arr ck) hw2
        (fun g ⟨x, y, hg, _⟩ _ => ⟨⟨_, hg⟩, arr, ck, by simp, h2, by rw [mdel_none hb]; exact h3⟩) rfl rfl rfl hs.1 hs.2
      exact this.imp (sepL_perm hq.symm)
  | some b' =>
    obtain ⟨j, x, g1, g2, g3⟩ := (find_m hk (a := a) h3 w).2 b' hb
    refine ⟨.tuple #[], { w with heap := w.heap.setIfInBounds r (.map (arr.eraseIdxIfInBounds j) ck) }, .inl (run_vS ?_), _, rfl, h _ ?_⟩
    · simp only [Builtin.delete_, List.getElem?_toArray, List.getElem?_cons_zero, List.getElem?_cons_succ, Sem.run_bind, run_underlying (dd_mp ht), Result.andThen_ok, MapKept.run_getObj_map h1, check_m hk, g1, MapKept.run_setObj_map _ h1, Sem.run_pure]
    · have hs := heap_set (o' := .map (arr.eraseIdxIfInBounds j) ck) h1
      have hj : j < arr.size := by simpa using (List.getElem?_eq_some_iff.1 g2).1
      have e1 : (arr.eraseIdxIfInBounds j).toList = arr.toList.eraseIdx j := by
        unfold Array.eraseIdxIfInBounds
        rw [dif_pos hj, Array.toList_eraseIdx]
      have := Sat.turn2 (B := Mp K vf r (Sl.mdel a m)) (w' := { w with heap := w.heap.setIfInBounds r (.map (arr.eraseIdxIfInBounds j) ck) }) (b := r) (o' := .map (arr.eraseIdxIfInBounds j) ck) hw2
        (fun g ⟨x, y, hg, _⟩ _ => ⟨⟨_, hg⟩, arr.eraseIdxIfInBounds j, ck, by simp, stamped_erase h2 j, by rw [e1]; exact al_del _ _ j _ h2.2.2 h3 g2 g3⟩) rfl rfl rfl hs.1 hs.2
      exact this.imp (sepL_perm hq.symm)
theorem Ent.mrange {t kt vt r : Nat} {m : List (α × β)} {c : Value → WP} (hp : Pick ctx (Mp K vf r m) ctx') (ht : dd t = some (.mp kt vt)) (h : ∀ i, Ent e (MpI K vf r i m [] :: ctx') (c (.pointer (some ⟨i, 0, none⟩)))) :
    Ent e ctx (OpK P (.one .raw) (vS (Instr.range t (.map (some r)))) c) := Ent.act fun w hw => by
  have hw2 := hw.imp (sepL_perm hp.perm)
  obtain ⟨arr, ck, h1, h2, h3⟩ := Has.mp .hd hw2
  refine ⟨.pointer (some ⟨w.heap.size, 0, none⟩), w.alloc (.mapIter (some r) ck #[] ck), .inl (run_vS ?_), _, rfl, h w.heap.size _ ?_⟩
  · simp only [Instr.range, Sem.run_bind, run_underlying (dd_mp ht), Result.andThen_ok, MapKept.run_getObj_map h1, Sem.run_pure]
    rfl
  · obtain ⟨q1, q2, hd, l1, l2, ⟨arr2, ck2, p1, p2, p3⟩, hr⟩ := hw2.heap
    have hlt : ∀ j o, w.heap[j]? = some o → (w.alloc (.mapIter (some r) ck #[] ck)).heap[j]? = some o := fun j o ho => by
      have := (heap_alloc w (.mapIter (some r) ck #[] ck)).2 j (Array.getElem?_eq_some_iff.1 ho).1
      rw [this]; exact ho
    have he : w.heap[r]? = some (.map arr2 ck2) := l1 _ _ p1
    rw [h1] at he
    cases he
    have hne : r ≠ w.heap.size := Nat.ne_of_lt (Array.getElem?_eq_some_iff.1 h1).1
    refine ⟨hw2.os, hw2.tape, hw2.output, fun j => if j = w.heap.size then some (.mapIter (some r) ck #[] ck) else q1 j, q2, fun j => ?_, fun j o ho => ?_, fun j o ho => hlt _ _ (l2 _ _ ho), ?_, hr⟩
    · by_cases hj : j = w.heap.size
      · refine .inr ?_
        cases hq : q2 j with
        | none => rfl
        | some o => have := (Array.getElem?_eq_some_iff.1 (l2 _ _ hq)).1; omega
      · rcases hd j with x | x
        · exact .inl (by simp [hj, x])
        · exact .inr x
    · by_cases hj : j = w.heap.size
      · subst hj; simp only [if_true] at ho; cases ho; exact (heap_alloc w _).1
      · simp only [hj, if_false] at ho; exact hlt _ _ (l1 _ _ ho)
    · exact ⟨arr, ck, #[], by simp [hne, p1], by simp, hne, h2, h3, [], by simp, by simp, by simp⟩
theorem MpI.imp {r i : Nat} {m : List (α × β)} {dn : List α} : Imp (MpI K vf r i m dn :: ctx) (Mp K vf r m :: ctx) := fun _ k =>
  sepL_cons (fun h ⟨arr, ck, _, h1, _, _, h2, h3, _⟩ => ⟨arr, ck, h1, h2, h3⟩) (fun _ z => z) k
theorem al_mem {l : List MapEntry} {m : List (α × β)} (h : Al K vf l m) {x : MapEntry} (hx : x ∈ l) : ∃ a b, (a, b) ∈ m ∧ x.key = K.f a ∧ x.val = vf b := by
  have hm : (x.key, x.val) ∈ l.map (fun x => (x.key, x.val)) := List.mem_map.2 ⟨x, hx, rfl⟩
  rw [h] at hm
  obtain ⟨p, hp, hpe⟩ := List.mem_map.1 hm
  simp only [Prod.mk.injEq] at hpe
  exact ⟨p.1, p.2, hp, hpe.1.symm, hpe.2.symm⟩
theorem al_mem' {l : List MapEntry} {m : List (α × β)} (h : Al K vf l m) {a : α} {b : β} (hx : (a, b) ∈ m) : ∃ x ∈ l, x.key = K.f a ∧ x.val = vf b := by
  have hm : (K.f a, vf b) ∈ m.map (fun p => (K.f p.1, vf p.2)) := List.mem_map.2 ⟨_, hx, rfl⟩
  rw [← h] at hm
  obtain ⟨p, hp, hpe⟩ := List.mem_map.1 hm
  simp only [Prod.mk.injEq] at hpe
  exact ⟨p, hp, hpe.1, hpe.2⟩
theorem key_uniq {l : List MapEntry} (hn : (l.map (·.key)).Nodup) {x y : MapEntry} (hx : x ∈ l) (hy : y ∈ l) (h : x.key = y.key) : x = y := by
  induction l with
  | nil => cases hx
  | cons z l ih =>
    simp only [List.map_cons, List.nodup_cons] at hn
    rcases List.mem_cons.1 hx with rfl | hx <;> rcases List.mem_cons.1 hy with rfl | hy
    · rfl
    · exact absurd (List.mem_map.2 ⟨y, hy, h.symm⟩) hn.1
    · exact absurd (List.mem_map.2 ⟨x, (by assumption : x ∈ l), h⟩) hn.1
    · exact ih hn.2 hx hy
theorem born_uniq {l : List MapEntry} (hn : (l.map (·.born)).Nodup) {x y : MapEntry} (hx : x ∈ l) (hy : y ∈ l) (h : x.born = y.born) : x = y := by
  induction l with
  | nil => cases hx
  | cons z l ih =>
    simp only [List.map_cons, List.nodup_cons] at hn
    rcases List.mem_cons.1 hx with rfl | hx <;> rcases List.mem_cons.1 hy with rfl | hy
    · rfl
    · exact absurd (List.mem_map.2 ⟨y, hy, h.symm⟩) hn.1
    · exact absurd (List.mem_map.2 ⟨x, (by assumption : x ∈ l), h⟩) hn.1
    · exact ih hn.2 hx hy
theorem Ent.mnext {r i ty : Nat} {m : List (α × β)} {dn : List α} {c0 : WP} {c1 : Value → Value → WP} (hp : Pick ctx (MpI K vf r i m dn) ctx')
    (h0 : (∀ a b, (a, b) ∈ m → a ∈ dn) → Ent e (MpI K vf r i m dn :: ctx') c0)
    (h1 : ∀ a b, (a, b) ∈ m → a ∉ dn → Ent e (MpI K vf r i m (dn ++ [a]) :: ctx') (c1 (K.f a) (vf b))) :
    Ent e ctx (NxK P (vS (Instr.next (.pointer (some ⟨i, 0, none⟩)) false ty)) .raw .raw c0 c1) := fun w hw => by
  have hw2 := hw.imp (sepL_perm hp.perm)
  obtain ⟨arr, ck, seen, g1, g2, hne, g3, g4, de, g5, g6, g7⟩ := Has.mpi .hd hw2
  unfold NxK NextK
  have hmem : ∀ b, seen.contains b = true ↔ b ∈ de.map (·.born) := fun b => by rw [Array.contains_iff_mem, ← Array.mem_toList_iff, g6]
  rcases run_next_at (P := P) w ty i r ck ck seen arr ck g2 g1 g3.1 (Nat.le_refl _) with ⟨hz, hrun⟩ | ⟨x, hx, w1, hw1, hrun⟩
  · rw [run_vS hrun]
    refine .inl ⟨rfl, h0 (fun a b hab => ?_) w hw2⟩
    obtain ⟨x, hx, hk, _⟩ := al_mem' g4 hab
    have hc : seen.contains x.born = true := by
      cases hc : seen.contains x.born with
      | true => rfl
      | false =>
        exfalso
        have : x ∈ leftOf arr seen := by
          unfold leftOf
          rw [Array.mem_filter]
          exact ⟨Array.mem_toList_iff.1 hx, by rw [hc]; rfl⟩
        rw [Array.eq_empty_of_size_eq_zero hz] at this
        simp at this
    obtain ⟨y, hy, hyb⟩ := List.mem_map.1 ((hmem _).1 hc)
    have := born_uniq g3.2.1 (g5 y hy) hx hyb
    subst this
    have hky : y.key ∈ de.map (·.key) := List.mem_map.2 ⟨y, hy, rfl⟩
    rw [g7] at hky
    obtain ⟨a', ha', hke⟩ := List.mem_map.1 hky
    have := K.inj _ _ (hke.trans hk)
    subst this
    exact ha'
  · rw [run_vS hrun]
    have hx2 : x ∈ arr.toList ∧ seen.contains x.born = false := by
      rw [Array.mem_toList_iff] at hx
      unfold leftOf at hx
      rw [Array.mem_filter] at hx
      exact ⟨Array.mem_toList_iff.2 hx.1, by simpa using hx.2⟩
    obtain ⟨a, b, hab, hk, hv⟩ := al_mem g4 hx2.1
    refine .inr ⟨x.key, x.val, rfl, ?_⟩
    rw [hk, hv]
    have hnd : a ∉ dn := by
      intro hd
      have hm : K.f a ∈ dn.map K.f := List.mem_map.2 ⟨a, hd, rfl⟩
      rw [← g7] at hm
      obtain ⟨y, hy, hyk⟩ := List.mem_map.1 hm
      have := key_uniq g3.2.2 (g5 y hy) hx2.1 (hyk.trans hk.symm)
      subst this
      have := (hmem y.born).2 (List.mem_map.2 ⟨y, hy, rfl⟩)
      rw [hx2.2] at this; cases this
    refine h1 a b hab hnd _ ?_
    have hw3 : Sat e (sepL (MpI K vf r i m dn :: ctx')) w1 := by rcases hw1 with rfl | rfl; exact hw2; exact hw2.drawn _
    have g2' : w1.heap[i]? = some (.mapIter (some r) ck seen ck) := by rcases hw1 with rfl | rfl <;> exact g2
    have g1' : w1.heap[r]? = some (.map arr ck) := by rcases hw1 with rfl | rfl <;> exact g1
    have hs := heap_set (o' := .mapIter (some r) ck (seen.push x.born) ck) g2'
    refine Sat.turn2 (b := i) (o' := .mapIter (some r) ck (seen.push x.born) ck) hw3 (fun g hA hl => ?_) rfl rfl rfl hs.1 hs.2
    obtain ⟨arr', ck', seen', p1, p2, _⟩ := hA
    have q1 := hl _ _ p1
    have q1' : w1.heap[r]? = some (.map arr' ck') := q1
    rw [g1'] at q1'
    cases q1'
    exact ⟨⟨_, p2⟩, arr, ck, seen.push x.born, by simp [hne, p1], by simp, hne, g3, g4, de ++ [x], fun y hy => by
      rcases List.mem_append.1 hy with hy | hy
      · exact g5 y hy
      · rw [List.mem_singleton.1 hy]; exact hx2.1, by simp [g6], by simp [g7, hk]⟩
theorem Ent.mentry {r i : Nat} {m : List (α × β)} {dn : List α} {a : α} {b : β} {k1 k2 : Kd} {x : k1.T} {y : k2.T} {c : k1.T → k2.T → WP} (hh : Has ctx (MpI K vf r i m (dn ++ [a]))) (hm : (a, b) ∈ m) (hx : K.f a = k1.mk x) (hy : vf b = k2.mk y) (h : Ent e ctx (c x y)) :
    Ent e ctx (EnK P (vS (Instr.entry (.pointer (some ⟨i, 0, none⟩)))) k1 k2 c) := fun w hw => by
  obtain ⟨arr, ck, seen, g1, g2, hne, g3, g4, de, g5, g6, g7⟩ := Has.mpi hh hw
  rw [List.map_append, List.map_cons, List.map_nil] at g7
  obtain ⟨de', ds, rfl, e1, e2⟩ := List.map_eq_append_iff.1 g7
  obtain ⟨z, zs, rfl, e3, e4⟩ := List.map_eq_cons_iff.1 e2
  have hzs : zs = [] := by simpa using e4
  subst hzs
  obtain ⟨x0, hx0, k0, v0⟩ := al_mem' g4 hm
  have hz : z ∈ arr.toList := g5 z (by simp)
  have := key_uniq g3.2.2 hz hx0 (e3.trans k0.symm)
  subst this
  have hseen : seen = (de'.map (·.born)).toArray.push z.born := by
    apply Array.toList_inj.1
    rw [g6]; simp
  rw [hseen] at g2
  have hrun := run_entry_at (P := P) w i r ck _ arr ck z g2 g1 hz g3.2.1
  unfold EnK NextK
  rw [run_vS hrun]
  exact ⟨x, y, by rw [k0, v0, hx, hy], h w hw⟩
theorem Ent.mclone {f t r : Nat} {m : List (α × β)} {c : Value → WP} (hx : ∀ args w, (callFunc f args).run P w = (vS (Extern.MapsClone.clone args)).run P w) (hh : Has ctx (Mp K vf r m)) (h : ∀ r', Ent e (Mp K vf r' m :: ctx) (c (.iface t (.map (some r'))))) :
    Ent e ctx (OpK P (.one .raw) (callFunc f #[.iface t (.map (some r))]) c) := Ent.act fun w hw => by
  obtain ⟨arr, ck, h1, h2, h3⟩ := hh.mp hw
  refine ⟨.iface t (.map (some w.heap.size)), w.alloc (.map arr ck), .inl ?_, _, rfl, h w.heap.size _ ?_⟩
  · rw [hx]
    refine run_vS ?_
    have e1 : Extern.MapsClone.clone #[.iface t (.map (some r))] = (getObj r >>= fun o => match o with
      | .map entries clock => do pure (.iface t (.map (some (← newObj (.map entries clock)))))
      | _ => stuck "maps.clone: a map expected") := rfl
    rw [e1]
    simp only [Sem.run_bind, MapKept.run_getObj_map h1, Result.andThen_ok]
    rfl
  · exact (hw.alloc (.map arr ck)).imp fun _ k => sepL_cons (fun g hg => ⟨arr, ck, hg, h2, h3⟩) (fun _ x => x) k
theorem st_iface {t k x : TypeId} {v : Value} (ht : dd t = some (.mp k x)) : Pu (vS (Instr.makeInterface t v)) (.iface t v) := Still.of_run fun w => by
  simp only [Instr.makeInterface, Sem.run_bind, run_underlying (dd_mp ht), Result.andThen_ok]
  rfl
theorem st_assertM {t k x y : TypeId} {v : Value} (ht : dd t = some (.mp k x)) : Pu (vS (Instr.typeAssert (.iface t v) y t false)) v := Still.of_run fun w => by
  simp only [Instr.typeAssert, Sem.run_bind, run_underlying (dd_mp ht), Result.andThen_ok, if_true]
  rfl
theorem Ent.mlen {t kt vt r y : Nat} {m : List (α × β)} {c : Int → WP} (hh : Has ctx (Mp K vf r m)) (ht : dd t = some (.mp kt vt)) (h : Ent e ctx (c m.length)) : Ent e ctx (len t y (.map (some r)) c) := by
  refine Ent.opI (n := (m.length : Int)) (fun w hw => ?_) h
  obtain ⟨arr, ck, h1, h2, h3⟩ := hh.mp hw
  have hl : arr.size = m.length := by
    have := congrArg List.length h3
    simpa using this
  refine run_vS ?_
  simp [Builtin.len_, run_underlying (dd_mp ht), MapKept.run_getObj_map h1, goInt, hl]
end
end Go.Proofs.YtfofnagocedlgaaDoor.Sl
end
section
/-
  MORE RULES: elements read out of what may be read; elements of one's own slice written.
-/
set_option maxRecDepth 100000
set_option linter.unusedVariables false
set_option linter.unusedSectionVars false
set_option linter.unusedSimpArgs false
namespace Go.Proofs.YtfofnagocedlgaaDoor.Sl
open Go Sh
section
variable {e : Env} {ctx ctx' R : List HProp}
theorem Ent.wiAh {t x n cp u by_ sz : Nat} {a : Option Addr} {j : IntKind} {i : Int} {X : Type} {f : X → List Value} {xs : List X} {y : X} {c : Value → WP} (h : Ent e ctx (c (.agg (f y).toArray))) (hr : Rd R a ((xs.map f).flatten) := by assumption) (hR : Imp ctx R := by (focus (repeat (first | exact Imp.refl _ | exact Imp.nil _ | apply Imp.drop)))) (hx : xs[i.toNat]? = some y := by assumption)
    (ht : dd t = some (.sl x) := by exact rfl) (hs : szof x = some (sz, by_) := by exact rfl) (hu : ag u = some sz := by exact rfl) (h0 : 0 ≤ i := by omega) (h1 : i < n := by omega) (hf : ∀ y, (f y).length = sz := by intro y; exact rfl) (hz : 0 < sz := by decide) : Ent e ctx (iR t (.slice a n cp) j i u c) :=
  Ent.wiAr (hr.mono hR) h ht hs hu h0 h1 hf hz hx
theorem Ent.rR {s : Sem Next} {v : Value} {c : Value → WP} (hs : Still e ctx s v) (h : Ent e ctx (c v)) : Ent e ctx (RdK P (.one .raw) s c) := fun w hw => ⟨v, hs w hw, v, rfl, h w hw⟩
theorem Ent.rI {s : Sem Next} {k : IntKind} {v : Int} {c : Int → WP} (hs : Still e ctx s (.int k v)) (h : Ent e ctx (c v)) : Ent e ctx (RdK P (.one (.int k)) s c) := fun w hw => ⟨_, hs w hw, v, rfl, h w hw⟩
theorem Ent.rB {s : Sem Next} {v : Bool} {c : Bool → WP} (hs : Still e ctx s (.bool v)) (h : Ent e ctx (c v)) : Ent e ctx (RdK P (.one .bool) s c) := fun w hw => ⟨_, hs w hw, v, rfl, h w hw⟩
theorem Ent.rS {s : Sem Next} {v : ByteArray} {c : ByteArray → WP} (hs : Still e ctx s (.string v)) (h : Ent e ctx (c v)) : Ent e ctx (RdK P (.one .str) s c) := fun w hw => ⟨_, hs w hw, v, rfl, h w hw⟩
theorem st_ixAg {t x m by_ : Nat} {k : IntKind} {i : Int} {l : List Value} {v : Value} (ht : dd t = some (.arr m x)) (hs : szof x = some (1, by_)) (hx : sc x = true) (h0 : 0 ≤ i) (h1 : i < m) (hv : l[i.toNat]? = some v) : Pu (vS (Instr.index t (.agg l.toArray) (.int k i))) v := Still.of_run fun w => by
  obtain ⟨i', h2, h3, _⟩ := szof_spec hs
  obtain ⟨_, _, _, _, _, h4⟩ := sc_spec hx
  have h1' : i < (m : Int) := h1
  simp only [Instr.index, asIntOf, Sem.run_bind, Sem.run_pure, Result.andThen_ok, run_underlying (dd_arr ht), h0, h1', and_self, if_true, run_sizeOf' h2, h3, part, h4, Bool.false_eq_true, if_false, Nat.mul_one, List.getElem?_toArray, hv]
theorem SlO.open2 {a : Option Addr} {n c sz : Nat} {l : List Value} {k : WP} (h : ∀ b r, n ≤ c → c * sz ≤ (l ++ r).length → a = some ⟨b, 0, none⟩ → Ent e (pt b (l ++ r) :: ctx) k) (h0 : a = none → n = 0 → l = [] → Ent e ctx k) : Ent e (SlO a n c sz l :: ctx) k := fun w hw => by
  obtain ⟨g1, g2, hd, l1, l2, ⟨hl, hA⟩, hr⟩ := hw.heap
  rcases hA with ⟨ha, hn0, _⟩ | ⟨b, r, ha, hc, hcr, hp⟩
  · exact h0 ha hn0 (List.eq_nil_of_length_eq_zero (by rw [hl, hn0, Nat.zero_mul])) w ⟨hw.os, hw.tape, hw.output, sepL_mono l2 hr⟩
  · exact h b r hc hcr ha w ⟨hw.os, hw.tape, hw.output, g1, g2, hd, l1, l2, hp, hr⟩
theorem Ent.wiWo {t y n cp u by_ : Nat} {a : Option Addr} {j : IntKind} {i : Int} {l : List Value} {x : Value} {c : WP} (h : Ent e (SlO a n cp 1 (l.set i.toNat x) :: ctx') c) (hp : Pick ctx (SlO a n cp 1 l) ctx' := by (repeat (first | exact Pick.hd | apply Pick.tl))) (ht : dd t = some (.sl y) := by exact rfl) (hs : szof y = some (1, by_) := by exact rfl)
    (hu : sc u = true := by exact rfl) (hv : one x = true := by exact rfl) (h0 : 0 ≤ i := by omega) (h1 : i < n := by omega) : Ent e ctx (iW t (.slice a n cp) j i u x c) := Ent.pick hp <| Ent.slO fun k1 k2 k3 k4 => SlO.open2 (fun b r hc hcr ha => by
    subst ha
    refine Ent.opR (st_ix ht hs h0 h1).still ?_
    have hlt : i.toNat < l.length := by omega
    refine Ent.store (l := l ++ r) Upd.hd hu hv (by simp; omega) ?_
    refine h.imp fun y hy => sepL_cons (fun g hg => ?_) (fun _ z => z) hy
    have e1 : (l ++ r).set (0 + i.toNat * 1) x = l.set i.toNat x ++ r := by
      rw [Nat.zero_add, Nat.mul_one, List.set_append_left _ _ hlt]
    rw [e1] at hg
    refine ⟨by simpa using k1, .inr ⟨b, r, rfl, hc, by simpa using hcr, hg⟩⟩) (fun ha hn hl => by omega)
end
end Go.Proofs.YtfofnagocedlgaaDoor.Sl
end
section
/-
  MAPS OF OWNED THINGS; ranges over maps as folds; a present key set while a range goes on; clear.
-/
set_option maxRecDepth 100000
set_option linter.unusedVariables false
set_option linter.unusedSectionVars false
set_option linter.unusedSimpArgs false
namespace Go.Proofs.YtfofnagocedlgaaDoor.Sl
open Go Sh MapKept
section plain
variable {α β : Type} [DecidableEq α]
theorem mdel_perm {a : α} {b : β} : ∀ {m : List (α × β)}, mfind a m = some b → m.Perm ((a, b) :: mdel a m)
  | [], h => by cases h
  | q :: m, h => by
    simp only [mfind] at h
    by_cases hq : q.1 = a
    · rw [if_pos hq] at h; cases h; subst hq
      simp only [mdel, if_true]; exact .refl _
    · rw [if_neg hq] at h
      simp only [mdel, if_neg hq]
      exact ((mdel_perm h).cons q).trans (.swap _ _ _)
theorem mset_perm {a : α} {b : β} : ∀ {m : List (α × β)}, (mset a b m).Perm ((a, b) :: mdel a m)
  | [] => .refl _
  | q :: m => by
    by_cases hq : q.1 = a
    · subst hq; simp only [mset, mdel, if_true]; exact .refl _
    · simp only [mset, mdel, if_neg hq]
      exact ((mset_perm (m := m)).cons q).trans (.swap _ _ _)
theorem mfind_of_mem {a : α} {b : β} : ∀ {m : List (α × β)}, (m.map (·.1)).Nodup → (a, b) ∈ m → mfind a m = some b
  | [], _, h => by cases h
  | q :: m, hn, h => by
    simp only [List.map_cons, List.nodup_cons] at hn
    rcases List.mem_cons.1 h with h | h
    · subst h; simp [mfind]
    · have : q.1 ≠ a := fun e => hn.1 (List.mem_map.2 ⟨_, h, e.symm⟩)
      simp only [mfind, if_neg this]; exact mfind_of_mem hn.2 h
theorem mfind_set {a c : α} {b : β} : ∀ {m : List (α × β)}, mfind c (mset a b m) = if c = a then some b else mfind c m
  | [] => by
    by_cases h : c = a
    · simp [mset, mfind, h]
    · simp [mset, mfind, h, Ne.symm h]
  | q :: m => by
    by_cases hq : q.1 = a
    · subst hq
      by_cases h : c = q.1
      · subst h; simp [mset, mfind]
      · simp [mset, mfind, h, Ne.symm h]
    · simp only [mset, if_neg hq, mfind]
      by_cases hc : q.1 = c
      · subst hc; simp [hq]
      · simp only [if_neg hc]; exact mfind_set
theorem mfind_iff {a : α} {m : List (α × β)} : mfind a m = none ↔ a ∉ m.map (·.1) := by
  induction m with
  | nil => simp [mfind]
  | cons q m ih =>
    simp only [mfind, List.map_cons, List.mem_cons]
    by_cases hq : q.1 = a
    · simp [hq]
    · simp [hq, Ne.symm hq, ih]
theorem mfind_del {a c : α} : ∀ {m : List (α × β)}, (m.map (·.1)).Nodup → mfind c (mdel a m) = if c = a then none else mfind c m
  | [], _ => by by_cases h : c = a <;> simp [mdel, mfind, h]
  | q :: m, hn => by
    simp only [List.map_cons, List.nodup_cons] at hn
    by_cases hq : q.1 = a
    · subst hq
      simp only [mdel, if_true, mfind]
      by_cases h : c = q.1
      · subst h; simp; exact mfind_iff.2 hn.1
      · simp [h, Ne.symm h]
    · simp only [mdel, if_neg hq, mfind]
      by_cases hc : q.1 = c
      · subst hc; simp [hq]
      · simp only [if_neg hc]; exact mfind_del hn.2
theorem mset_nodup {a : α} {b : β} {m : List (α × β)} (h : (m.map (·.1)).Nodup) : ((mset a b m).map (·.1)).Nodup := by
  cases hf : mfind a m with
  | none =>
    rw [mset_new hf, List.map_append]
    refine List.nodup_append.2 ⟨h, by simp, fun x hx y hy => ?_⟩
    simp only [List.map_cons, List.map_nil, List.mem_singleton] at hy
    subst hy
    exact fun e => mfind_iff.1 hf (e ▸ hx)
  | some b' =>
    have e1 : ((mset a b m).map (·.1)).Perm (m.map (·.1)) := ((mset_perm (a := a) (b := b) (m := m)).map (·.1)).trans (((mdel_perm hf).map (·.1)).symm)
    exact e1.symm.nodup h
theorem mdel_sub {a : α} : ∀ {m : List (α × β)}, (mdel a m).Sublist m
  | [] => .slnil
  | q :: m => by
    by_cases hq : q.1 = a
    · simp only [mdel, if_pos hq]; exact List.sublist_cons_self _ _
    · simp only [mdel, if_neg hq]; exact mdel_sub.cons_cons _
theorem mdel_nodup {a : α} {m : List (α × β)} (h : (m.map (·.1)).Nodup) : ((mdel a m).map (·.1)).Nodup := h.sublist (mdel_sub.map _)
end plain
section
variable {e : Env} {ctx ctx' : List HProp} {α β : Type} [DecidableEq α] {K : KeyF α} {vf : β → Value}
/-- what is held for each of many -/
def Own {γ : Type} (own : γ → HProp) (l : List γ) : HProp := sepL (l.map own)
theorem Own.perm {γ : Type} {own : γ → HProp} {l l' : List γ} (p : l.Perm l') : Imp (Own own l :: ctx) (Own own l' :: ctx) := fun _ k => sepL_cons (sepL_perm (p.map own)) (fun _ z => z) k
theorem Own.cons {γ : Type} {own : γ → HProp} {x : γ} {l : List γ} : Imp (Own own (x :: l) :: ctx) (own x :: Own own l :: ctx) := fun _ k => by
  have h1 := sepL_grp.1 k
  have h2 : sepL (own x :: (l.map own ++ ctx)) _ := h1
  exact sepL_cons (fun _ a => a) (fun _ z => sepL_grp.2 z) h2
theorem Own.uncons {γ : Type} {own : γ → HProp} {x : γ} {l : List γ} : Imp (own x :: Own own l :: ctx) (Own own (x :: l) :: ctx) := fun _ k => by
  refine sepL_grp.2 ?_
  have h2 : sepL (own x :: (l.map own ++ ctx)) _ := sepL_cons (fun _ a => a) (fun _ z => sepL_grp.1 z) k
  exact h2
theorem Own.nil {γ : Type} {own : γ → HProp} {c' : List HProp} (h : Imp ctx c') : Imp ctx (Own own [] :: c') := fun x k => sepL_grp.2 (h x k)
theorem Own.congr {γ δ : Type} {own : γ → HProp} {own' : δ → HProp} {l : List γ} {l' : List δ} (h : l.map own = l'.map own') : Imp (Own own l :: ctx) (Own own' l' :: ctx) := fun _ k => by
  unfold Own at k ⊢; rw [← h]; exact k
theorem Own.take {own : α × β → HProp} {a : α} {b : β} {m : List (α × β)} (h : mfind a m = some b) : Imp (Own own m :: ctx) (own (a, b) :: Own own (mdel a m) :: ctx) := (Own.perm (mdel_perm h)).trans Own.cons
theorem Own.put {own : α × β → HProp} {a : α} {b : β} {m : List (α × β)} : Imp (own (a, b) :: Own own (mdel a m) :: ctx) (Own own (mset a b m) :: ctx) := Own.uncons.trans (Own.perm mset_perm.symm)
theorem Own.new {own : α × β → HProp} {a : α} {b : β} {m : List (α × β)} (h : mfind a m = none) : Imp (own (a, b) :: Own own m :: ctx) (Own own (mset a b m) :: ctx) := by
  have := Own.put (own := own) (a := a) (b := b) (m := m) (ctx := ctx)
  rwa [mdel_none h] at this
/-- a map under other names -/
theorem Mp.congr {β' : Type} {vf' : β' → Value} {r : Nat} {m : List (α × β)} {m' : List (α × β')} (h : m.map (fun p => (K.f p.1, vf p.2)) = m'.map (fun p => (K.f p.1, vf' p.2))) : Imp (Mp K vf r m :: ctx) (Mp K vf' r m' :: ctx) := fun _ k =>
  sepL_cons (fun _ ⟨arr, ck, h1, h2, h3⟩ => ⟨arr, ck, h1, h2, h3.trans h⟩) (fun _ z => z) k
/-- the next entry, the entries parted in those that came and those to come -/
theorem Ent.mnextP {r i ty : Nat} {m dn rm : List (α × β)} {c0 : WP} {c1 : Value → Value → WP} (hp : Pick ctx (MpI K vf r i m (dn.map (·.1))) ctx') (hm : (dn ++ rm).Perm m) (hn : (m.map (·.1)).Nodup)
    (h0 : rm = [] → Ent e (MpI K vf r i m (dn.map (·.1)) :: ctx') c0)
    (h1 : ∀ a b rm', rm.Perm ((a, b) :: rm') → (a, b) ∈ m → (dn ++ [(a, b)] ++ rm').Perm m → Ent e (MpI K vf r i m (dn.map (·.1) ++ [a]) :: ctx') (c1 (K.f a) (vf b))) :
    Ent e ctx (NxK P (vS (Instr.next (.pointer (some ⟨i, 0, none⟩)) false ty)) .raw .raw c0 c1) := by
  have hnd : ((dn ++ rm).map (·.1)).Nodup := (hm.map _).symm.nodup hn
  rw [List.map_append] at hnd
  obtain ⟨_, _, m3⟩ := List.nodup_append.1 hnd
  refine Ent.mnext hp (fun hall => h0 ?_) (fun a b hab hx => ?_)
  · cases rm with
    | nil => rfl
    | cons y rm =>
      exfalso
      have hy : y ∈ m := hm.subset (by simp)
      exact m3 y.1 (hall y.1 y.2 hy) y.1 (by simp) rfl
  · have hxr : (a, b) ∈ rm := by
      rcases List.mem_append.1 (hm.symm.subset hab) with h | h
      · exact absurd (List.mem_map.2 ⟨_, h, rfl⟩) hx
      · exact h
    obtain ⟨l1, l2, rfl⟩ := List.append_of_mem hxr
    have hpm : (l1 ++ (a, b) :: l2).Perm ((a, b) :: (l1 ++ l2)) := List.perm_middle
    exact h1 a b (l1 ++ l2) hpm hab (by
      refine List.Perm.trans ?_ hm
      rw [List.append_assoc]
      exact (List.Perm.append_left dn (List.Perm.symm hpm)))
theorem dn_snoc {dn : List (α × β)} {a : α} {b : β} : (dn ++ [(a, b)]).map (·.1) = dn.map (·.1) ++ [a] := by simp
/-- a present key is set while a range goes on -/
theorem Ent.msetI {t kt vt r i : Nat} {m : List (α × β)} {dn : List α} {a : α} {b b' : β} {c : Value → WP} (hu : Upd ctx (MpI K vf r i m dn) (MpI K vf r i (Sl.mset a b m) dn) ctx') (hf : mfind a m = some b') (ht : dd t = some (.mp kt vt)) (hk : P.underlying kt = some K.d) (h : Ent e ctx' (c undef)) :
    Ent e ctx (OpK P (.one .raw) (uS (Instr.mapUpdate t (.map (some r)) (K.f a) (vf b))) c) := Ent.act fun w hw => by
  obtain ⟨s, hp, hq⟩ := hu.pick
  have hw2 := hw.imp (sepL_perm hp.perm)
  obtain ⟨arr, ck, seen, h1, h1i, hne, h2, h3, de, d1, d2, d3⟩ := Has.mpi .hd hw2
  obtain ⟨arr', ck', g1, g2, g3, g4⟩ := run_setM (a := a) (b := b) ht hk h1 h2 h3
  obtain ⟨hck, j, xj, hj, hxk, harr⟩ := g4 ⟨b', hf⟩
  subst hck
  refine ⟨undef, _, .inr ⟨run_uS g1, rfl⟩, _, rfl, h _ ?_⟩
  have hs := heap_set (o' := .map arr' ck') h1
  have hjm : xj ∈ arr.toList := List.mem_of_getElem? hj
  have hde : ∃ de' : List MapEntry, (∀ x ∈ de', x ∈ arr'.toList) ∧ seen.toList = de'.map (·.born) ∧ de'.map (·.key) = dn.map K.f := by
    refine ⟨de.map fun x => if x.born = xj.born then { x with key := K.f a, val := vf b } else x, fun y hy => ?_, ?_, ?_⟩
    · obtain ⟨x, hx, rfl⟩ := List.mem_map.1 hy
      have hxa := d1 x hx
      rw [harr, Array.toList_modify]
      by_cases hb : x.born = xj.born
      · have := born_uniq h2.2.1 hxa hjm hb
        subst this
        rw [if_pos rfl]
        refine List.mem_of_getElem? (i := j) ?_
        rw [List.getElem?_modify_eq, hj]; rfl
      · rw [if_neg hb]
        obtain ⟨n, hn, hxn⟩ := List.mem_iff_getElem.1 hxa
        have hjn : j ≠ n := fun he => by
          subst he
          rw [List.getElem?_eq_getElem hn, hxn] at hj
          cases hj; exact hb rfl
        refine List.mem_of_getElem? (i := n) ?_
        rw [List.getElem?_modify_ne _ _ hjn, List.getElem?_eq_getElem hn, hxn]
    · rw [d2, List.map_map]
      refine List.map_congr_left fun x _ => ?_
      simp only [Function.comp]
      split <;> rfl
    · rw [← d3, List.map_map]
      refine List.map_congr_left fun x hx => ?_
      simp only [Function.comp]
      split
      · rename_i hb
        have := born_uniq h2.2.1 (d1 x hx) hjm hb
        subst this
        exact hxk.symm
      · rfl
  obtain ⟨de', e1, e2, e3⟩ := hde
  have := Sat.turn2 (B := MpI K vf r i (Sl.mset a b m) dn) (w' := { w with heap := w.heap.setIfInBounds r (.map arr' ck') }) (b := r) (o' := .map arr' ck') hw2
    (fun g ⟨x, y, sn, hg, hgi, hne', _⟩ hl => ⟨⟨_, hg⟩, arr', ck', seen, by simp, by
      have f1 := hl _ _ hgi
      have f2 : w.heap[i]? = some (.mapIter (some r) y sn y) := f1
      rw [h1i] at f2
      cases f2
      simp [Ne.symm hne, hgi], hne, g2, g3, de', e1, e2, e3⟩) rfl rfl rfl hs.1 hs.2
  exact this.imp (sepL_perm hq.symm)
/-- a part of a block is cleared -/
theorem Ent.clear {t x ty by_ b off n c : Nat} {l : List Value} {z : Value} {k : Value → WP} (hu : Upd ctx (pt b l) (pt b (l.take off ++ List.replicate n z ++ l.drop (off + n))) ctx') (ht : dd t = some (.sl x)) (hs : szof x = some (1, by_)) (hz : zro x = some [z])
    (h1 : one z = true) (hf : off + n ≤ l.length) (h : Ent e ctx' (k (.tuple #[]))) :
    Ent e ctx (OpK P (.one .raw) (vS (Builtin.clear_ #[t] ty #[.slice (some ⟨b, off, none⟩) n c])) k) := Ent.act fun w hw => by
  obtain ⟨s2, hp, hq⟩ := hu.pick
  have hw2 : Sat e (sepL (pt b l :: s2)) w := hw.imp (sepL_perm hp.perm)
  obtain ⟨i', v, g1, g2, g3⟩ := zro_spec hz
  have hc := one_cells h1
  have hvz : v.cells = #[z] := by
    have : v.cells.toList.toArray = [z].toArray := by rw [g3]
    simpa using this
  have hzc : (Builtin.zeroCells v.cells n).toList = List.replicate n z := by
    rw [hvz]
    apply List.ext_getElem
    · simp [Builtin.zeroCells]
    · intro i h1 h2
      simp [Builtin.zeroCells, Nat.mod_one]
  obtain ⟨w', hst, hs'⟩ := run_storeCells_pt (b := b) (off := off) (List.replicate n z) 0 l s2 w (by simpa using hf) (fun v hv => by rw [List.eq_of_mem_replicate hv]; exact h1) hw2
  have hs2 : Sat e (sepL ctx') w' := hs'.imp fun y ky => sepL_perm hq.symm y (by simpa using ky)
  refine ⟨.tuple #[], w', .inl (run_vS ?_), _, rfl, h w' hs2⟩
  cases n with
  | zero =>
    have e1 : w = w' := by
      have : (storeCells ⟨b, off, none⟩ (List.replicate 0 z)).run P w = .ok () w := rfl
      rw [this] at hst; cases hst; rfl
    subst e1
    simp only [Builtin.clear_, List.getElem?_toArray, List.getElem?_cons_zero, Sem.run_bind, run_underlying (dd_sl ht), Result.andThen_ok, Sem.run_pure]
  | succ n =>
    simp only [Builtin.clear_, List.getElem?_toArray, List.getElem?_cons_zero, Sem.run_bind, run_underlying (dd_sl ht), Result.andThen_ok, run_zero g1 g2, hzc, hst, Sem.run_pure]
/-- one element behind the others, in a drawn region -/
theorem Ent.app1a {R : List HProp} {t y x sz by_ n c : Nat} {a : Option Addr} {v : Value} {l cs z : List Value} {k : Value → WP} (hS : Imp ctx R) (h : ∀ a2 c2, Ent e (SlO a2 (n + 1) c2 sz (l ++ cs) :: ctx') (k (.slice a2 (n + 1) c2)))
    (hp : Pick ctx (SlO a n c sz l) ctx' := by (repeat (first | exact Pick.hd | apply Pick.tl))) (ht : dd t = some (.sl x) := by exact rfl) (hs : szof x = some (sz, by_) := by exact rfl) (hz : zro x = some z := by exact rfl) (hv : v.cells.toList = cs := by first | exact cells_int _ _ | exact cells_str _ | exact cells_sl _ _ _ | exact cells_ptr _ | exact cells_bool _ | exact cells_agg _ | exact cells_map _ | exact rfl)
    (hb : (n + 1) * by_ ≤ 140737488355328 := by first | omega | (dsimp only; omega) | (simp; omega)) (hzl : z.length = sz := by exact rfl) (hl : cs.length = sz := by exact rfl) (h0 : sz ≠ 0 := by decide) (h2 : 1 * sz ≤ 16777216 := by decide) (h1 : cs.all one = true := by exact rfl) (h63 : n + 1 ≤ 4611686018427387904 := by omega) :
    Ent e ctx (oR (vS (Instr.buildSlice t 1 #[(0, v)])) fun s => andK (Sat e (sepL R)) (app t t y (.slice a n c) s k)) := by
  refine Ent.slice (out := cs) ht hs hz hzl h2 h0 (fill1 hv hl hzl) fun b => ?_
  refine Ent.andI (Imp.drop hS) ?_
  refine Ent.append (m := 1) (.tl hp) (Rd.pt .hd) ht hs hz hzl h0 (by rw [hl, Nat.one_mul]) (fun v hv => List.all_eq_true.1 h1 v hv) hb h63 fun a2 c2 => ?_
  exact (h a2 c2).imp (Imp.cons (Imp.drop (Imp.refl _)))
/-- results that lie in cells -/
theorem st_cellA {t b off n : Nat} {l : List Value} {cs : List Value} (hh : Has ctx (pt b l)) (ht : ag t = some n) (hv : (l.drop off).take n = cs) (hn : cs.length = n) :
    Still e ctx (vS (do loadVar t (← asAddr (.pointer (some ⟨b, off, none⟩))))) (.agg cs.toArray) := fun w hw => by
  have e1 : (do loadVar t (← asAddr (.pointer (some ⟨b, off, none⟩))) : Sem Value) = Instr.loadAt t (.pointer (some ⟨b, off, none⟩)) := rfl
  rw [e1]; exact st_loadA (e := e) hh ht hv hn w hw
theorem st_cell {t b off : Nat} {l : List Value} {v : Value} (hh : Has ctx (pt b l)) (ht : sc t = true) (hv : l[off]? = some v) :
    Still e ctx (vS (do loadVar t (← asAddr (.pointer (some ⟨b, off, none⟩))))) v := fun w hw => by
  have e1 : (do loadVar t (← asAddr (.pointer (some ⟨b, off, none⟩))) : Sem Value) = Instr.loadAt t (.pointer (some ⟨b, off, none⟩)) := rfl
  rw [e1]; exact st_load (e := e) hh ht hv w hw
theorem Ent.wrA {t b n : Nat} {l : List Value} {c : Value → WP} (h : Ent e ctx (c (.agg l.toArray))) (hh : Has ctx (pt b l) := by (repeat (first | exact Has.hd | apply Has.tl))) (ht : ag t = some n := by exact rfl) (hn : l.length = n := by exact rfl) :
    Ent e ctx (RdK P (.one .raw) (vS (do loadVar t (← asAddr (.pointer (some ⟨b, 0, none⟩))))) c) :=
  Ent.rR (st_cellA hh ht (by rw [List.drop_zero, ← hn, List.take_length]) hn) h
/-- a field of a struct's value -/
def fldT (t f : Nat) : Option (Nat × Nat) := match ti t with
  | some ⟨_, _, .struct fs⟩ => fs[f]?
  | _ => none
theorem fldT_spec {t f off ft : Nat} (h : fldT t f = some (off, ft)) : ∃ fields fd, P.underlying t = some (.struct fields) ∧ fields[f]? = some fd ∧ fd.offset = off ∧ fd.type = ft := by
  unfold fldT at h
  split at h
  · rename_i sz by_ fs hx
    obtain ⟨i, d, h1, h2, h3, h4, h5⟩ := ti_spec hx
    simp only at h5
    cases d <;> simp only [dOf] at h5 <;> try (cases h5)
    rename_i fields
    cases hf : fields[f]? with
    | none => simp [hf] at h
    | some fd =>
      have e : (fields.toList.map fun f => (f.offset, f.type))[f]? = some (fd.offset, fd.type) := by simp [hf]
      rw [e] at h
      cases h
      exact ⟨fields, fd, h2, hf, rfl, rfl⟩
  · cases h
theorem st_fieldV {t f off ft : Nat} {l : List Value} {v : Value} (h : fldT t f = some (off, ft)) (hs : sc ft = true) (hv : l[off]? = some v) : Pu (vS (Instr.field t (.agg l.toArray) f)) v := Still.of_run fun w => by
  obtain ⟨fields, fd, h1, h2, rfl, rfl⟩ := fldT_spec h
  obtain ⟨_, _, _, _, _, h4⟩ := sc_spec hs
  simp [Instr.field, run_underlying h1, h2, part, h4, asAgg, hv]
theorem st_mgetV {t kt vt r : Nat} {m : List (α × β)} {a : α} {b : β} {v : Value} (hh : Has ctx (Mp K vf r m)) (ht : dd t = some (.mp kt vt)) (hk : P.underlying kt = some K.d) (hb : mfind a m = some b) (hv : vf b = v) :
    Still e ctx (vS (Instr.lookup t (.map (some r)) (K.f a) false)) v := hv ▸ st_mgetT hh ht hk hb
theorem Ent.msetV {t kt vt r : Nat} {m : List (α × β)} {a : α} {b : β} {v : Value} {c : Value → WP} (hu : Upd ctx (Mp K vf r m) (Mp K vf r (Sl.mset a b m)) ctx') (ht : dd t = some (.mp kt vt)) (hk : P.underlying kt = some K.d) (hv : vf b = v) (h : Ent e ctx' (c undef)) :
    Ent e ctx (OpK P (.one .raw) (uS (Instr.mapUpdate t (.map (some r)) (K.f a) v)) c) := hv ▸ Ent.mset hu ht hk h
end
end Go.Proofs.YtfofnagocedlgaaDoor.Sl
end
section
/-
  RANGES OVER FUNCTIONS: the loop's record as a part of memory; a call of yield runs the round that 'RecOk' tells of.
-/
set_option maxRecDepth 100000
set_option linter.unusedVariables false
set_option linter.unusedSectionVars false
set_option linter.unusedSimpArgs false
namespace Go.Proofs.YtfofnagocedlgaaDoor.Sl
open Go Sh
/-- the loop's record in some state -/
def lp (r : Loop) (st : LoopState) (p : Option Code) : Obj := .loop { r with state := st, pending := p }
theorem lp_eta {r : Loop} {ks : List Kd} {B : Nat → AF (Dn → WP) ks} (h : RecOk P r ks B) : lp r .ready none = .loop r := by
  have h1 := h.state; have h2 := h.pending
  cases r; simp_all [lp]
/-- behind a range over a function -/
def EdK (l : Nat) (k : Option Code → WP) : WP := fun w3 => ∃ j w4, (Instr.endLoop l).run P w3 = .ok j w4 ∧ k j w4
/-- behind a round -/
def DnK (l : Nat) (c : Bool → WP) (j : Option Code) : WP := fun W' => ∃ v W'', (Instr.endRound l j).run P W' = .ok v W'' ∧ tyR (.one .bool) c v W''
theorem putObj_other {w : World} {b i : Nat} {o : Obj} (h : i ≠ b) : (w.putObj b o).heap[i]? = w.heap[i]? := World.putObj_heap_other h
section
variable {e : Env} {ctx ctx' : List HProp}
theorem Sat.put {w : World} {b : Nat} {o o' : Obj} (h : Sat e (sepL (Sl.ob b o :: ctx)) w) : Sat e (sepL (Sl.ob b o' :: ctx)) (w.putObj b o') := by
  have hb : w.heap[b]? = some o := Has.ob .hd h
  exact h.turn (o := o) (o' := o') (fun _ k => k) (fun _ k => k) rfl rfl rfl (World.putObj_heap_same (Array.getElem?_eq_some_iff.1 hb).1) (fun i hi => putObj_other hi)
theorem Sat.upd {w : World} {b : Nat} {o o' : Obj} (hp : Upd ctx (Sl.ob b o) (Sl.ob b o') ctx') (h : Sat e (sepL ctx) w) : w.heap[b]? = some o ∧ Sat e (sepL ctx') (w.putObj b o') := by
  obtain ⟨s, h1, h2⟩ := hp.pick
  have h3 : Sat e (sepL (Sl.ob b o :: s)) w := h.imp (sepL_perm h1.perm)
  exact ⟨Has.ob .hd h3, (Sat.put h3).imp (sepL_perm h2.symm)⟩
theorem Ent.rf {f : Nat} {first cap : Array Value} {ks : List Kd} {B : Nat → AF (Dn → WP) ks} {k : Nat → Option Code → WP} (hf : callable P f = true) {args : Nat → List Value}
    (ha : ∀ q, first ++ #[.func (.yield (q + 1)) #[] #[]] ++ cap = (args q).toArray)
    (h : ∀ (q : Nat) (r : Loop), RecOk P r ks B → Ent e (Sl.ob (q + 1) (lp r .ready none) :: Sl.ob q (.deferred (some [])) :: ctx) (FnK P (.one .raw) f (args q).toArray fun _ => EdK (q + 1) (k q))) :
    Ent e ctx (RfK P (.func (.func f) first cap) ks B k) := fun w hw => by
  refine ⟨f, first, cap, rfl, hf, fun r hr hd => ?_⟩
  have h1 : Sat e (sepL (Sl.ob w.heap.size (.deferred (some [])) :: ctx)) (w.alloc (.deferred (some []))) := hw.alloc _
  have h2 := h1.alloc (.loop r)
  rw [World.size_alloc] at h2
  have := h w.heap.size r hr _ (by rw [lp_eta hr]; exact h2)
  rw [ha]
  exact CallK.mono (fun v w3 hv => by obtain ⟨x, _, hx⟩ := hv; exact hx) this
theorem Ent.ed {l : Nat} {r : Loop} {st : LoopState} {p : Option Code} {k : Option Code → WP} (hb : st ≠ .busy) (hp : Upd ctx (Sl.ob l (lp r st p)) (Sl.ob l (lp r .exhausted p)) ctx') (h : Ent e ctx' (k p)) :
    Ent e ctx (EdK l k) := fun w hw => by
  obtain ⟨h1, h2⟩ := Sat.upd hp hw
  exact ⟨_, _, run_endLoop h1 hb, h _ h2⟩
theorem Ent.tk {q : Nat} {c : WP} (hp : Upd ctx (Sl.ob q (.deferred (some []))) (Sl.ob q (.deferred none)) ctx') (h : Ent e ctx' c) : Ent e ctx (TkK P q c) := fun w hw => by
  obtain ⟨h1, h2⟩ := Sat.upd hp hw
  exact ⟨_, run_takeDeferred h1, h _ h2⟩
theorem Ent.bg {l : Nat} {r : Loop} {p : Option Code} {c : WP} (hp : Upd ctx (Sl.ob l (lp r .ready p)) (Sl.ob l (lp r .busy p)) ctx') (h : Ent e ctx' c) : Ent e ctx (BgK P l c) := fun w hw => by
  obtain ⟨h1, h2⟩ := Sat.upd hp hw
  exact ⟨_, run_beginRound h1 rfl, h _ h2⟩
theorem Ent.dn {l : Nat} {r : Loop} {st : LoopState} {p : Option Code} {c : Bool → WP} (hp : Upd ctx (Sl.ob l (lp r st p)) (Sl.ob l (lp r .ready none)) ctx') (h : Ent e ctx' (c true)) : Ent e ctx (DnK l c none) := fun w hw => by
  obtain ⟨h1, h2⟩ := Sat.upd hp hw
  exact ⟨_, _, run_endRound none h1, true, rfl, h _ h2⟩
theorem Ent.dnJ {l : Nat} {r : Loop} {st : LoopState} {p : Option Code} {j : Code} {c : Bool → WP} (hp : Upd ctx (Sl.ob l (lp r st p)) (Sl.ob l (lp r .done (some j))) ctx') (h : Ent e ctx' (c false)) : Ent e ctx (DnK l c (some j)) := fun w hw => by
  obtain ⟨h1, h2⟩ := Sat.upd hp hw
  exact ⟨_, _, run_endRound (some j) h1, false, rfl, h _ h2⟩
theorem unF_len {X : Type} : ∀ (ks : List Kd) (vs : List Value) (b : AF X ks) (g : X → WP) (w : World), unF ks vs b g w → vs.length = ks.length
  | [], [], _, _, _, _ => rfl
  | k :: ks, v :: vs, b, g, w, h => by
    obtain ⟨x, hx, h2⟩ := getK_elim h
    simp [unF_len ks vs _ g w h2]
  | [], _ :: _, _, _, _, h => h.elim
  | _ :: _, [], _, _, _, h => h.elim
theorem Ent.yield {l : Nat} {r : Loop} {st : LoopState} {p : Option Code} {ks : List Kd} {B : Nat → AF (Dn → WP) ks} {args : List Value} {c : Bool → WP} (hr : RecOk P r ks B) (hh : Has ctx (Sl.ob l (lp r st p)))
    (h : Ent e ctx (unF ks args (B l) fun b => b (DnK l c))) : Ent e ctx (OpK P (.one .bool) (callS (.func (.yield l) #[] #[]) args.toArray) c) := fun w hw => by
  have hb : w.heap[l]? = some (lp r st p) := Has.ob hh hw
  have hB := h w hw
  have hlen := unF_len _ _ _ _ _ hB
  have hrun : (callS (.func (.yield l) #[] #[]) args.toArray).run P w = .ok (.round l r.fn ((r.params.zip args.toArray).foldl (fun tmps (t, a) => tmps.setIfInBounds t a) r.tmps) r.assign r.body) w := by
    have := run_yield (P := P) (args := args.toArray) hb (by simp [hr.params, hlen])
    simpa [callS, Deferred.ofValue, invoke] using this
  show NextK P _ _ w
  unfold NextK
  rw [hrun]
  exact hr.round l args (tyR (.one .bool) c) w hB
end
end Go.Proofs.YtfofnagocedlgaaDoor.Sl
end
section
/-
  FUNCTIONS AS PLAIN TERMS, printed by shx.py.
-/
set_option linter.unusedVariables false
set_option maxRecDepth 100000
namespace Go.Proofs.YtfofnagocedlgaaDoor
open Go Sh
/- tollhouse/text.Lower -/
def text_Lower_sh (s : ByteArray) (K : ByteArray → WP) : WP :=
 oR (vS (convert 9 31 (.string s))) fun t7 =>
 len 31 3 t7 fun t9 =>
 loopK [(10, (.int .i64))] (fun (j1 : Int → WP) => j1 0) (fun (j2 : Int → WP) (t10 : Int) =>
 condK (decide (t10 < t9))
 (iI 31 t7 .i64 t10 5 .u8 fun t14 =>
 joinK [(20, .bool)] (fun (j3 : Bool → WP) =>
 condK (decide (t14 ≥ 65))
 (j3 (decide (t14 ≤ 90)))
 (j3 false))
 fun t20 =>
 condK t20
 (ArK .u8 (t14 + 97) fun t24 =>
 ArK .u8 (t24 - 65) fun t25 =>
 iW 31 t7 .i64 t10 5 (.int .u8 t25) <|
 ArK .i64 (t10 + 1) fun t27 =>
 j2 t27)
 (ArK .i64 (t10 + 1) fun t27_1 =>
 j2 t27_1))
 (oS (vS (convert 31 9 t7)) fun t29 =>
 K t29))
theorem text_Lower_ok {s : ByteArray} {K : ByteArray → WP} (w : World) (h : text_Lower_sh s K w) : text_Lower s K w :=
  fn_ok cx_ok (hi := (.n .l (.n .l (.n (.n .l (.n (.p [(10, (.int .i64))] (.n .l (.n .l (.n (.n (.n .l (.n (.j [(20, .bool)] .l) .l)) .l) .l)))) .l)) .l)))) (fn := Tryd.f47) Tryd.func47 (by kernel_rfl) h

/- tollhouse/text.Same -/
def text_Same_sh (a : ByteArray) (b : ByteArray) (K : Bool → WP) : WP :=
 text_Lower a fun t6 =>
 text_Lower b fun t8 =>
 oB (bS .eql 9 (.tmp 6) (.tmp 8) (.string t6) (.string t8)) fun t9 =>
 K t9
theorem text_Same_ok {a : ByteArray} {b : ByteArray} {K : Bool → WP} (w : World) (h : text_Same_sh a b K w) : text_Same a b K w :=
  fn_ok cx_ok (hi := .l) (fn := Tryd.f55) Tryd.func55 (by kernel_rfl) h

/- tollhouse/text.Trim -/
def text_Trim_sh (s : ByteArray) (K : ByteArray → WP) : WP :=
 strings_Trim s (⟨#[32, 9]⟩ : ByteArray) fun t4 =>
 K t4
theorem text_Trim_ok {s : ByteArray} {K : ByteArray → WP} (w : World) (h : text_Trim_sh s K w) : text_Trim s K w :=
  fn_ok cx_ok (hi := .l) (fn := Tryd.f70) Tryd.func70 (by kernel_rfl) h

/- tollhouse/text.List -/
def text_List_sh (s : ByteArray) (K : Value → WP) : WP :=
 oR (vS (Instr.box 9 (.string s))) fun s_1 =>
 oR (vS (Instr.alloc 89 true (.tuple #[]))) fun l =>
 oR (vS (Instr.alloc 3 true (.tuple #[]))) fun from_ =>
 sto 3 from_ (.int .i64 0) <|
 lS 9 s_1 fun t11 =>
 oR (vS (Instr.range 9 (.string t11))) fun t12 =>
 loopK [(5, .bool), (6, .bool)] (fun (j1 : Bool → Bool → WP) => j1 false false) (fun (j2 : Bool → Bool → WP) (quoted : Bool) (masked : Bool) =>
 NxK P (vS (Instr.next t12 true 0)) (.int .i64) (.int .i32)
 (lS 9 s_1 fun t41 =>
 len 9 3 (.string t41) fun t42 =>
 oR (callS (.func (.func 69) #[] #[s_1, from_, l]) #[(.int .i64 t42)]) fun _ =>
 lR 89 l fun t44 =>
 K t44)
 fun u_1 u_2 =>
 condK masked
 (j2 quoted false)
 (joinK [(19, .bool)] (fun (j3 : Bool → WP) =>
 condK quoted
 (j3 (u_2 == 92))
 (j3 false))
 fun t19 =>
 condK t19
 (j2 quoted true)
 (condK (u_2 == 34)
 (j2 (!quoted) masked)
 (condK (u_2 == 44)
 (condK (!quoted)
 (oR (callS (.func (.func 69) #[] #[s_1, from_, l]) #[(.int .i64 u_1)]) fun _ =>
 j2 quoted masked)
 (j2 quoted masked))
 (j2 quoted masked)))))
theorem text_List_ok {s : ByteArray} {K : Value → WP} (w : World) (h : text_List_sh s K w) : text_List s K w :=
  fn_ok cx_ok (hi := (.n .l (.n .l (.n .l (.n .l (.n (.n .l (.n (.p [(5, .bool), (6, .bool)] (.n .l (.n .l (.n (.n .l (.n (.n .l (.n .l (.n (.j [(19, .bool)] .l) .l))) .l)) .l)))) .l)) .l)))))) (fn := Tryd.f54) Tryd.func54 (by kernel_rfl) h

/- tollhouse/text.List$1 -/
def text_List_c1_sh (to : Int) (t1 : Value) (t2 : Value) (t3 : Value) (K : Value → WP) : WP :=
 lS 9 t1 fun t6 =>
 lI 3 .i64 t2 fun t7 =>
 oS (vS (Instr.sliceAt 9 (.string t6) (some (.int .i64 t7)) (some (.int .i64 to)) none)) fun t9 =>
 text_Trim t9 fun t10 =>
 oB (bS .neq 9 (.tmp 11) (.const (.string (⟨#[]⟩ : ByteArray))) (.string t10) (.string (⟨#[]⟩ : ByteArray))) fun t12 =>
 condK t12
 (lR 89 t3 fun t13 =>
 oR (vS (Instr.buildSlice 89 1 #[(0, (.string t10))])) fun t15 =>
 app 89 89 89 t13 t15 fun t16 =>
 sto 89 t3 t16 <|
 ArK .i64 (to + 1) fun t18 =>
 sto 3 t2 (.int .i64 t18) <|
 K (.tuple #[]))
 (ArK .i64 (to + 1) fun t18_1 =>
 sto 3 t2 (.int .i64 t18_1) <|
 K (.tuple #[]))
theorem text_List_c1_ok {to : Int} {t1 : Value} {t2 : Value} {t3 : Value} {K : Value → WP} (w : World) (h : text_List_c1_sh to t1 t2 t3 K w) : text_List_c1 to t1 t2 t3 K w :=
  fn_ok cx_ok (hi := .l) (fn := Tryd.f69) Tryd.func69 (by kernel_rfl) h

/- tollhouse/head.Get -/
def head_Get_sh (l : Value) (name : ByteArray) (K : Value → WP) : WP :=
 len 30 3 l fun t9 =>
 loopK [(5, .raw), (10, (.int .i64))] (fun (j1 : Value → Int → WP) => j1 (.slice none 0 0) 0) (fun (j2 : Value → Int → WP) (out : Value) (t10 : Int) =>
 condK (decide (t10 < t9))
 (iR 30 l .i64 t10 75 fun t13 =>
 oR (vS (Instr.alloc 75 true (.tuple #[]))) fun f =>
 sto 75 f t13 <|
 fS 75 f 0 9 fun t15 =>
 text_Same t15 name fun t17 =>
 condK t17
 (fS 75 f 1 9 fun t20 =>
 oR (vS (Instr.buildSlice 89 1 #[(0, (.string t20))])) fun t21 =>
 app 89 89 89 out t21 fun t22 =>
 ArK .i64 (t10 + 1) fun t23 =>
 j2 t22 t23)
 (ArK .i64 (t10 + 1) fun t23_1 =>
 j2 out t23_1))
 (K out))
theorem head_Get_ok {l : Value} {name : ByteArray} {K : Value → WP} (w : World) (h : head_Get_sh l name K w) : head_Get l name K w :=
  fn_ok cx_ok (hi := (.n .l (.n .l (.n (.n .l (.n (.p [(5, .raw), (10, (.int .i64))] .l) .l)) .l)))) (fn := Tryd.f49) Tryd.func49 (by kernel_rfl) h

/- tollhouse/hop.Elements -/
def hop_Elements_sh (l : Value) (name : ByteArray) (K : Value → WP) : WP :=
 head_Get l name fun t10 =>
 len 89 3 t10 fun t11 =>
 loopK [(5, .raw), (12, (.int .i64))] (fun (j1 : Value → Int → WP) => j1 (.slice none 0 0) 0) (fun (j2 : Value → Int → WP) (out : Value) (t12 : Int) =>
 condK (decide (t12 < t11))
 (iS 89 t10 .i64 t12 9 fun t15 =>
 text_List t15 fun t18 =>
 app 89 89 89 out t18 fun t19 =>
 ArK .i64 (t12 + 1) fun t20 =>
 j2 t19 t20)
 (K out))
theorem hop_Elements_ok {l : Value} {name : ByteArray} {K : Value → WP} (w : World) (h : hop_Elements_sh l name K w) : hop_Elements l name K w :=
  fn_ok cx_ok (hi := (.n .l (.n .l (.n (.n .l (.n (.p [(5, .raw), (12, (.int .i64))] .l) .l)) .l)))) (fn := Tryd.f46) Tryd.func46 (by kernel_rfl) h

/- tollhouse/vary.Names -/
def vary_Names_sh (l : Value) (K : Value → Bool → WP) : WP :=
 oR (vS (Instr.makeMap 96 none)) fun t9 =>
 hop_Elements l (⟨#[118, 97, 114, 121]⟩ : ByteArray) fun t11 =>
 len 89 3 t11 fun t12 =>
 loopK [(4, .raw), (13, (.int .i64))] (fun (j1 : Value → Int → WP) => j1 (.slice none 0 0) 0) (fun (j2 : Value → Int → WP) (names : Value) (t13 : Int) =>
 condK (decide (t13 < t12))
 (iS 89 t11 .i64 t13 9 fun t16 =>
 text_Lower t16 fun t18 =>
 joinK [(26, .bool)] (fun (j3 : Bool → WP) =>
 oI .i64 (vS (Instr.lookup 96 t9 (.string t18) false)) fun t21 =>
 condK (t21 == 0)
 (oB (bS .neq 9 (.tmp 24) (.const (.string (⟨#[42]⟩ : ByteArray))) (.string t18) (.string (⟨#[42]⟩ : ByteArray))) fun t25 =>
 j3 t25)
 (j3 false))
 fun t26 =>
 condK t26
 (oR (vS (Instr.buildSlice 89 1 #[(0, (.string t18))])) fun t29 =>
 app 89 89 89 names t29 fun t30 =>
 oR (uS (Instr.mapUpdate 96 t9 (.string t18) (.int .i64 1))) fun _ =>
 ArK .i64 (t13 + 1) fun t33 =>
 j2 t30 t33)
 (oR (uS (Instr.mapUpdate 96 t9 (.string t18) (.int .i64 1))) fun _ =>
 ArK .i64 (t13 + 1) fun t33_1 =>
 j2 names t33_1))
 (DrawK fun S =>
 sI S .i64 (vS (Instr.lookup 96 t9 (.string (⟨#[42]⟩ : ByteArray)) false)) fun t36 =>
 K names (decide (t36 > 0))))
theorem vary_Names_ok {l : Value} {K : Value → Bool → WP} (w : World) (h : vary_Names_sh l K w) : vary_Names l K w :=
  fn_ok cx_ok (hi := (.n .l (.n .l (.n .l (.n (.n .l (.n (.p [(4, .raw), (13, (.int .i64))] (.n .l (.n .l (.n (.n (.n .l (.n .l (.n (.n (.j [(26, .bool)] .l) .l) .l))) .l) .l)))) .l)) (.n (.o (odR 0 6)) .l)))))) (fn := Tryd.f41) Tryd.func41 (by kernel_rfl) h

/- tollhouse/vary.Same -/
def vary_Same_sh (a : Value) (b : Value) (K : Bool → WP) : WP :=
 slices_Equal_Field a b fun t7 =>
 K t7
theorem vary_Same_ok {a : Value} {b : Value} {K : Bool → WP} (w : World) (h : vary_Same_sh a b K w) : vary_Same a b K w :=
  fn_ok cx_ok (hi := .l) (fn := Tryd.f16) Tryd.func16 (by kernel_rfl) h

/- tollhouse/vary.Select -/
def vary_Select_sh (names : Value) (l : Value) (K : Value → WP) : WP :=
 oR (vS (Instr.box 30 l)) fun l_1 =>
 oR (vS (Instr.alloc 30 true (.tuple #[]))) fun out =>
 len 89 3 names fun t11 =>
 loopK [(12, (.int .i64))] (fun (j1 : Int → WP) => j1 0) (fun (j2 : Int → WP) (t12 : Int) =>
 condK (decide (t12 < t11))
 (iS 89 names .i64 t12 9 fun t15 =>
 oR (callS (.func (.func 48) #[] #[l_1, out]) #[(.string t15)]) fun _ =>
 ArK .i64 (t12 + 1) fun t19 =>
 j2 t19)
 (lR 30 out fun t20 =>
 K t20))
theorem vary_Select_ok {names : Value} {l : Value} {K : Value → WP} (w : World) (h : vary_Select_sh names l K w) : vary_Select names l K w :=
  fn_ok cx_ok (hi := (.n .l (.n .l (.n .l (.n (.n .l (.n (.p [(12, (.int .i64))] .l) .l)) .l))))) (fn := Tryd.f42) Tryd.func42 (by kernel_rfl) h

/- tollhouse/vary.Select$1 -/
def vary_Select_c1_sh (name : ByteArray) (t1 : Value) (t2 : Value) (K : Value → WP) : WP :=
 lR 30 t1 fun t5 =>
 head_Get t5 name fun t7 =>
 len 89 3 t7 fun t9 =>
 condK (decide (t9 > 0))
 (DrawK fun S =>
 sR S (vS (Instr.loadAt 30 t2)) fun t11 =>
 strings_Join t7 (⟨#[44, 32]⟩ : ByteArray) fun t14 =>
 andK S <|
 qR (vS (Instr.build 75 #[(0, (.string name)), (1, (.string t14))])) fun t15 =>
 oR (vS (Instr.buildSlice 30 1 #[(0, t15)])) fun t16 =>
 andK S <|
 app 30 30 30 t11 t16 fun t17 =>
 sto 30 t2 t17 <|
 K (.tuple #[]))
 (K (.tuple #[]))
theorem vary_Select_c1_ok {name : ByteArray} {t1 : Value} {t2 : Value} {K : Value → WP} (w : World) (h : vary_Select_c1_sh name t1 t2 K w) : vary_Select_c1 name t1 t2 K w :=
  fn_ok cx_ok (hi := (.n .l (.n .l (.n (.o (odR 0 8)) .l)))) (fn := Tryd.f48) Tryd.func48 (by kernel_rfl) h

/- slices.Equal[[]tollhouse/api.Field,tollhouse/api.Field] -/
def slices_Equal_Field_sh (s1 : Value) (s2 : Value) (K : Bool → WP) : WP :=
 len 30 3 s1 fun t7 =>
 len 30 3 s2 fun t9 =>
 condK (t7 != t9)
 (K false)
 (len 30 3 s1 fun t12 =>
 loopK [(13, (.int .i64))] (fun (j1 : Int → WP) => j1 0) (fun (j2 : Int → WP) (t13 : Int) =>
 condK (decide (t13 < t12))
 (DrawK fun S =>
 jR S 30 s1 .i64 t13 75 fun t19 =>
 jR S 30 s2 .i64 t13 75 fun t23 =>
 qB (bS .neq 75 (.tmp 19) (.tmp 23) t19 t23) fun t24 =>
 condK t24
 (K false)
 (ArK .i64 (t13 + 1) fun t25 =>
 j2 t25))
 (K true)))
theorem slices_Equal_Field_ok {s1 : Value} {s2 : Value} {K : Bool → WP} (w : World) (h : slices_Equal_Field_sh s1 s2 K w) : slices_Equal_Field s1 s2 K w :=
  fn_ok cx_ok (hi := (.n .l (.n .l (.n (.n .l (.n (.p [(13, (.int .i64))] (.n .l (.n .l (.n (.n (.n .l (.n (.o (odR 0 9)) .l)) .l) .l)))) .l)) .l)))) (fn := Tryd.f30) Tryd.func30 (by kernel_rfl) h

/- slices.Clone[[]tollhouse/api.Field,tollhouse/api.Field] -/
def slices_Clone_Field_sh (s : Value) (K : Value → WP) : WP :=
 oB (bS .eql 30 (.tmp 3) (.const (.slice none 0 0)) s (.slice none 0 0)) fun t4 =>
 condK t4
 (K (.slice none 0 0))
 (oR (vS (Instr.buildSlice 30 0 #[])) fun t5 =>
 app 30 30 30 t5 s fun t7 =>
 K t7)
theorem slices_Clone_Field_ok {s : Value} {K : Value → WP} (w : World) (h : slices_Clone_Field_sh s K w) : slices_Clone_Field s K w :=
  fn_ok cx_ok (hi := .l) (fn := Tryd.f34) Tryd.func34 (by kernel_rfl) h

/- bytes.Clone -/
def bytes_Clone_sh (b : Value) (K : Value → WP) : WP :=
 oB (bS .eql 31 (.tmp 3) (.const (.slice none 0 0)) b (.slice none 0 0)) fun t4 =>
 condK t4
 (K (.slice none 0 0))
 (oR (vS (Instr.buildSlice 31 0 #[])) fun t5 =>
 app 31 31 31 t5 b fun t7 =>
 K t7)
theorem bytes_Clone_ok {b : Value} {K : Value → WP} (w : World) (h : bytes_Clone_sh b K w) : bytes_Clone b K w :=
  fn_ok cx_ok (hi := .l) (fn := Tryd.f35) Tryd.func35 (by kernel_rfl) h

/- tollhouse/tollhouseref09.SameFields -/
def ref09_SameFields_sh (a : Value) (b : Value) (K : Bool → WP) : WP :=
 len 30 3 a fun t7 =>
 len 30 3 b fun t9 =>
 condK (t7 != t9)
 (K false)
 (loopK [(5, (.int .i64))] (fun (j1 : Int → WP) => j1 0) (fun (j2 : Int → WP) (i : Int) =>
 len 30 3 a fun t13 =>
 condK (decide (i < t13))
 (DrawK fun S =>
 jR S 30 a .i64 i 75 fun t20 =>
 jR S 30 b .i64 i 75 fun t24 =>
 qB (bS .neq 75 (.tmp 20) (.tmp 24) t20 t24) fun t25 =>
 condK t25
 (K false)
 (ArK .i64 (i + 1) fun t16 =>
 j2 t16))
 (K true)))
theorem ref09_SameFields_ok {a : Value} {b : Value} {K : Bool → WP} (w : World) (h : ref09_SameFields_sh a b K w) : ref09_SameFields a b K w :=
  fn_ok cx_ok (hi := (.n .l (.n .l (.n (.n .l (.n (.p [(5, (.int .i64))] (.n .l (.n (.n (.n (.o (odR 0 9)) .l) .l) .l))) .l)) .l)))) (fn := Tryd.f27) Tryd.func27 (by kernel_rfl) h

/- tollhouse/tollhouseref09.SameResponse -/
def ref09_SameResponse_sh (a : Value) (b : Value) (K : Bool → WP) : WP :=
 oR (vS (Instr.box 33 a)) fun a_1 =>
 oR (vS (Instr.box 33 b)) fun b_1 =>
 fI 33 a_1 0 3 .i64 fun t6 =>
 fI 33 b_1 0 3 .i64 fun t8 =>
 condK (t6 == t8)
 (fS 33 a_1 1 9 fun t12 =>
 fS 33 b_1 1 9 fun t14 =>
 oB (bS .eql 9 (.tmp 12) (.tmp 14) (.string t12) (.string t14)) fun t15 =>
 condK t15
 (fI 33 a_1 2 3 .i64 fun t19 =>
 fI 33 b_1 2 3 .i64 fun t21 =>
 condK (t19 == t21)
 (fR 33 a_1 3 30 fun t26 =>
 fR 33 b_1 3 30 fun t28 =>
 ref09_SameFields t26 t28 fun t29 =>
 condK t29
 (fR 33 a_1 4 31 fun t33 =>
 oS (vS (convert 31 9 t33)) fun t34 =>
 fR 33 b_1 4 31 fun t36 =>
 oS (vS (convert 31 9 t36)) fun t37 =>
 oB (bS .eql 9 (.tmp 34) (.tmp 37) (.string t34) (.string t37)) fun t38 =>
 K t38)
 (K false))
 (K false))
 (K false))
 (K false)
theorem ref09_SameResponse_ok {a : Value} {b : Value} {K : Bool → WP} (w : World) (h : ref09_SameResponse_sh a b K w) : ref09_SameResponse a b K w :=
  fn_ok cx_ok (hi := .l) (fn := Tryd.f28) Tryd.func28 (by kernel_rfl) h

end Go.Proofs.YtfofnagocedlgaaDoor
end
section
/-
  TEXT (layer 2): lower-case letters; the same; parts of texts.
-/
set_option maxRecDepth 100000
set_option linter.unusedVariables false
set_option linter.unusedSectionVars false
set_option linter.unusedSimpArgs false
set_option maxHeartbeats 0
namespace Go.Proofs.YtfofnagocedlgaaDoor.Tx
open Go Sh Sl
attribute [local irreducible] condK ArK NilK OpK FnK StK joinK loopK DrawK andK PuK NxK EnK vS uS bS callS invokeS
abbrev Bs := List UInt8
def lo (c : UInt8) : UInt8 := if 65 ≤ c.toNat ∧ c.toNat ≤ 90 then c + 32 else c
def lower (l : Bs) : Bs := l.map lo
@[simp] theorem lower_len (l : Bs) : (lower l).length = l.length := by simp [lower]
theorem lo_nat (c : UInt8) : (lo c).toNat = if 65 ≤ c.toNat ∧ c.toNat ≤ 90 then c.toNat + 32 else c.toNat := by
  unfold lo
  split
  · rename_i h
    rw [UInt8.toNat_add]
    have : (32 : UInt8).toNat = 32 := rfl
    omega
  · rfl
section
variable {e : Env} {ctx rest : List HProp}
theorem ixB {t : Nat} {k : IntKind} {i : Int} {l : Bs} {c : UInt8} {K : Int → WP} (h0 : 0 ≤ i) (hv : l[i.toNat]? = some c) (h : Ent e ctx (K c.toNat)) : Ent e ctx (OpK P (.one (.int .u8)) (vS (Instr.index 9 (.string (ba l)) (.int k i))) K) := by
  have hlt := (List.getElem?_eq_some_iff.1 hv).1
  have hsz : (ba l).size = l.length := by simp [ba, ByteArray.size]
  refine Ent.opI (st_ixS rfl h0 (by rw [hsz]; exact hlt)).still ?_
  have e1 : ((ba l)[i.toNat]'(by rw [hsz]; exact hlt)) = c := by
    have h1 : l[i.toNat]'hlt = c := (List.getElem?_eq_some_iff.1 hv).2
    rw [← h1]
    show (l.toArray)[i.toNat]'_ = _
    simp
  rw [e1]; exact h
theorem set_self {α : Type} {l : List α} {i : Nat} {v : α} (h : l[i]? = some v) : l.set i v = l := by
  apply List.ext_getElem?
  intro j
  rw [List.getElem?_set]
  split
  · rename_i he; subst he
    rw [h]; simp [(List.getElem?_eq_some_iff.1 h).1]
  · rfl
theorem u8_at {l : Bs} {i : Nat} {c : UInt8} (h : l[i]? = some c) : (u8 l)[i]? = some (.int .u8 c.toNat) := by simp [u8, h]
theorem lower_spec {K : ByteArray → WP} {l : Bs} (hl : l.length ≤ 1099511627776) (h : Ent e rest (K (ba (lower l)))) : Ent e rest (text_Lower (ba l) K) := by
  (refine Ent.fn text_Lower_ok ?_; unfold text_Lower_sh)
  refine Ent.s2b rfl rfl rfl (by omega) fun a c => ?_
  unfold BS
  (refine Ent.go ?_)
  refine Ent.rngL0 l.length (fun k => SlO a l.length c 1 (u8 ((l.take k).map lo ++ l.drop k)) :: rest) rfl ?_ ?_
  · simp only [List.take_zero, List.map_nil, List.nil_append, List.drop_zero]; exact Imp.refl _
  intro k hk K' hK
  by_cases hkn : k < l.length
  · obtain ⟨x, hx⟩ : ∃ x, l[k]? = some x := ⟨_, List.getElem?_eq_getElem hkn⟩
    have hd : l.drop k = x :: l.drop (k + 1) := by
      have hg := List.getElem?_eq_getElem hkn
      rw [hx] at hg
      rw [Option.some.inj hg, List.getElem_cons_drop]
    have ht : l.take (k + 1) = l.take k ++ [x] := by rw [List.take_add_one, hx]; rfl
    have hv : (u8 ((l.take k).map lo ++ l.drop k))[(k : Int).toNat]? = some (.int .u8 x.toNat) := by
      rw [Int.toNat_natCast]
      refine u8_at ?_
      rw [List.getElem?_append_right (by simp; omega), hd]
      have : k - ((l.take k).map lo).length = 0 := by simp; omega
      rw [this]; rfl
    refine Ent.wT ?_ (by simpa using hkn)
    refine Ent.rdS fun hrd _ => ?_
    refine Ent.wiIr (hrd _ (by (repeat (first | exact Has.hd | apply Has.tl)))) ?_ rfl rfl rfl (by omega) (by omega) hv
    have hxb := x.toNat_lt
    have hset : ∀ v : UInt8, v = lo x → ((u8 ((l.take k).map lo ++ l.drop k)).set (k : Int).toNat (.int .u8 v.toNat)) = u8 ((l.take (k + 1)).map lo ++ l.drop (k + 1)) := by
      intro v hvl
      rw [Int.toNat_natCast, hd, ht, hvl]
      simp only [u8, List.map_append, List.map_cons, List.map_nil, List.append_assoc, List.cons_append, List.nil_append]
      rw [List.set_append_right _ _ (by simp; omega)]
      have : k - ((List.map lo (l.take k)).map fun b => Value.int IntKind.u8 b.toNat).length = 0 := by simp; omega
      rw [this]; rfl
    refine Ent.join ?_
    by_cases h1 : 65 ≤ x.toNat
    · by_cases h2 : x.toNat ≤ 90
      · refine Ent.wT ?_ (decide_eq_true (by omega))
        refine Ent.wT ?_ (decide_eq_true (by omega))
        refine Ent.arw ?_
        refine Ent.arw ?_
        have e1 : (IntKind.u8.wrap (IntKind.u8.wrap ((x.toNat : Int) + 97) - 65) : Int) = ((lo x).toNat : Int) := by
          rw [lo_nat, if_pos ⟨h1, h2⟩]
          rw [wrap_in (show inR .u8 ((x.toNat : Int) + 97) from in_u8 (by omega) (by omega)), wrap_in (show inR .u8 ((x.toNat : Int) + 97 - 65) from in_u8 (by omega) (by omega))]
          omega
        rw [e1]
        refine Ent.wiWo ?_
        rw [hset _ rfl]
        (refine Ent.go ?_)
        exact hK hkn
      · (refine Ent.go ?_)
        have := hset x (by unfold lo; rw [if_neg (by omega)])
        have hself : (u8 ((l.take k).map lo ++ l.drop k)).set (k : Int).toNat (.int .u8 x.toNat) = u8 ((l.take k).map lo ++ l.drop k) := by
          exact set_self hv
        rw [hself] at this
        rw [this]
        exact hK hkn
    · (refine Ent.go ?_)
      have := hset x (by unfold lo; rw [if_neg (by omega)])
      have hself : (u8 ((l.take k).map lo ++ l.drop k)).set (k : Int).toNat (.int .u8 x.toNat) = u8 ((l.take k).map lo ++ l.drop k) := by
        exact set_self hv
      rw [hself] at this
      rw [this]
      exact hK hkn
  · have hkl : k = l.length := by omega
    subst hkl
    refine Ent.wF ?_ (by simp)
    rw [List.take_of_length_le (Nat.le_refl _), List.drop_eq_nil_of_le (Nat.le_refl _), List.append_nil]
    refine Ent.rdS fun hrd _ => ?_
    have e1 : (lower l).length = l.length := lower_len l
    have hst := st_b2s (e := e) (l := lower l) (c := c) (hrd (SlO a l.length c 1 (u8 (l.map lo)) :: rest) Has.hd) (s := 31) (x := 5) (d := 9) rfl rfl rfl
    rw [e1] at hst
    refine Ent.opS hst ?_
    exact Ent.imp (by (focus ((repeat ((with_reducible apply Imp.pick); (repeat (first | exact Pick.hd | apply Pick.tl)))); (repeat (first | exact Imp.refl _ | exact Imp.nil _ | apply Imp.drop)); done))) h
theorem same_spec {K : Bool → WP} {a b : Bs} (ha : a.length ≤ 1099511627776) (hb : b.length ≤ 1099511627776) (h : Ent e rest (K (decide (lower a = lower b)))) : Ent e rest (text_Same (ba a) (ba b) K) := by
  (refine Ent.fn text_Same_ok ?_; unfold text_Same_sh)
  refine lower_spec ha ?_
  refine lower_spec hb ?_
  (refine Ent.go ?_)
  have : decide (ba (lower a) = ba (lower b)) = decide (lower a = lower b) := by
    refine decide_eq_decide.2 ⟨fun h => ?_, fun h => by rw [h]⟩
    simpa [ba] using h
  rw [this]; exact h
end
end Go.Proofs.YtfofnagocedlgaaDoor.Tx
end
