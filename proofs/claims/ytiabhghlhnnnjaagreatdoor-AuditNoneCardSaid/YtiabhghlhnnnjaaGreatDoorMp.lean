/-
  MAPS: what a map's block holds ('Mp'), also while a range goes over it ('MpI'); the rules.
-/
import Derived.Test.YtiabhghlhnnnjaaGreatDoorRu
import Derived.MapKept
import Derived.Maps.RangeRun
set_option maxRecDepth 100000
set_option linter.unusedVariables false
set_option linter.unusedSectionVars false
set_option linter.unusedSimpArgs false
namespace Go.Proofs.YtiabhghlhnnnjaaGreatDoor.Sl
open Go Sh MapKept
/-- keys that are compared plainly -/
structure KeyF (α : Type) where
  f : α → Value
  d : TypeDesc
  ok : ∀ a, IsKey d (f a)
  inj : ∀ a b, f a = f b → a = b
def intK (k : IntKind) : KeyF Int := ⟨fun n => .int k n, .int k, fun _ => rfl, fun a b h => by cases h; rfl⟩
def strK : KeyF (List UInt8) := ⟨fun l => .string (ba l), .string, fun _ => trivial, fun a b h => by simp [ba] at h; exact h⟩
section plain
variable {α β : Type} [DecidableEq α]
def mfind (a : α) : List (α × β) → Option β
  | [] => none
  | p :: m => if p.1 = a then some p.2 else mfind a m
def mset (a : α) (b : β) : List (α × β) → List (α × β)
  | [] => [(a, b)]
  | p :: m => if p.1 = a then (p.1, b) :: m else p :: mset a b m
def mdel (a : α) : List (α × β) → List (α × β)
  | [] => []
  | p :: m => if p.1 = a then m else p :: mdel a m
theorem mfind_none {a : α} : ∀ {m : List (α × β)}, mfind a m = none → ∀ p ∈ m, p.1 ≠ a
  | [], _, p, hp => by cases hp
  | q :: m, h, p, hp => by
    simp only [mfind] at h
    split at h
    · cases h
    · rcases List.mem_cons.1 hp with rfl | hp
      · assumption
      · exact mfind_none h p hp
theorem mfind_mem {a : α} {b : β} : ∀ {m : List (α × β)}, mfind a m = some b → (a, b) ∈ m
  | [], h => by cases h
  | q :: m, h => by
    simp only [mfind] at h
    split at h
    · rename_i hq; cases h; subst hq; exact List.mem_cons_self
    · exact List.mem_cons_of_mem _ (mfind_mem h)
theorem mset_new {a : α} {b : β} : ∀ {m : List (α × β)}, mfind a m = none → mset a b m = m ++ [(a, b)]
  | [], _ => rfl
  | q :: m, h => by
    simp only [mfind] at h
    split at h
    · cases h
    · rename_i hq; simp only [mset, if_neg hq, mset_new h, List.cons_append]
end plain
section
variable {e : Env} {ctx ctx' : List HProp} {α β : Type} [DecidableEq α] {K : KeyF α} {vf : β → Value}
/-- the entries are these -/
def Al (K : KeyF α) (vf : β → Value) (l : List MapEntry) (m : List (α × β)) : Prop := l.map (fun x => (x.key, x.val)) = m.map fun p => (K.f p.1, vf p.2)
theorem now_eq (a b : α) : Instr.sameNow K.d (K.f a) (K.f b) = some (decide (a = b)) := by
  obtain ⟨r, h1, h2⟩ := sameNow_of_keys (K.ok a) (K.ok b)
  rw [h1]
  congr 1
  by_cases h : a = b
  · rw [decide_eq_true h, h2.2 (by rw [h])]
  · rw [decide_eq_false h]
    cases r with
    | false => rfl
    | true => exact absurd (K.inj _ _ (h2.1 rfl)) h
theorem now_m (a : α) : ∀ (l : List MapEntry) (m : List (α × β)) (i : Nat), Al K vf l m →
    (mfind a m = none → Instr.findNow K.d (K.f a) l i = some none) ∧
    (∀ b, mfind a m = some b → ∃ j x, Instr.findNow K.d (K.f a) l i = some (some (i + j, vf b)) ∧ l[j]? = some x ∧ x.key = K.f a)
  | [], [], i, _ => ⟨fun _ => rfl, fun b h => by cases h⟩
  | [], _ :: _, i, h => by simp [Al] at h
  | _ :: _, [], i, h => by simp [Al] at h
  | x :: l, p :: m, i, h => by
    simp only [Al, List.map_cons, List.cons.injEq, Prod.mk.injEq] at h
    obtain ⟨⟨h1, h2⟩, h3⟩ := h
    have ih := now_m a l m (i + 1) h3
    have hn := now_eq (K := K) a p.1
    rw [← h1] at hn
    by_cases hp : p.1 = a
    · subst hp
      simp only [decide_true] at hn
      constructor
      · intro h; simp [mfind] at h
      · intro b hb
        simp only [mfind, if_true, Option.some.injEq] at hb
        subst hb
        exact ⟨0, x, by simp [Instr.findNow, hn, h2], rfl, h1⟩
    · rw [decide_eq_false (Ne.symm hp)] at hn
      constructor
      · intro h
        simp only [mfind, if_neg hp] at h
        simp only [Instr.findNow, hn, ih.1 h]
      · intro b hb
        simp only [mfind, if_neg hp] at hb
        obtain ⟨j, y, g1, g2, g3⟩ := ih.2 b hb
        exact ⟨j + 1, y, by simp only [Instr.findNow, hn, g1]; congr 3; omega, by simpa using g2, g3⟩
theorem find_m {kt : TypeId} (hk : P.underlying kt = some K.d) {a : α} {es : Array MapEntry} {m : List (α × β)} (hm : Al K vf es.toList m) (w : World) :
    (mfind a m = none → (Instr.findKey kt (K.f a) es.toList).run P w = .ok none w) ∧
    (∀ b, mfind a m = some b → ∃ j x, (Instr.findKey kt (K.f a) es.toList).run P w = .ok (some (j, vf b)) w ∧ es.toList[j]? = some x ∧ x.key = K.f a) := by
  have h := now_m (K := K) (vf := vf) a es.toList m 0 hm
  constructor
  · intro hn; exact run_findKey hk (h.1 hn)
  · intro b hb
    obtain ⟨j, x, h1, h2, h3⟩ := h.2 b hb
    rw [Nat.zero_add] at h1
    exact ⟨j, x, run_findKey hk h1, h2, h3⟩
theorem check_m {kt : TypeId} (hk : P.underlying kt = some K.d) (a : α) (em : Bool) (w : World) : (Instr.checkKey em 10000 kt (K.f a)).run P w = .ok () w := run_checkKey hk (K.ok a) em 9999

/-- a map's block -/
def Mp (K : KeyF α) (vf : β → Value) (r : Nat) (m : List (α × β)) : HProp := fun h => ∃ arr ck, h r = some (.map arr ck) ∧ Stamped arr ck ∧ Al K vf arr.toList m
/-- a map and a range over it: the keys that have come -/
def MpI (K : KeyF α) (vf : β → Value) (r i : Nat) (m : List (α × β)) (dn : List α) : HProp := fun h => ∃ arr ck seen, h r = some (.map arr ck) ∧ h i = some (.mapIter (some r) ck seen ck) ∧ r ≠ i ∧ Stamped arr ck ∧ Al K vf arr.toList m ∧
  ∃ de : List MapEntry, (∀ x ∈ de, x ∈ arr.toList) ∧ seen.toList = de.map (·.born) ∧ de.map (·.key) = dn.map K.f
theorem Has.mp {r : Nat} {m : List (α × β)} {w : World} (hh : Has ctx (Mp K vf r m)) (hw : Sat e (sepL ctx) w) : ∃ arr ck, w.heap[r]? = some (.map arr ck) ∧ Stamped arr ck ∧ Al K vf arr.toList m := by
  obtain ⟨h, hl, arr, ck, h1, h2⟩ := hh.at_ hw
  exact ⟨arr, ck, hl _ _ h1, h2⟩
theorem Has.mpi {r i : Nat} {m : List (α × β)} {dn : List α} {w : World} (hh : Has ctx (MpI K vf r i m dn)) (hw : Sat e (sepL ctx) w) : ∃ arr ck seen, w.heap[r]? = some (.map arr ck) ∧ w.heap[i]? = some (.mapIter (some r) ck seen ck) ∧ r ≠ i ∧ Stamped arr ck ∧ Al K vf arr.toList m ∧
    ∃ de : List MapEntry, (∀ x ∈ de, x ∈ arr.toList) ∧ seen.toList = de.map (·.born) ∧ de.map (·.key) = dn.map K.f := by
  obtain ⟨h, hl, arr, ck, seen, h1, h2, h3⟩ := hh.at_ hw
  exact ⟨arr, ck, seen, hl _ _ h1, hl _ _ h2, h3⟩
/-- one block of a part turns -/
theorem Sat.turn2 {A B : HProp} {w w' : World} {b : Nat} {o' : Obj} (h : Sat e (sepL (A :: ctx)) w) (hA : ∀ g, A g → Hp.le g (hpOf w) → (∃ o, g b = some o) ∧ B (fun i => if i = b then some o' else g i))
    (h1 : w'.os = w.os) (h2 : w'.tape = w.tape) (h3 : w'.output = w.output) (hb : w'.heap[b]? = some o') (hr : ∀ i, i ≠ b → w'.heap[i]? = w.heap[i]?) : Sat e (sepL (B :: ctx)) w' := by
  obtain ⟨g1, g2, hd, l1, l2, a, r⟩ := h.heap
  obtain ⟨⟨o, hg⟩, hB⟩ := hA _ a l1
  have hg2 : g2 b = none := by
    rcases hd b with x | x
    · rw [hg] at x; cases x
    · exact x
  refine ⟨h1.trans h.os, h2.trans h.tape, h3.trans h.output, _, g2, fun i => ?_, fun i x hx => ?_, fun i x hx => ?_, hB, r⟩
  · by_cases hi : i = b
    · subst hi; exact .inr hg2
    · rcases hd i with y | y
      · exact .inl (by simp [hi, y])
      · exact .inr y
  · by_cases hi : i = b
    · subst hi; simp only [if_true] at hx; cases hx; exact hb
    · simp only [hi, if_false] at hx
      show w'.heap[i]? = some x
      rw [hr i hi]; exact l1 i x hx
  · have hi : i ≠ b := by intro e; subst e; rw [hg2] at hx; cases hx
    show w'.heap[i]? = some x
    rw [hr i hi]; exact l2 i x hx
theorem Ent.mmake {t : Nat} {c : Value → WP} (K : KeyF α) (vf : β → Value) (h : ∀ r, Ent e (Mp K vf r [] :: ctx) (c (.map (some r)))) : Ent e ctx (OpK P (.one .raw) (vS (Instr.makeMap t none)) c) := Ent.act fun w hw => by
  refine ⟨.map (some w.heap.size), w.alloc (.map #[] 0), .inl (run_vS ?_), _, rfl, h w.heap.size _ ?_⟩
  · rfl
  · exact (hw.alloc (.map #[] 0)).imp fun _ k => sepL_cons (fun g hg => ⟨#[], 0, hg, stamped_empty 0, rfl⟩) (fun _ x => x) k
/-- the value that a map has of no key -/
noncomputable def zv (t : TypeId) : Option Value := (P.info? t).bind (·.zero)
theorem zv_run {t : TypeId} {z : Value} (h : zv t = some z) (w : World) : (zeroValue t).run P w = .ok z w := by
  unfold zv at h
  cases hi : P.info? t with
  | none => simp [hi] at h
  | some i => rw [hi] at h; exact run_zero hi h w
theorem run_getT {t kt vt r : Nat} {m : List (α × β)} {a : α} {b : β} {w : World} {co : Bool} (ht : dd t = some (.mp kt vt)) (hk : P.underlying kt = some K.d) (hh : Has ctx (Mp K vf r m)) (hw : Sat e (sepL ctx) w) (hb : mfind a m = some b) :
    (Instr.lookup t (.map (some r)) (K.f a) co).run P w = .ok (if co then .tuple #[vf b, .bool true] else vf b) w := by
  obtain ⟨arr, ck, h1, h2, h3⟩ := hh.mp hw
  obtain ⟨j, x, g1, _⟩ := (find_m hk (a := a) h3 w).2 b hb
  simp only [Instr.lookup, Sem.run_bind, run_underlying (dd_mp ht), Result.andThen_ok, MapKept.run_getObj_map h1, Sem.run_pure, check_m hk, g1]
theorem run_getF {t kt vt r : Nat} {m : List (α × β)} {a : α} {z : Value} {w : World} {co : Bool} (ht : dd t = some (.mp kt vt)) (hk : P.underlying kt = some K.d) (hh : Has ctx (Mp K vf r m)) (hw : Sat e (sepL ctx) w) (hb : mfind a m = none) (hz : zv vt = some z) :
    (Instr.lookup t (.map (some r)) (K.f a) co).run P w = .ok (if co then .tuple #[z, .bool false] else z) w := by
  obtain ⟨arr, ck, h1, h2, h3⟩ := hh.mp hw
  have g1 := (find_m hk (a := a) h3 w).1 hb
  simp only [Instr.lookup, Sem.run_bind, run_underlying (dd_mp ht), Result.andThen_ok, MapKept.run_getObj_map h1, Sem.run_pure, check_m hk, g1, zv_run hz]
theorem st_mgetT {t kt vt r : Nat} {m : List (α × β)} {a : α} {b : β} (hh : Has ctx (Mp K vf r m)) (ht : dd t = some (.mp kt vt)) (hk : P.underlying kt = some K.d) (hb : mfind a m = some b) :
    Still e ctx (vS (Instr.lookup t (.map (some r)) (K.f a) false)) (vf b) := fun w hw => run_vS (by simpa using run_getT (co := false) ht hk hh hw hb)
theorem st_mgetF {t kt vt r : Nat} {m : List (α × β)} {a : α} {z : Value} (hh : Has ctx (Mp K vf r m)) (ht : dd t = some (.mp kt vt)) (hk : P.underlying kt = some K.d) (hb : mfind a m = none) (hz : zv vt = some z) :
    Still e ctx (vS (Instr.lookup t (.map (some r)) (K.f a) false)) z := fun w hw => run_vS (by simpa using run_getF (co := false) ht hk hh hw hb hz)
theorem Ent.mget2 {t kt vt r : Nat} {m : List (α × β)} {a : α} {z : Value} {c : Value → Bool → WP} (hh : Has ctx (Mp K vf r m)) (ht : dd t = some (.mp kt vt)) (hk : P.underlying kt = some K.d) (hz : zv vt = some z)
    (h1 : ∀ b, mfind a m = some b → Ent e ctx (c (vf b) true)) (h0 : mfind a m = none → Ent e ctx (c z false)) : Ent e ctx (OpK P (.tup [.raw, .bool]) (vS (Instr.lookup t (.map (some r)) (K.f a) true)) c) := fun w hw => by
  show NextK P _ _ w
  unfold NextK
  cases hb : mfind a m with
  | some b =>
    rw [run_vS (run_getT (co := true) ht hk hh hw hb)]
    exact ⟨_, true, rfl, h1 b hb w hw⟩
  | none =>
    rw [run_vS (run_getF (co := true) ht hk hh hw hb hz)]
    exact ⟨_, false, rfl, h0 hb w hw⟩
theorem al_set {a : α} {b : β} : ∀ (l : List MapEntry) (m : List (α × β)) (j : Nat) (x : MapEntry), (l.map (·.key)).Nodup → Al K vf l m → l[j]? = some x → x.key = K.f a → Al K vf (l.modify j fun x => { x with key := K.f a, val := vf b }) (mset a b m)
  | [], _, j, x, _, _, hx, _ => by simp at hx
  | _ :: _, [], _, _, _, h, _, _ => by simp [Al] at h
  | y :: l, p :: m, 0, x, hn, h, hx, hk => by
    simp only [List.getElem?_cons_zero, Option.some.injEq] at hx
    subst hx
    simp only [Al, List.map_cons, List.cons.injEq, Prod.mk.injEq] at h
    obtain ⟨⟨h1, h2⟩, h3⟩ := h
    have hp : p.1 = a := K.inj _ _ (h1.symm.trans hk)
    have e1 : mset a b (p :: m) = (p.1, b) :: m := by simp only [mset, if_pos hp]
    simp only [Al, e1, List.modify_zero_cons, List.map_cons, h3, hp]
  | y :: l, p :: m, j + 1, x, hn, h, hx, hk => by
    simp only [List.getElem?_cons_succ] at hx
    simp only [Al, List.map_cons, List.cons.injEq, Prod.mk.injEq] at h
    obtain ⟨⟨h1, h2⟩, h3⟩ := h
    simp only [List.map_cons, List.nodup_cons] at hn
    have hp : p.1 ≠ a := by
      intro hp
      refine hn.1 ?_
      rw [h1, hp, ← hk]
      exact List.mem_map.2 ⟨x, List.mem_of_getElem? hx, rfl⟩
    have ih := al_set (b := b) l m j x hn.2 h3 hx hk
    simp only [Al] at ih
    simp only [Al, mset, if_neg hp, List.modify_succ_cons, List.map_cons, h1, h2, ih]
theorem al_del {a : α} : ∀ (l : List MapEntry) (m : List (α × β)) (j : Nat) (x : MapEntry), (l.map (·.key)).Nodup → Al K vf l m → l[j]? = some x → x.key = K.f a → Al K vf (l.eraseIdx j) (mdel a m)
  | [], _, j, x, _, _, hx, _ => by simp at hx
  | _ :: _, [], _, _, _, h, _, _ => by simp [Al] at h
  | y :: l, p :: m, 0, x, hn, h, hx, hk => by
    simp only [List.getElem?_cons_zero, Option.some.injEq] at hx
    subst hx
    simp only [Al, List.map_cons, List.cons.injEq, Prod.mk.injEq] at h
    obtain ⟨⟨h1, h2⟩, h3⟩ := h
    have hp : p.1 = a := K.inj _ _ (h1.symm.trans hk)
    simp only [Al, mdel, if_pos hp, List.eraseIdx_cons_zero]
    exact h3
  | y :: l, p :: m, j + 1, x, hn, h, hx, hk => by
    simp only [List.getElem?_cons_succ] at hx
    simp only [Al, List.map_cons, List.cons.injEq, Prod.mk.injEq] at h
    obtain ⟨⟨h1, h2⟩, h3⟩ := h
    simp only [List.map_cons, List.nodup_cons] at hn
    have hp : p.1 ≠ a := by
      intro hp
      refine hn.1 ?_
      rw [h1, hp, ← hk]
      exact List.mem_map.2 ⟨x, List.mem_of_getElem? hx, rfl⟩
    have ih := al_del l m j x hn.2 h3 hx hk
    simp only [Al] at ih
    simp only [Al, mdel, if_neg hp, List.eraseIdx_cons_succ, List.map_cons, h1, h2, ih]
theorem mdel_none {a : α} : ∀ {m : List (α × β)}, mfind a m = none → mdel a m = m
  | [], _ => rfl
  | q :: m, h => by
    simp only [mfind] at h
    split at h
    · cases h
    · rename_i hq; simp only [mdel, if_neg hq, mdel_none h]
theorem same_refl (K : KeyF α) (a : α) : Instr.sameBits 10000 (K.f a) (K.f a) = true := by
  have := K.ok a
  cases hd : K.d <;> cases hv : K.f a <;> rw [hd, hv] at this <;> simp_all [IsKey, Instr.sameBits]
  exact (bytes_beq _ _).2 rfl
theorem run_setM {t kt vt r : Nat} {m : List (α × β)} {a : α} {b : β} {w : World} {arr : Array MapEntry} {ck : Nat} (ht : dd t = some (.mp kt vt)) (hk : P.underlying kt = some K.d) (h1 : w.heap[r]? = some (.map arr ck)) (h2 : Stamped arr ck) (h3 : Al K vf arr.toList m) :
    ∃ arr' ck', (Instr.mapUpdate t (.map (some r)) (K.f a) (vf b)).run P w = .ok () { w with heap := w.heap.setIfInBounds r (.map arr' ck') } ∧ Stamped arr' ck' ∧ Al K vf arr'.toList (mset a b m) ∧
      ((∃ b', mfind a m = some b') → ck' = ck ∧ ∃ j x, arr.toList[j]? = some x ∧ x.key = K.f a ∧ arr' = arr.modify j fun x => { x with key := K.f a, val := vf b }) := by
  cases hb : mfind a m with
  | none =>
    have g1 := (find_m hk (a := a) h3 w).1 hb
    refine ⟨arr.push ⟨K.f a, vf b, ck⟩, ck + 1, ?_, stamped_push h2 ?_, ?_, fun ⟨_, h⟩ => by cases h⟩
    · simp only [Instr.mapUpdate, Sem.run_bind, run_underlying (dd_mp ht), Result.andThen_ok, MapKept.run_getObj_map h1, check_m hk, g1, MapKept.run_setObj_map _ h1]
    · intro x hx
      have hne := mfind_none hb
      have hm : (x.key, x.val) ∈ arr.toList.map (fun x => (x.key, x.val)) := List.mem_map.2 ⟨x, hx, rfl⟩
      rw [h3] at hm
      obtain ⟨p, hp, hpe⟩ := List.mem_map.1 hm
      simp only [Prod.mk.injEq] at hpe
      rw [← hpe.1]
      exact fun he => hne p hp (K.inj _ _ he)
    · rw [mset_new hb]
      simp only [Al, Array.toList_push, List.map_append, List.map_cons, List.map_nil]
      rw [h3]
  | some b' =>
    obtain ⟨j, x, g1, g2, g3⟩ := (find_m hk (a := a) h3 w).2 b' hb
    refine ⟨arr.modify j fun x => { x with key := K.f a, val := vf b }, ck, ?_, stamped_modify h2 j _ (fun _ _ => rfl) (fun y hy hj => ?_), ?_, fun _ => ⟨rfl, j, x, g2, g3, rfl⟩⟩
    · have hx : ((arr[j]?).map (·.key)).getD (K.f a) = K.f a := by
        rw [← Array.getElem?_toList, g2]; exact g3
      simp only [Instr.mapUpdate, Sem.run_bind, run_underlying (dd_mp ht), Result.andThen_ok, MapKept.run_getObj_map h1, check_m hk, g1, hx, Instr.keyThatStays, same_refl, if_true, Sem.run_pure, MapKept.run_setObj_map _ h1]
    · rw [← Array.getElem?_toList] at hj
      rw [g2] at hj
      cases hj
      exact g3.symm
    · rw [Array.toList_modify]
      exact al_set _ _ j x h2.2.2 h3 g2 g3
theorem Ent.mset {t kt vt r : Nat} {m : List (α × β)} {a : α} {b : β} {c : Value → WP} (hu : Upd ctx (Mp K vf r m) (Mp K vf r (Sl.mset a b m)) ctx') (ht : dd t = some (.mp kt vt)) (hk : P.underlying kt = some K.d) (h : Ent e ctx' (c undef)) :
    Ent e ctx (OpK P (.one .raw) (uS (Instr.mapUpdate t (.map (some r)) (K.f a) (vf b))) c) := Ent.act fun w hw => by
  obtain ⟨s, hp, hq⟩ := hu.pick
  have hw2 := hw.imp (sepL_perm hp.perm)
  obtain ⟨arr, ck, h1, h2, h3⟩ := Has.mp .hd hw2
  obtain ⟨arr', ck', g1, g2, g3, _⟩ := run_setM (a := a) (b := b) ht hk h1 h2 h3
  refine ⟨undef, _, .inr ⟨run_uS g1, rfl⟩, _, rfl, h _ ?_⟩
  have hs := heap_set (o' := .map arr' ck') h1
  have := Sat.turn2 (B := Mp K vf r (Sl.mset a b m)) (w' := { w with heap := w.heap.setIfInBounds r (.map arr' ck') }) (b := r) (o' := .map arr' ck') hw2
    (fun g ⟨x, y, hg, _⟩ _ => ⟨⟨_, hg⟩, arr', ck', by simp, g2, g3⟩) rfl rfl rfl hs.1 hs.2
  exact this.imp (sepL_perm hq.symm)
theorem Ent.mdel {t kt vt r y : Nat} {ts : Nat} {m : List (α × β)} {a : α} {c : Value → WP} (hu : Upd ctx (Mp K vf r m) (Mp K vf r (Sl.mdel a m)) ctx') (ht : dd t = some (.mp kt vt)) (hk : P.underlying kt = some K.d) (h : Ent e ctx' (c (.tuple #[]))) :
    Ent e ctx (OpK P (.one .raw) (vS (Builtin.delete_ #[t, ts] y #[.map (some r), K.f a])) c) := Ent.act fun w hw => by
  obtain ⟨s, hp, hq⟩ := hu.pick
  have hw2 := hw.imp (sepL_perm hp.perm)
  obtain ⟨arr, ck, h1, h2, h3⟩ := Has.mp .hd hw2
  cases hb : mfind a m with
  | none =>
    have g1 := (find_m hk (a := a) h3 w).1 hb
    refine ⟨.tuple #[], { w with heap := w.heap.setIfInBounds r (.map arr ck) }, .inl (run_vS ?_), _, rfl, h _ ?_⟩
    · simp only [Builtin.delete_, List.getElem?_toArray, List.getElem?_cons_zero, List.getElem?_cons_succ, Sem.run_bind, run_underlying (dd_mp ht), Result.andThen_ok, MapKept.run_getObj_map h1, check_m hk, g1, MapKept.run_setObj_map _ h1, Sem.run_pure]
    · have hs := heap_set (o' := .map arr ck) h1
      have := Sat.turn2 (B := Mp K vf r (Sl.mdel a m)) (w' := { w with heap := w.heap.setIfInBounds r (.map arr ck) }) (b := r) (o' := .map arr ck) hw2
        (fun g ⟨x, y, hg, _⟩ _ => ⟨⟨_, hg⟩, arr, ck, by simp, h2, by rw [mdel_none hb]; exact h3⟩) rfl rfl rfl hs.1 hs.2
      exact this.imp (sepL_perm hq.symm)
  | some b' =>
    obtain ⟨j, x, g1, g2, g3⟩ := (find_m hk (a := a) h3 w).2 b' hb
    refine ⟨.tuple #[], { w with heap := w.heap.setIfInBounds r (.map (arr.eraseIdxIfInBounds j) ck) }, .inl (run_vS ?_), _, rfl, h _ ?_⟩
    · simp only [Builtin.delete_, List.getElem?_toArray, List.getElem?_cons_zero, List.getElem?_cons_succ, Sem.run_bind, run_underlying (dd_mp ht), Result.andThen_ok, MapKept.run_getObj_map h1, check_m hk, g1, MapKept.run_setObj_map _ h1, Sem.run_pure]
    · have hs := heap_set (o' := .map (arr.eraseIdxIfInBounds j) ck) h1
      have hj : j < arr.size := by simpa using (List.getElem?_eq_some_iff.1 g2).1
      have e1 : (arr.eraseIdxIfInBounds j).toList = arr.toList.eraseIdx j := by
        unfold Array.eraseIdxIfInBounds
        rw [dif_pos hj, Array.toList_eraseIdx]
      have := Sat.turn2 (B := Mp K vf r (Sl.mdel a m)) (w' := { w with heap := w.heap.setIfInBounds r (.map (arr.eraseIdxIfInBounds j) ck) }) (b := r) (o' := .map (arr.eraseIdxIfInBounds j) ck) hw2
        (fun g ⟨x, y, hg, _⟩ _ => ⟨⟨_, hg⟩, arr.eraseIdxIfInBounds j, ck, by simp, stamped_erase h2 j, by rw [e1]; exact al_del _ _ j _ h2.2.2 h3 g2 g3⟩) rfl rfl rfl hs.1 hs.2
      exact this.imp (sepL_perm hq.symm)
theorem Ent.mrange {t kt vt r : Nat} {m : List (α × β)} {c : Value → WP} (hp : Pick ctx (Mp K vf r m) ctx') (ht : dd t = some (.mp kt vt)) (h : ∀ i, Ent e (MpI K vf r i m [] :: ctx') (c (.pointer (some ⟨i, 0, none⟩)))) :
    Ent e ctx (OpK P (.one .raw) (vS (Instr.range t (.map (some r)))) c) := Ent.act fun w hw => by
  have hw2 := hw.imp (sepL_perm hp.perm)
  obtain ⟨arr, ck, h1, h2, h3⟩ := Has.mp .hd hw2
  refine ⟨.pointer (some ⟨w.heap.size, 0, none⟩), w.alloc (.mapIter (some r) ck #[] ck), .inl (run_vS ?_), _, rfl, h w.heap.size _ ?_⟩
  · simp only [Instr.range, Sem.run_bind, run_underlying (dd_mp ht), Result.andThen_ok, MapKept.run_getObj_map h1, Sem.run_pure]
    rfl
  · obtain ⟨q1, q2, hd, l1, l2, ⟨arr2, ck2, p1, p2, p3⟩, hr⟩ := hw2.heap
    have hlt : ∀ j o, w.heap[j]? = some o → (w.alloc (.mapIter (some r) ck #[] ck)).heap[j]? = some o := fun j o ho => by
      have := (heap_alloc w (.mapIter (some r) ck #[] ck)).2 j (Array.getElem?_eq_some_iff.1 ho).1
      rw [this]; exact ho
    have he : w.heap[r]? = some (.map arr2 ck2) := l1 _ _ p1
    rw [h1] at he
    cases he
    have hne : r ≠ w.heap.size := Nat.ne_of_lt (Array.getElem?_eq_some_iff.1 h1).1
    refine ⟨hw2.os, hw2.tape, hw2.output, fun j => if j = w.heap.size then some (.mapIter (some r) ck #[] ck) else q1 j, q2, fun j => ?_, fun j o ho => ?_, fun j o ho => hlt _ _ (l2 _ _ ho), ?_, hr⟩
    · by_cases hj : j = w.heap.size
      · refine .inr ?_
        cases hq : q2 j with
        | none => rfl
        | some o => have := (Array.getElem?_eq_some_iff.1 (l2 _ _ hq)).1; omega
      · rcases hd j with x | x
        · exact .inl (by simp [hj, x])
        · exact .inr x
    · by_cases hj : j = w.heap.size
      · subst hj; simp only [if_true] at ho; cases ho; exact (heap_alloc w _).1
      · simp only [hj, if_false] at ho; exact hlt _ _ (l1 _ _ ho)
    · exact ⟨arr, ck, #[], by simp [hne, p1], by simp, hne, h2, h3, [], by simp, by simp, by simp⟩
theorem MpI.imp {r i : Nat} {m : List (α × β)} {dn : List α} : Imp (MpI K vf r i m dn :: ctx) (Mp K vf r m :: ctx) := fun _ k =>
  sepL_cons (fun h ⟨arr, ck, _, h1, _, _, h2, h3, _⟩ => ⟨arr, ck, h1, h2, h3⟩) (fun _ z => z) k
theorem al_mem {l : List MapEntry} {m : List (α × β)} (h : Al K vf l m) {x : MapEntry} (hx : x ∈ l) : ∃ a b, (a, b) ∈ m ∧ x.key = K.f a ∧ x.val = vf b := by
  have hm : (x.key, x.val) ∈ l.map (fun x => (x.key, x.val)) := List.mem_map.2 ⟨x, hx, rfl⟩
  rw [h] at hm
  obtain ⟨p, hp, hpe⟩ := List.mem_map.1 hm
  simp only [Prod.mk.injEq] at hpe
  exact ⟨p.1, p.2, hp, hpe.1.symm, hpe.2.symm⟩
theorem al_mem' {l : List MapEntry} {m : List (α × β)} (h : Al K vf l m) {a : α} {b : β} (hx : (a, b) ∈ m) : ∃ x ∈ l, x.key = K.f a ∧ x.val = vf b := by
  have hm : (K.f a, vf b) ∈ m.map (fun p => (K.f p.1, vf p.2)) := List.mem_map.2 ⟨_, hx, rfl⟩
  rw [← h] at hm
  obtain ⟨p, hp, hpe⟩ := List.mem_map.1 hm
  simp only [Prod.mk.injEq] at hpe
  exact ⟨p, hp, hpe.1, hpe.2⟩
theorem key_uniq {l : List MapEntry} (hn : (l.map (·.key)).Nodup) {x y : MapEntry} (hx : x ∈ l) (hy : y ∈ l) (h : x.key = y.key) : x = y := by
  induction l with
  | nil => cases hx
  | cons z l ih =>
    simp only [List.map_cons, List.nodup_cons] at hn
    rcases List.mem_cons.1 hx with rfl | hx <;> rcases List.mem_cons.1 hy with rfl | hy
    · rfl
    · exact absurd (List.mem_map.2 ⟨y, hy, h.symm⟩) hn.1
    · exact absurd (List.mem_map.2 ⟨x, (by assumption : x ∈ l), h⟩) hn.1
    · exact ih hn.2 hx hy
theorem born_uniq {l : List MapEntry} (hn : (l.map (·.born)).Nodup) {x y : MapEntry} (hx : x ∈ l) (hy : y ∈ l) (h : x.born = y.born) : x = y := by
  induction l with
  | nil => cases hx
  | cons z l ih =>
    simp only [List.map_cons, List.nodup_cons] at hn
    rcases List.mem_cons.1 hx with rfl | hx <;> rcases List.mem_cons.1 hy with rfl | hy
    · rfl
    · exact absurd (List.mem_map.2 ⟨y, hy, h.symm⟩) hn.1
    · exact absurd (List.mem_map.2 ⟨x, (by assumption : x ∈ l), h⟩) hn.1
    · exact ih hn.2 hx hy
theorem Ent.mnext {r i ty : Nat} {m : List (α × β)} {dn : List α} {c0 : WP} {c1 : Value → Value → WP} (hp : Pick ctx (MpI K vf r i m dn) ctx')
    (h0 : (∀ a b, (a, b) ∈ m → a ∈ dn) → Ent e (MpI K vf r i m dn :: ctx') c0)
    (h1 : ∀ a b, (a, b) ∈ m → a ∉ dn → Ent e (MpI K vf r i m (dn ++ [a]) :: ctx') (c1 (K.f a) (vf b))) :
    Ent e ctx (NxK P (vS (Instr.next (.pointer (some ⟨i, 0, none⟩)) false ty)) .raw .raw c0 c1) := fun w hw => by
  have hw2 := hw.imp (sepL_perm hp.perm)
  obtain ⟨arr, ck, seen, g1, g2, hne, g3, g4, de, g5, g6, g7⟩ := Has.mpi .hd hw2
  unfold NxK NextK
  have hmem : ∀ b, seen.contains b = true ↔ b ∈ de.map (·.born) := fun b => by rw [Array.contains_iff_mem, ← Array.mem_toList_iff, g6]
  rcases run_next_at (P := P) w ty i r ck ck seen arr ck g2 g1 g3.1 (Nat.le_refl _) with ⟨hz, hrun⟩ | ⟨x, hx, w1, hw1, hrun⟩
  · rw [run_vS hrun]
    refine .inl ⟨rfl, h0 (fun a b hab => ?_) w hw2⟩
    obtain ⟨x, hx, hk, _⟩ := al_mem' g4 hab
    have hc : seen.contains x.born = true := by
      cases hc : seen.contains x.born with
      | true => rfl
      | false =>
        exfalso
        have : x ∈ leftOf arr seen := by
          unfold leftOf
          rw [Array.mem_filter]
          exact ⟨Array.mem_toList_iff.1 hx, by rw [hc]; rfl⟩
        rw [Array.eq_empty_of_size_eq_zero hz] at this
        simp at this
    obtain ⟨y, hy, hyb⟩ := List.mem_map.1 ((hmem _).1 hc)
    have := born_uniq g3.2.1 (g5 y hy) hx hyb
    subst this
    have hky : y.key ∈ de.map (·.key) := List.mem_map.2 ⟨y, hy, rfl⟩
    rw [g7] at hky
    obtain ⟨a', ha', hke⟩ := List.mem_map.1 hky
    have := K.inj _ _ (hke.trans hk)
    subst this
    exact ha'
  · rw [run_vS hrun]
    have hx2 : x ∈ arr.toList ∧ seen.contains x.born = false := by
      rw [Array.mem_toList_iff] at hx
      unfold leftOf at hx
      rw [Array.mem_filter] at hx
      exact ⟨Array.mem_toList_iff.2 hx.1, by simpa using hx.2⟩
    obtain ⟨a, b, hab, hk, hv⟩ := al_mem g4 hx2.1
    refine .inr ⟨x.key, x.val, rfl, ?_⟩
    rw [hk, hv]
    have hnd : a ∉ dn := by
      intro hd
      have hm : K.f a ∈ dn.map K.f := List.mem_map.2 ⟨a, hd, rfl⟩
      rw [← g7] at hm
      obtain ⟨y, hy, hyk⟩ := List.mem_map.1 hm
      have := key_uniq g3.2.2 (g5 y hy) hx2.1 (hyk.trans hk.symm)
      subst this
      have := (hmem y.born).2 (List.mem_map.2 ⟨y, hy, rfl⟩)
      rw [hx2.2] at this; cases this
    refine h1 a b hab hnd _ ?_
    have hw3 : Sat e (sepL (MpI K vf r i m dn :: ctx')) w1 := by rcases hw1 with rfl | rfl; exact hw2; exact hw2.drawn _
    have g2' : w1.heap[i]? = some (.mapIter (some r) ck seen ck) := by rcases hw1 with rfl | rfl <;> exact g2
    have g1' : w1.heap[r]? = some (.map arr ck) := by rcases hw1 with rfl | rfl <;> exact g1
    have hs := heap_set (o' := .mapIter (some r) ck (seen.push x.born) ck) g2'
    refine Sat.turn2 (b := i) (o' := .mapIter (some r) ck (seen.push x.born) ck) hw3 (fun g hA hl => ?_) rfl rfl rfl hs.1 hs.2
    obtain ⟨arr', ck', seen', p1, p2, _⟩ := hA
    have q1 := hl _ _ p1
    have q1' : w1.heap[r]? = some (.map arr' ck') := q1
    rw [g1'] at q1'
    cases q1'
    exact ⟨⟨_, p2⟩, arr, ck, seen.push x.born, by simp [hne, p1], by simp, hne, g3, g4, de ++ [x], fun y hy => by
      rcases List.mem_append.1 hy with hy | hy
      · exact g5 y hy
      · rw [List.mem_singleton.1 hy]; exact hx2.1, by simp [g6], by simp [g7, hk]⟩
theorem Ent.mentry {r i : Nat} {m : List (α × β)} {dn : List α} {a : α} {b : β} {k1 k2 : Kd} {x : k1.T} {y : k2.T} {c : k1.T → k2.T → WP} (hh : Has ctx (MpI K vf r i m (dn ++ [a]))) (hm : (a, b) ∈ m) (hx : K.f a = k1.mk x) (hy : vf b = k2.mk y) (h : Ent e ctx (c x y)) :
    Ent e ctx (EnK P (vS (Instr.entry (.pointer (some ⟨i, 0, none⟩)))) k1 k2 c) := fun w hw => by
  obtain ⟨arr, ck, seen, g1, g2, hne, g3, g4, de, g5, g6, g7⟩ := Has.mpi hh hw
  rw [List.map_append, List.map_cons, List.map_nil] at g7
  obtain ⟨de', ds, rfl, e1, e2⟩ := List.map_eq_append_iff.1 g7
  obtain ⟨z, zs, rfl, e3, e4⟩ := List.map_eq_cons_iff.1 e2
  have hzs : zs = [] := by simpa using e4
  subst hzs
  obtain ⟨x0, hx0, k0, v0⟩ := al_mem' g4 hm
  have hz : z ∈ arr.toList := g5 z (by simp)
  have := key_uniq g3.2.2 hz hx0 (e3.trans k0.symm)
  subst this
  have hseen : seen = (de'.map (·.born)).toArray.push z.born := by
    apply Array.toList_inj.1
    rw [g6]; simp
  rw [hseen] at g2
  have hrun := run_entry_at (P := P) w i r ck _ arr ck z g2 g1 hz g3.2.1
  unfold EnK NextK
  rw [run_vS hrun]
  exact ⟨x, y, by rw [k0, v0, hx, hy], h w hw⟩
theorem Ent.mclone {f t r : Nat} {m : List (α × β)} {c : Value → WP} (hx : ∀ args w, (callFunc f args).run P w = (vS (Extern.MapsClone.clone args)).run P w) (hh : Has ctx (Mp K vf r m)) (h : ∀ r', Ent e (Mp K vf r' m :: ctx) (c (.iface t (.map (some r'))))) :
    Ent e ctx (OpK P (.one .raw) (callFunc f #[.iface t (.map (some r))]) c) := Ent.act fun w hw => by
  obtain ⟨arr, ck, h1, h2, h3⟩ := hh.mp hw
  refine ⟨.iface t (.map (some w.heap.size)), w.alloc (.map arr ck), .inl ?_, _, rfl, h w.heap.size _ ?_⟩
  · rw [hx]
    refine run_vS ?_
    have e1 : Extern.MapsClone.clone #[.iface t (.map (some r))] = (getObj r >>= fun o => match o with
      | .map entries clock => do pure (.iface t (.map (some (← newObj (.map entries clock)))))
      | _ => stuck "maps.clone: a map expected") := rfl
    rw [e1]
    simp only [Sem.run_bind, MapKept.run_getObj_map h1, Result.andThen_ok]
    rfl
  · exact (hw.alloc (.map arr ck)).imp fun _ k => sepL_cons (fun g hg => ⟨arr, ck, hg, h2, h3⟩) (fun _ x => x) k
theorem st_iface {t k x : TypeId} {v : Value} (ht : dd t = some (.mp k x)) : Pu (vS (Instr.makeInterface t v)) (.iface t v) := Still.of_run fun w => by
  simp only [Instr.makeInterface, Sem.run_bind, run_underlying (dd_mp ht), Result.andThen_ok]
  rfl
theorem st_assertM {t k x y : TypeId} {v : Value} (ht : dd t = some (.mp k x)) : Pu (vS (Instr.typeAssert (.iface t v) y t false)) v := Still.of_run fun w => by
  simp only [Instr.typeAssert, Sem.run_bind, run_underlying (dd_mp ht), Result.andThen_ok, if_true]
  rfl
theorem Ent.mlen {t kt vt r y : Nat} {m : List (α × β)} {c : Int → WP} (hh : Has ctx (Mp K vf r m)) (ht : dd t = some (.mp kt vt)) (h : Ent e ctx (c m.length)) : Ent e ctx (len t y (.map (some r)) c) := by
  refine Ent.opI (n := (m.length : Int)) (fun w hw => ?_) h
  obtain ⟨arr, ck, h1, h2, h3⟩ := hh.mp hw
  have hl : arr.size = m.length := by
    have := congrArg List.length h3
    simpa using this
  refine run_vS ?_
  simp [Builtin.len_, run_underlying (dd_mp ht), MapKept.run_getObj_map h1, goInt, hl]
end
end Go.Proofs.YtiabhghlhnnnjaaGreatDoor.Sl
