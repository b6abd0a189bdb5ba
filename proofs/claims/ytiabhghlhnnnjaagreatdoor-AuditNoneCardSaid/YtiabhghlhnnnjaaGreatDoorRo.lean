/-
  WHAT LIES STILL: a heap 'M' of blocks that nobody turns any more ('ro M'); what is known of M stays known when M grows.
-/
import Derived.Test.YtiabhghlhnnnjaaGreatDoorOp3
set_option maxRecDepth 100000
set_option linter.unusedVariables false
set_option linter.unusedSectionVars false
set_option linter.unusedSimpArgs false
namespace Go.Proofs.YtiabhghlhnnnjaaGreatDoor.Sl
open Go Sh
def ro (M : Hp) : HProp := fun h => Hp.le M h
/-- cells that M holds -/
def RdM (M : Hp) : Option Addr → List Value → Prop
  | none, l => l = []
  | some a, l => l = [] ∨ (a.spot = none ∧ ∃ T fr, ∃ c : Array Value, M a.block = some (.cells c T fr) ∧ ∀ j v, l[j]? = some v → c[a.off + j]? = some v)
section
variable {e : Env} {ctx ctx' : List HProp} {M M' : Hp} {c : WP}
theorem RdM.mono {a : Option Addr} {l : List Value} (h : RdM M a l) (hl : Hp.le M M') : RdM M' a l := by
  cases a with
  | none => exact h
  | some a =>
    rcases h with h | ⟨h1, T, fr, c, h2, h3⟩
    · exact .inl h
    · exact .inr ⟨h1, T, fr, c, hl _ _ h2, h3⟩
theorem RdM.nil : RdM M none [] := rfl
theorem RdM.nil' {a : Option Addr} : RdM M a [] := by
  cases a with
  | none => rfl
  | some a => exact .inl rfl
theorem RdM.rd {a : Option Addr} {l : List Value} (h : RdM M a l) (hh : Has ctx (ro M)) : Rd ctx a l := by
  cases a with
  | none => exact h
  | some a =>
    rcases h with h | ⟨h1, T, fr, c, h2, h3⟩
    · exact .inl h
    · refine .inr ⟨h1, fun x k => ?_⟩
      obtain ⟨r, hr⟩ := hh.pick
      obtain ⟨g1, g2, _, l1, _, a', _⟩ := sepL_perm hr.perm _ k
      exact ⟨T, fr, c, l1 _ _ (a' _ _ h2), h3⟩
theorem RdM.sub {a : Option Addr} {l : List Value} (h : RdM M a l) (n : Nat) : RdM M a (l.take n) := by
  cases a with
  | none => have : l = [] := h; subst this; simp [RdM]
  | some a =>
    rcases h with rfl | ⟨h1, T, fr, c, h2, h3⟩
    · exact .inl (by simp)
    · refine .inr ⟨h1, T, fr, c, h2, fun j v hj => ?_⟩
      rw [List.getElem?_take] at hj
      split at hj
      · exact h3 j v hj
      · cases hj
theorem RdM.cut {a : Option Addr} {l : List Value} (h : RdM M a l) {n c sz : Nat} (hc : l.length ≤ c * sz) : RdM M (Sl.cut a n c sz) (l.drop (n * sz)) := by
  cases a with
  | none => have : l = [] := h; subst this; rw [cut_none]; simp [RdM]
  | some a =>
    rcases h with rfl | ⟨hs, T, fr, cc, h2, h3⟩
    · simpa using RdM.nil'
    · obtain ⟨b, off, s⟩ := a
      simp only at hs
      subst hs
      rw [cut_some]
      by_cases hcn : c = n
      · subst hcn
        rw [List.drop_eq_nil_of_le hc]; exact RdM.nil'
      · refine .inr ⟨rfl, T, fr, cc, h2, fun j v hj => ?_⟩
        rw [if_neg hcn]
        rw [List.getElem?_drop] at hj
        have := h3 _ _ hj
        rw [Nat.add_assoc]; exact this
/-- a block of one's own lies still from now on -/
theorem Ent.keep {b : Nat} {l : List Value} (h : ∀ M', Hp.le M M' → RdM M' (some ⟨b, 0, none⟩) l → Ent e (ro M' :: ctx) c) : Ent e (pt b l :: ro M :: ctx) c := fun w hw => by
  obtain ⟨h1, h2, hd, l1, l2, ⟨T, fr, hb, hf⟩, h3, h4, hd', l3, l4, hM, hr⟩ := hw.heap
  let M' : Hp := fun i => match M i with | some o => some o | none => h1 i
  have hM1 : ∀ i o, M i = some o → h1 i = none := fun i o ho => by
    rcases hd i with x | x
    · exact x
    · rw [l3 _ _ (hM i o ho)] at x; cases x
  have hbM : M b = none := by
    cases hm : M b with
    | none => rfl
    | some o => have := hM1 b o hm; rw [hb] at this; cases this
  refine h M' (fun i o ho => by simp [M', ho]) ?_ w ⟨hw.os, hw.tape, hw.output, ?_⟩
  · refine .inr ⟨rfl, T, fr, l.toArray, by simp [M', hbM, hb], fun j v hj => by simpa using hj⟩
  · refine ⟨M', h4, fun i => ?_, fun i o ho => ?_, Hp.le_trans l4 l2, Hp.le_refl _, hr⟩
    · simp only [M']
      cases hm : M i with
      | some o =>
        refine .inr ?_
        rcases hd' i with x | x
        · rw [hM i o hm] at x; cases x
        · exact x
      | none =>
        rcases hd i with x | x
        · exact .inl x
        · refine .inr ?_
          cases h4i : h4 i with
          | none => rfl
          | some o => rw [l4 i o h4i] at x; cases x
    · simp only [M'] at ho
      cases hm : M i with
      | some o' => rw [hm] at ho; cases ho; exact l2 _ _ (l3 _ _ (hM i _ hm))
      | none => rw [hm] at ho; exact l1 _ _ ho
theorem Ent.keepP {b : Nat} {l : List Value} {r r' : List HProp} (hp : Pick ctx (pt b l) r) (hq : Pick r (ro M) r') (h : ∀ M', Hp.le M M' → RdM M' (some ⟨b, 0, none⟩) l → Ent e (ro M' :: r') c) : Ent e ctx c :=
  Ent.pick hp (((Ent.keep h).imp (Imp.cons (Imp.pick hq (Imp.refl _)))))
theorem Ent.keepS {a : Option Addr} {n cp sz : Nat} {l : List Value} (h : ∀ M', Hp.le M M' → RdM M' a l → l.length = n * sz → n ≤ cp → (a = none → cp = 0) → Ent e (ro M' :: ctx) c) : Ent e (SlO a n cp sz l :: ro M :: ctx) c := fun w hw => by
  obtain ⟨g1, g2, hd, l1, l2, ⟨hl, hA⟩, hr⟩ := hw.heap
  rcases hA with ⟨ha, hn0, hc⟩ | ⟨b, r, ha, hc, _, hp⟩
  · subst ha hn0
    have hl0 : l = [] := List.eq_nil_of_length_eq_zero (by simpa using hl)
    subst hl0
    exact h M (Hp.le_refl _) rfl (by simp) (by omega) (fun _ => hc) w ⟨hw.os, hw.tape, hw.output, sepL_mono l2 hr⟩
  · subst ha
    refine Ent.keep (b := b) (l := l ++ r) (M := M) (ctx := ctx) (fun M' hM hr => ?_) w ⟨hw.os, hw.tape, hw.output, g1, g2, hd, l1, l2, hp, hr⟩
    have := hr.sub l.length
    rw [List.take_left'  rfl] at this
    exact h M' hM this hl hc (fun h => by cases h)
/-- a growing heap is enough for what was asked of the old one -/
theorem Imp.ro (h : Hp.le M M') {l : List HProp} : Imp (Sl.ro M' :: l) (Sl.ro M :: l) := fun _ k => sepL_cons (fun _ a => Hp.le_trans h a) (fun _ z => z) k
theorem Ent.ro (h : Hp.le M M') (k : Ent e (Sl.ro M :: ctx) c) : Ent e (Sl.ro M' :: ctx) c := k.imp (Imp.ro h)
theorem rdm_some {a : Option Addr} {l : List Value} (h : RdM M a l) (hl : 0 < l.length) : ∃ b off, a = some ⟨b, off, none⟩ := by
  cases a with
  | none => have : l = [] := h; subst this; simp at hl
  | some a =>
    rcases h with rfl | ⟨h1, _⟩
    · simp at hl
    · obtain ⟨b, off, s⟩ := a
      simp only at h1
      subst h1
      exact ⟨b, off, rfl⟩
theorem RdM.append_left {a : Option Addr} {l m : List Value} (h : RdM M a (l ++ m)) : RdM M a l := by simpa using h.sub l.length
end
end Go.Proofs.YtiabhghlhnnnjaaGreatDoor.Sl
