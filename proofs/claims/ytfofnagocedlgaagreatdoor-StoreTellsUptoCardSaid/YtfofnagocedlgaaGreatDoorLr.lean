/-
  THE LRU LIST (layer 20): what its functions do to the tried ones and the kept ones.
-/
import Derived.Test.YtfofnagocedlgaaGreatDoorFA
import Derived.Test.YtfofnagocedlgaaGreatDoorSo
import Derived.Test.YtfofnagocedlgaaGreatDoorFl
set_option maxRecDepth 100000
set_option linter.unusedVariables false
set_option linter.unusedSectionVars false
set_option linter.unusedSimpArgs false
set_option maxHeartbeats 0
namespace Go.Proofs.YtfofnagocedlgaaGreatDoor.Lr
open Go Sh Sl Fl
attribute [local irreducible] condK ArK NilK OpK FnK StK joinK loopK DrawK andK PuK NxK EnK vS uS bS callS invokeS
/-- a place: the words of its turn and of its segment -/
abbrev cv (p : Nat × Nat) : Value := .complex .f64 p.1 p.2
structure LOk (m : List (Int × Nat × Nat)) (tr kp : List Int) (t : Nat) : Prop where
  ids : ∀ x, x ∈ tr ++ kp → 0 ≤ x ∧ x < 64
  nd : (tr ++ kp).Nodup
  keys : ∀ x, x ∈ tr ++ kp ↔ ∃ p, mfind x m = some p
  kn : (m.map (·.1)).Nodup
  g : ∃ g : Int → Nat, (∀ x, x ∈ tr ++ kp → g x ≤ t) ∧ (∀ x p, mfind x m = some p → FV p.1 (g x) ∧ FV p.2 (if x ∈ kp then 1 else 0)) ∧ tr.Pairwise (fun a b => g b < g a) ∧ kp.Pairwise (fun a b => g b < g a)
def LRep (b : Nat) (tr kp : List Int) (most n : Nat) : HProp := exs fun (x : Nat × Nat × Nat × List (Int × Nat × Nat)) =>
  sepL [pur (LOk x.2.2.2 tr kp x.2.2.1 ∧ FV x.2.1 (x.2.2.1 : Nat) ∧ x.2.2.1 ≤ n ∧ most ≤ 64), pt b [.map (some x.1), .float .f64 x.2.1, .int .i64 most], Mp (intK .i64) cv x.1 x.2.2.2]
theorem mem_mfind {α β : Type} [DecidableEq α] {m : List (α × β)} (hn : (m.map (·.1)).Nodup) {a : α} {b : β} (h : (a, b) ∈ m) : mfind a m = some b := by
  induction m with
  | nil => cases h
  | cons p m ih =>
    simp only [List.map_cons, List.nodup_cons] at hn
    simp only [mfind]
    rcases List.mem_cons.1 h with rfl | h
    · simp
    · rw [if_neg, ih hn.2 h]
      intro e
      exact hn.1 (e ▸ List.mem_map.2 ⟨_, h, rfl⟩)
theorem mfind_set {α β : Type} [DecidableEq α] (a x : α) (b : β) : ∀ m : List (α × β), mfind x (mset a b m) = if x = a then some b else mfind x m
  | [] => by simp only [mset, mfind]; split <;> split <;> simp_all
  | p :: m => by
    simp only [mset]
    split
    · rename_i h
      subst h
      simp only [mfind]
      by_cases hx : x = p.1
      · rw [if_pos hx.symm, if_pos hx]
      · rw [if_neg (Ne.symm hx), if_neg hx, if_neg (Ne.symm hx)]
    · rename_i h
      simp only [mfind, mfind_set a x b m]
      by_cases hx : p.1 = x
      · rw [if_pos hx, if_pos hx, if_neg (by rw [← hx]; exact h)]
      · rw [if_neg hx, if_neg hx]
theorem keys_set {α β : Type} [DecidableEq α] (a : α) (b : β) : ∀ m : List (α × β), (m.map (·.1)).Nodup → ((mset a b m).map (·.1)).Nodup ∧ ∀ x, x ∈ (mset a b m).map (·.1) → x = a ∨ x ∈ m.map (·.1)
  | [], _ => ⟨by simp [mset], fun x h => by simpa [mset] using h⟩
  | p :: m, hn => by
    simp only [List.map_cons, List.nodup_cons] at hn
    obtain ⟨h1, h2⟩ := keys_set a b m hn.2
    simp only [mset]
    split
    · rename_i h
      exact ⟨by simpa using hn, fun x hx => .inr hx⟩
    · rename_i h
      refine ⟨?_, fun x hx => ?_⟩
      · simp only [List.map_cons, List.nodup_cons]
        refine ⟨fun hx => ?_, h1⟩
        rcases h2 _ hx with e | e
        · exact h e
        · exact hn.1 e
      · simp only [List.map_cons, List.mem_cons] at hx ⊢
        rcases hx with rfl | hx
        · exact .inr (.inl rfl)
        · rcases h2 _ hx with e | e
          · exact .inl e
          · exact .inr (.inr e)
theorem mdel_spec {α β : Type} [DecidableEq α] (a : α) : ∀ m : List (α × β), (m.map (·.1)).Nodup → ((mdel a m).map (·.1)).Nodup ∧ (∀ x, x ∈ (mdel a m).map (·.1) → x ∈ m.map (·.1)) ∧ ∀ x, mfind x (mdel a m) = if x = a then none else mfind x m
  | [], _ => ⟨by simp [mdel], fun x h => by simp [mdel] at h, fun x => by simp [mdel, mfind]⟩
  | p :: m, hn => by
    simp only [List.map_cons, List.nodup_cons] at hn
    obtain ⟨h1, h2, h3⟩ := mdel_spec a m hn.2
    simp only [mdel]
    split
    · rename_i h
      subst h
      refine ⟨hn.2, fun x hx => by simp [hx], fun x => ?_⟩
      simp only [mfind]
      by_cases hx : x = p.1
      · rw [if_pos hx]
        cases hm : mfind x m with
        | none => rfl
        | some b => exact absurd (List.mem_map.2 ⟨_, mfind_mem hm, rfl⟩) (by rw [hx]; exact hn.1)
      · rw [if_neg hx, if_neg (Ne.symm hx)]
    · rename_i h
      refine ⟨?_, fun x hx => ?_, fun x => ?_⟩
      · simp only [List.map_cons, List.nodup_cons]
        exact ⟨fun hx => hn.1 (h2 _ hx), h1⟩
      · simp only [List.map_cons, List.mem_cons] at hx ⊢
        rcases hx with rfl | hx
        · exact .inl rfl
        · exact .inr (h2 _ hx)
      · simp only [mfind, h3]
        by_cases hx : p.1 = x
        · rw [if_pos hx, if_pos hx, if_neg (by rw [← hx]; exact h)]
        · rw [if_neg hx, if_neg hx]
abbrev out (l : List Int) (x : Int) : List Int := l.filter (· ≠ x)
theorem mem_out {l : List Int} {x y : Int} : y ∈ out l x ↔ y ∈ l ∧ y ≠ x := by simp [out]
theorem nodup_app {a b : List Int} : (a ++ b).Nodup ↔ a.Nodup ∧ b.Nodup ∧ ∀ x, x ∈ a → x ∉ b := by
  rw [List.nodup_append]
  constructor
  · rintro ⟨h1, h2, h3⟩; exact ⟨h1, h2, fun x hx hb => h3 x hx x hb rfl⟩
  · rintro ⟨h1, h2, h3⟩; exact ⟨h1, h2, fun x hx y hy e => h3 x hx (e ▸ hy)⟩
theorem LOk.empty : LOk [] [] [] 0 := ⟨by simp, by simp, by simp [mfind], by simp, fun _ => 0, by simp, by simp [mfind], by simp, by simp⟩
/-- put first into the tried ones, or into the kept ones -/
theorem LOk.put {m : List (Int × Nat × Nat)} {tr kp : List Int} {t : Nat} {x : Int} {w v : Nat} {s : Bool} (h : LOk m tr kp t) (hx : 0 ≤ x ∧ x < 64) (hw : FV w ((t + 1 : Nat) : Int)) (hv : FV v (if s then 1 else 0)) :
    LOk (mset x (w, v) m) (if s then out tr x else x :: out tr x) (if s then x :: out kp x else out kp x) (t + 1) := by
  obtain ⟨h1, h2, h3, h4, g, g1, g2, g3, g4⟩ := h
  have hmem : ∀ y, y ∈ (if s then out tr x else x :: out tr x) ++ (if s then x :: out kp x else out kp x) ↔ y = x ∨ y ∈ tr ++ kp := by
    intro y
    cases s <;> simp only [List.mem_append, mem_out, List.mem_cons, if_true, Bool.false_eq_true, if_false] <;> by_cases e : y = x <;> simp [e]
  have hkp : ∀ y, y ≠ x → (y ∈ (if s then x :: out kp x else out kp x) ↔ y ∈ kp) := by
    intro y hy
    cases s <;> simp [mem_out, hy]
  obtain ⟨n1, n2, n3⟩ := nodup_app.1 h2
  refine ⟨fun y hy => ?_, ?_, fun y => ?_, (keys_set x (w, v) m h4).1, fun y => if y = x then t + 1 else g y, fun y hy => ?_, fun y p hp => ?_, ?_, ?_⟩
  · rcases (hmem y).1 hy with rfl | hy
    · exact hx
    · exact h1 y hy
  · have o1 : (out tr x).Nodup := n1.filter _
    have o2 : (out kp x).Nodup := n2.filter _
    rw [nodup_app]
    cases s <;> simp only [Bool.false_eq_true, if_false, if_true, List.nodup_cons]
    · exact ⟨⟨by simp [mem_out], o1⟩, o2, fun y hy hk => by
        rw [mem_out] at hk
        rcases List.mem_cons.1 hy with rfl | hy
        · exact hk.2 rfl
        · exact n3 y (mem_out.1 hy).1 hk.1⟩
    · exact ⟨o1, ⟨by simp [mem_out], o2⟩, fun y hy hk => by
        rw [mem_out] at hy
        rcases List.mem_cons.1 hk with rfl | hk
        · exact hy.2 rfl
        · exact n3 y hy.1 (mem_out.1 hk).1⟩
  · rw [hmem, mfind_set]
    by_cases e : y = x
    · simp [e]
    · rw [if_neg e, ← h3]; simp [e]
  · dsimp only
    rcases (hmem y).1 hy with rfl | hy
    · simp
    · split
      · omega
      · have := g1 y hy; omega
  · dsimp only
    rw [mfind_set] at hp
    by_cases e : y = x
    · subst e
      simp only [if_true, Option.some.injEq] at hp ⊢
      subst hp
      refine ⟨hw, ?_⟩
      cases s <;> simpa [mem_out] using hv
    · rw [if_neg e] at hp
      have := g2 y p hp
      rw [if_neg e]
      refine ⟨this.1, ?_⟩
      have hk := hkp y e
      by_cases hy : y ∈ kp
      · rw [if_pos (hk.2 hy)]; rw [if_pos hy] at this; exact this.2
      · rw [if_neg (fun q => hy (hk.1 q))]; rw [if_neg hy] at this; exact this.2
  · have base : (out tr x).Pairwise (fun a b => (if b = x then t + 1 else g b) < if a = x then t + 1 else g a) := by
      refine (g3.filter _).imp_of_mem fun {a b} ha hb hab => ?_
      rw [if_neg (mem_out.1 ha).2, if_neg (mem_out.1 hb).2]; exact hab
    cases s <;> simp only [Bool.false_eq_true, if_false, if_true]
    · refine List.pairwise_cons.2 ⟨fun y hy => ?_, base⟩
      rw [if_neg (mem_out.1 hy).2]
      have := g1 y (List.mem_append_left _ (mem_out.1 hy).1)
      simp; omega
    · exact base
  · have base : (out kp x).Pairwise (fun a b => (if b = x then t + 1 else g b) < if a = x then t + 1 else g a) := by
      refine (g4.filter _).imp_of_mem fun {a b} ha hb hab => ?_
      rw [if_neg (mem_out.1 ha).2, if_neg (mem_out.1 hb).2]; exact hab
    cases s <;> simp only [Bool.false_eq_true, if_false, if_true]
    · exact base
    · refine List.pairwise_cons.2 ⟨fun y hy => ?_, base⟩
      rw [if_neg (mem_out.1 hy).2]
      have := g1 y (List.mem_append_right _ (mem_out.1 hy).1)
      simp; omega
theorem LOk.rem {m : List (Int × Nat × Nat)} {tr kp : List Int} {t : Nat} {x : Int} (h : LOk m tr kp t) : LOk (mdel x m) (out tr x) (out kp x) t := by
  obtain ⟨h1, h2, h3, h4, g, g1, g2, g3, g4⟩ := h
  obtain ⟨d1, d2, d3⟩ := mdel_spec x m h4
  obtain ⟨n1, n2, n3⟩ := nodup_app.1 h2
  have hmem : ∀ y, y ∈ out tr x ++ out kp x ↔ y ∈ tr ++ kp ∧ y ≠ x := by
    intro y
    simp only [List.mem_append, mem_out]
    constructor
    · rintro (⟨a, b⟩ | ⟨a, b⟩)
      · exact ⟨.inl a, b⟩
      · exact ⟨.inr a, b⟩
    · rintro ⟨a | a, b⟩
      · exact .inl ⟨a, b⟩
      · exact .inr ⟨a, b⟩
  refine ⟨fun y hy => h1 y ((hmem y).1 hy).1, ?_, fun y => ?_, d1, g, fun y hy => g1 y ((hmem y).1 hy).1, fun y p hp => ?_, g3.filter _, g4.filter _⟩
  · exact nodup_app.2 ⟨n1.filter _, n2.filter _, fun y hy hk => n3 y (mem_out.1 hy).1 (mem_out.1 hk).1⟩
  · rw [hmem, d3]
    by_cases e : y = x
    · simp [e]
    · rw [if_neg e, ← h3]; simp [e]
  · rw [d3] at hp
    by_cases e : y = x
    · rw [if_pos e] at hp; cases hp
    · rw [if_neg e] at hp
      have := g2 y p hp
      refine ⟨this.1, ?_⟩
      have hk : y ∈ out kp x ↔ y ∈ kp := by simp [mem_out, e]
      by_cases hy : y ∈ kp
      · rw [if_pos (hk.2 hy)]; rw [if_pos hy] at this; exact this.2
      · rw [if_neg (fun q => hy (hk.1 q))]; rw [if_neg hy] at this; exact this.2
section
variable {e : Env} {rest ctx : List HProp} {tr kp : List Int} {most n : Nat}
theorem LRep.open {b : Nat} {c : WP} (h : ∀ r tw t m, LOk m tr kp t → FV tw (t : Nat) → t ≤ n → most ≤ 64 → Ent e (pt b [.map (some r), .float .f64 tw, .int .i64 most] :: Mp (intK .i64) cv r m :: rest) c) : Ent e (LRep b tr kp most n :: rest) c :=
  Ent.exs fun ⟨r, tw, t, m⟩ => Ent.g3 (Ent.pur fun ⟨h1, h2, h3, h4⟩ => h r tw t m h1 h2 h3 h4)
theorem LRep.imp {b r tw t : Nat} {m : List (Int × Nat × Nat)} (h1 : LOk m tr kp t) (h2 : FV tw (t : Nat)) (h3 : t ≤ n) (h4 : most ≤ 64) :
    Imp (pt b [.map (some r), .float .f64 tw, .int .i64 most] :: Mp (intK .i64) cv r m :: rest) (LRep b tr kp most n :: rest) :=
  Imp.exs (r, tw, t, m) (Imp.g3 (Imp.pur ⟨h1, h2, h3, h4⟩ (Imp.refl _)))
theorem LRep.fold {b r tw t : Nat} {m : List (Int × Nat × Nat)} {c : WP} (h1 : LOk m tr kp t) (h2 : FV tw (t : Nat)) (h3 : t ≤ n) (h4 : most ≤ 64) (h : Ent e (LRep b tr kp most n :: rest) c) :
    Ent e (pt b [.map (some r), .float .f64 tw, .int .i64 most] :: Mp (intK .i64) cv r m :: rest) c := h.imp (LRep.imp h1 h2 h3 h4)
theorem new_spec {K : Value → Int → WP} {kept : Int} (hbad : ¬ (0 ≤ kept ∧ kept ≤ 64) → Ent e rest (K (.pointer none) 1))
    (hok : ∀ b, 0 ≤ kept → kept ≤ 64 → Ent e (LRep b [] [] kept.toNat 0 :: rest) (K (.pointer (some ⟨b, 0, none⟩)) 0)) : Ent e rest (lru_New kept K) := by
  (refine Ent.fn lru_New_ok ?_; unfold lru_New_sh)
  refine Ent.condD (fun h => hbad (by omega)) fun h1 => ?_
  refine Ent.condD (fun h => hbad (by omega)) fun h2 => ?_
  refine Ent.mmake (intK .i64) cv fun r => ?_
  (refine Ent.go ?_)
  refine Ent.box' fun b => ?_
  obtain ⟨k, rfl⟩ := Int.eq_ofNat_of_zero_le (by omega : 0 ≤ kept)
  have := hok b (by omega) (by omega)
  rw [Int.toNat_natCast] at this
  exact LRep.fold LOk.empty fv0 (Nat.le_refl _) (by omega) this
theorem ready_spec {K : Int → WP} {b : Nat} {id : Int} {there : Bool} (h : Ent e (LRep b tr kp most n :: rest) (K (if id < 0 ∨ 64 ≤ id then 1 else if id ∈ tr ++ kp then (if there then 0 else 9) else (if there then 6 else 0)))) :
    Ent e (LRep b tr kp most n :: rest) (lru_List_ready (.pointer (some ⟨b, 0, none⟩)) id there K) := by
  (refine Ent.fn lru_List_ready_ok ?_; unfold lru_List_ready_sh)
  refine LRep.open fun r tw t m h1 h2 h3 h4 => ?_
  refine Ent.join ?_
  (refine Ent.go ?_)
  refine Ent.join ?_
  by_cases c1 : id < 0
  · rw [if_pos (.inl c1)] at h
    (refine Ent.go ?_)
    exact LRep.fold h1 h2 h3 h4 h
  by_cases c2 : 64 ≤ id
  · rw [if_pos (.inr c2)] at h
    (refine Ent.go ?_)
    exact LRep.fold h1 h2 h3 h4 h
  rw [if_neg (by omega)] at h
  (refine Ent.go ?_)
  refine Ent.mget2 (K := intK .i64) (vf := cv) (by (repeat (first | exact Has.hd | apply Has.tl))) rfl (dd_int rfl) (by kernel_rfl : zv 114 = some (.complex .f64 0 0)) (fun p hp => ?_) (fun hp => ?_)
  · rw [if_pos ((h1.keys id).2 ⟨p, hp⟩)] at h
    cases there <;> (refine Ent.go ?_; exact LRep.fold h1 h2 h3 h4 h)
  · rw [if_neg (fun hk => by obtain ⟨p, hq⟩ := (h1.keys id).1 hk; rw [hp] at hq; cases hq)] at h
    cases there <;> (refine Ent.go ?_; exact LRep.fold h1 h2 h3 h4 h)
theorem fv1 : FV 4607182418800017408 1 := ⟨by decide, .inr ⟨by decide, by decide +kernel⟩⟩
theorem st_cadd {t : TypeId} {X Y : Operand} {x y x' y' : Nat} {a b a' b' : Int} (hx : FV x a) (hy : FV y b) (hx' : FV x' a') (hy' : FV y' b') (h1 : (a + a').natAbs < 2 ^ 53) (h2 : (b + b').natAbs < 2 ^ 53) :
    ∃ z z', FV z (a + a') ∧ FV z' (b + b') ∧ Pu (bS .add t X Y (.complex .f64 x y) (.complex .f64 x' y')) (.complex .f64 z z') := by
  obtain ⟨z, g1, g2⟩ := hx.add hx' h1
  obtain ⟨z', g3, g4⟩ := hy.add hy' h2
  refine ⟨z, z', g2, g4, still_bS (Fl.guard_cpl _ _ _ _ _ _ _ _ _ _) fun w => ?_⟩
  have e1 : FloatKind.f64.format.add x x' = some z := g1
  have e2 : FloatKind.f64.format.add y y' = some z' := g3
  simp [binOp, Op.complexOp, Op.Complex.arith, Op.floatArith, e1, e2]
/-- the segment's value -/
abbrev sg (s : Bool) : Value := .complex .f64 0 (if s then 4607182418800017408 else 0)
theorem put_spec {K : Value → WP} {b : Nat} {id : Int} {s : Bool} (hid : 0 ≤ id ∧ id < 64) (hn : n < 4503599627370496)
    (h : Ent e (LRep b (if s then out tr id else id :: out tr id) (if s then id :: out kp id else out kp id) most (n + 1) :: rest) (K (.tuple #[]))) :
    Ent e (LRep b tr kp most n :: rest) (lru_List_put (.pointer (some ⟨b, 0, none⟩)) id (sg s) K) := by
  (refine Ent.fn lru_List_put_ok ?_; unfold lru_List_put_sh)
  refine LRep.open fun r tw t m h1 h2 h3 h4 => ?_
  (refine Ent.go ?_)
  obtain ⟨z, v, p⟩ := st_fadd (t := 105) (X := .tmp 9) (Y := .const (.float .f64 4607182418800017408)) h2 fv1 (by omega)
  refine Ent.opR p.still ?_
  (refine Ent.go ?_)
  refine Ent.puR st_cplx ?_
  have hsg : FV (if s then 4607182418800017408 else 0) (if s then 1 else 0) := by cases s; exact fv0; exact fv1
  obtain ⟨z1, z2, g1, g2, g3⟩ := st_cadd (t := 114) (X := .tmp 22) (Y := .tmp 23) v fv0 fv0 hsg (by omega) (by cases s <;> decide)
  refine Ent.puR g3 ?_
  have e1 : (t : Int) + 1 + 0 = ((t + 1 : Nat) : Int) := by omega
  have e2 : (0 : Int) + (if s = true then 1 else 0) = if s = true then 1 else 0 := by omega
  rw [e1] at g1
  rw [e2] at g2
  have e3 : (t : Int) + 1 = ((t + 1 : Nat) : Int) := by omega
  rw [e3] at v
  refine Ent.mset (K := intK .i64) (vf := cv) (b := (z1, z2)) (by (repeat (first | exact Upd.hd | apply Upd.tl))) rfl (dd_int rfl) ?_
  exact LRep.fold (h1.put hid g1 g2) v (by omega) h4 h
end
/-! ## the order -/
/-- the turn of a member, 0 of another -/
def tn (m : List (Int × Nat × Nat)) (g : Int → Nat) (x : Int) : Nat := if (mfind x m).isSome then g x else 0
/-- how two members are compared -/
def cf (G : Int → Nat) (x y : Int) : Int := if G y < G x then -1 else if G x < G y then 1 else 0
theorem cf_lt {G : Int → Nat} {x y : Int} : cf G x y < 0 ↔ G y < G x := by
  unfold cf; split
  · simp_all
  · split <;> simp_all <;> omega
theorem cf_swo (G : Int → Nat) : Go.Sort.SWO (ltOf (cf G)) :=
  ⟨fun x => by simp [ltOf, cf_lt], fun x y z h1 h2 => by simp only [ltOf, decide_eq_true_eq, cf_lt] at *; omega,
    fun x y z h1 h2 => by simp only [ltOf, decide_eq_false_iff_not, cf_lt] at *; omega⟩
theorem st_fgtr {t : TypeId} {X Y : Operand} {x y : Nat} {a b : Int} (hx : FV x a) (hy : FV y b) : Pu (bS .gtr t X Y (.float .f64 x) (.float .f64 y)) (.bool (decide (a > b))) :=
  still_bS (Fl.guard_flt _ _ _ _ _ _ _ _) fun w => by
    simp only [binOp, Op.floatCmp, ord hx hy, ne_eq, not_true_eq_false, if_false, Sem.run_pure]
    congr 2
    rcases Int.lt_trichotomy a b with h | h | h
    · rw [Int.compare_eq_lt.2 h, decide_eq_false (by omega)]; rfl
    · rw [Int.compare_eq_eq.2 h, decide_eq_false (by omega)]; rfl
    · rw [Int.compare_eq_gt.2 h, decide_eq_true (by omega)]; rfl
theorem st_fne {t : TypeId} {X Y : Operand} {x y : Nat} {a b : Int} (hx : FV x a) (hy : FV y b) : Pu (bS .neq t X Y (.float .f64 x) (.float .f64 y)) (.bool (!decide (a = b))) :=
  still_bS (Fl.guard_flt _ _ _ _ _ _ _ _) fun w => by
    simp only [binOp, Op.floatCmp, ord hx hy, ne_eq, not_true_eq_false, if_false, Sem.run_pure]
    congr 2
    rcases Int.lt_trichotomy a b with h | h | h
    · rw [Int.compare_eq_lt.2 h, decide_eq_false (by omega)]; rfl
    · rw [Int.compare_eq_eq.2 h, decide_eq_true (by omega)]; rfl
    · rw [Int.compare_eq_gt.2 h, decide_eq_false (by omega)]; rfl
section
variable {S : World → Prop} {e : Env} {ctx rest : List HProp} {tr kp : List Int} {most n : Nat}
theorem nan_q {x : Nat} {a : Int} {K : Bool → WP} (hx : FV x a) (h : QEnt S (K false)) : QEnt S (cmp_isNaN_float64 (.float .f64 x) K) := by
  refine QEnt.fn cmp_isNaN_float64_ok ?_
  unfold cmp_isNaN_float64_sh
  have := st_fne (t := 105) (X := .tmp 3) (Y := .tmp 4) hx hx
  rw [decide_eq_true rfl] at this
  exact QEnt.pB this h
theorem compare_q {x y : Nat} {a b : Nat} {K : Int → WP} (hx : FV x a) (hy : FV y b) (h : QEnt S (K (if a < b then -1 else if b < a then 1 else 0))) : QEnt S (cmp_Compare_float64 (.float .f64 x) (.float .f64 y) K) := by
  refine QEnt.fn cmp_Compare_float64_ok ?_
  unfold cmp_Compare_float64_sh
  refine nan_q hx ?_
  refine nan_q hy ?_
  refine QEnt.cF rfl ?_
  refine QEnt.cF rfl ?_
  refine QEnt.pB (st_flss hx hy) ?_
  by_cases h1 : a < b
  · rw [if_pos h1] at h
    exact QEnt.cT (by (first | rfl | exact decide_eq_true (by omega) | exact beq_iff_eq.2 (by omega) | exact bne_iff_ne.2 (by omega))) h
  rw [if_neg h1] at h
  refine QEnt.cF (by (first | rfl | exact decide_eq_false (by omega) | exact beq_eq_false_iff_ne.2 (by omega) | exact bne_eq_false_iff_eq.2 (by omega))) ?_
  refine QEnt.pB (st_fgtr hx hy) ?_
  by_cases h2 : b < a
  · rw [if_pos h2] at h
    exact QEnt.cT (by (first | rfl | exact decide_eq_true (by omega) | exact beq_iff_eq.2 (by omega) | exact bne_iff_ne.2 (by omega))) h
  rw [if_neg h2] at h
  exact QEnt.cF (by (first | rfl | exact decide_eq_false (by omega) | exact beq_eq_false_iff_ne.2 (by omega) | exact bne_eq_false_iff_eq.2 (by omega))) h
/-- a place read: the member's turn -/
theorem place {r : Nat} {m : List (Int × Nat × Nat)} {g : Int → Nat} (hm : Has ctx (Mp (intK .i64) cv r m)) (hg : ∀ x p, mfind x m = some p → FV p.1 (g x)) (x : Int) :
    ∃ a b, FV a (tn m g x) ∧ Still e ctx (vS (Instr.lookup 104 (.map (some r)) (.int .i64 x) false)) (.complex .f64 a b) := by
  unfold tn
  cases h : mfind x m with
  | some p =>
    refine ⟨p.1, p.2, by simpa using hg x p h, st_mgetT (K := intK .i64) (vf := cv) (b := p) hm rfl (dd_int rfl) h⟩
  | none =>
    exact ⟨0, 0, by simpa using fv0, st_mgetF (K := intK .i64) (vf := cv) hm rfl (dd_int rfl) h (by kernel_rfl : zv 114 = some (.complex .f64 0 0))⟩
theorem cmp_q {bx b r tw : Nat} {m : List (Int × Nat × Nat)} {g : Int → Nat} (q : QS S e ctx) (h1 : Has ctx (pt bx [.pointer (some ⟨b, 0, none⟩)])) (h2 : Has ctx (pt b [.map (some r), .float .f64 tw, .int .i64 most])) (hm : Has ctx (Mp (intK .i64) cv r m))
    (hg : ∀ x p, mfind x m = some p → FV p.1 (g x)) {x y : Int} {K : Int → WP} (h : QEnt S (K (cf (tn m g) x y))) : QEnt S (lru_List_in_c1 x y (.pointer (some ⟨bx, 0, none⟩)) K) := by
  refine QEnt.fn lru_List_in_c1_ok ?_
  unfold lru_List_in_c1_sh
  refine QEnt.draw q ?_
  obtain ⟨a1, b1, v1, p1⟩ := place (e := e) hm hg y
  obtain ⟨a2, b2, v2, p2⟩ := place (e := e) hm hg x
  refine QEnt.sR q (st_load h1 rfl rfl) ?_
  refine QEnt.nil (QEnt.qR (st_field rfl) (QEnt.sR q (st_load h2 rfl rfl) ?_))
  refine QEnt.sR q p1 (QEnt.qR st_real ?_)
  refine QEnt.sR q (st_load h1 rfl rfl) ?_
  refine QEnt.nil (QEnt.qR (st_field rfl) (QEnt.sR q (st_load h2 rfl rfl) ?_))
  refine QEnt.sR q p2 (QEnt.qR st_real ?_)
  exact compare_q v1 v2 (QEnt.and h)
theorem perm_of_mem : ∀ {l r : List Int}, l.Nodup → r.Nodup → (∀ x, x ∈ l ↔ x ∈ r) → l.Perm r
  | [], r, _, _, h => by
    cases r with
    | nil => exact .nil
    | cons y r => exact absurd ((h y).2 List.mem_cons_self) (by simp)
  | x :: l, r, h1, h2, h => by
    have hx : x ∈ r := (h x).1 List.mem_cons_self
    refine .trans (.cons x (perm_of_mem (List.nodup_cons.1 h1).2 (h2.erase x) fun y => ?_)) (List.perm_cons_erase hx).symm
    rw [h2.mem_erase_iff]
    constructor
    · intro hy
      exact ⟨fun e => (List.nodup_cons.1 h1).1 (e ▸ hy), (h y).1 (List.mem_cons_of_mem _ hy)⟩
    · rintro ⟨hn, hy⟩
      rcases List.mem_cons.1 ((h y).2 hy) with e | e
      · exact absurd e hn
      · exact e
theorem sorted_uniq {G : Int → Nat} : ∀ {l r : List Int}, l.Perm r → l.Pairwise (fun x y => G y ≤ G x) → r.Pairwise (fun x y => G y < G x) → l = r
  | [], r, p, _, _ => (List.nil_perm.1 p).symm
  | x :: l, [], p, _, _ => absurd p (by simp)
  | x :: l, y :: r, p, h1, h2 => by
    obtain ⟨a1, a2⟩ := List.pairwise_cons.1 h1
    obtain ⟨b1, b2⟩ := List.pairwise_cons.1 h2
    have e : x = y := by
      rcases List.mem_cons.1 (p.subset List.mem_cons_self) with e | hx
      · exact e
      · rcases List.mem_cons.1 (p.symm.subset List.mem_cons_self) with e | hy
        · exact e.symm
        · have := b1 x hx
          have := a1 y hy
          omega
    subst e
    rw [sorted_uniq (List.perm_cons _ |>.1 p) a2 b2]
theorem len_le : ∀ (N : Nat) (l : List Int), l.Nodup → (∀ x, x ∈ l → 0 ≤ x ∧ x < N) → l.length ≤ N
  | 0, l, _, h => by
    cases l with
    | nil => simp
    | cons x l => have := h x List.mem_cons_self; omega
  | N + 1, l, hn, h => by
    have ih := len_le N (l.erase (N : Int)) (hn.erase _) fun x hx => by
      rw [hn.mem_erase_iff] at hx
      have := h x hx.2
      have := hx.1
      omega
    by_cases hm : (N : Int) ∈ l
    · rw [List.length_erase_of_mem hm] at ih; omega
    · rw [List.erase_of_not_mem hm] at ih; omega
/-- the members of a segment, in their order -/
theorem in_spec {K : Value → WP} {b : Nat} {s : Bool} (h : ∀ a c, Ent e (SlO a (if s then kp else tr).length c 1 ((if s then kp else tr).map fun x => .int .i64 x) :: LRep b tr kp most n :: rest) (K (.slice a (if s then kp else tr).length c))) :
    Ent e (LRep b tr kp most n :: rest) (lru_List_in (.pointer (some ⟨b, 0, none⟩)) (sg s) K) := by
  (refine Ent.fn lru_List_in_ok ?_; unfold lru_List_in_sh)
  refine Ent.box' fun bx => ?_
  refine Ent.bring (A := LRep b tr kp most n) ?_
  refine LRep.open fun r tw t m h1 h2 h3 h4 => ?_
  (refine Ent.go ?_)
  refine Ent.mrange (K := intK .i64) (vf := cv) (by (repeat (first | exact Pick.hd | apply Pick.tl))) rfl fun i => ?_
  obtain ⟨g, g1, g2, g3, g4⟩ := h1.g
  have hid : ∀ x p, (x, p) ∈ m → (x ∈ tr ∨ x ∈ kp) ∧ FV p.1 (g x) ∧ FV p.2 (if x ∈ kp then 1 else 0) := fun x p hp => by
    have := mem_mfind h1.kn hp
    exact ⟨by simpa using (h1.keys x).2 ⟨p, this⟩, g2 x p this⟩
  obtain ⟨n1, n2, n3⟩ := nodup_app.1 h1.nd
  refine Ent.slN (sz := 1) ?_
  refine Ent.loop1 (k0 := .raw) (fun N v => exs (fun (x : List Int × List Int × Option Addr × Nat) =>
    sepL [pur (v = .slice x.2.2.1 (x.1.filter fun y => decide (y ∈ kp) == s).length x.2.2.2 ∧ (x.1 ++ x.2.1).Perm (m.map (·.1)) ∧ N = x.2.1.length),
      SlO x.2.2.1 (x.1.filter fun y => decide (y ∈ kp) == s).length x.2.2.2 1 ((x.1.filter fun y => decide (y ∈ kp) == s).map fun y => .int .i64 y), MpI (intK .i64) cv r i m x.1]) :: pt b [.map (some r), .float .f64 tw, .int .i64 most] :: pt bx [.pointer (some ⟨b, 0, none⟩)] :: rest) m.length ?_ ?_
  · refine Imp.exs ([], m.map (·.1), none, 0) (Imp.g3 (Imp.pur ⟨rfl, by simp, by simp⟩ ?_))
    (focus ((repeat ((with_reducible apply Imp.pick); (repeat (first | exact Pick.hd | apply Pick.tl)))); (repeat (first | exact Imp.refl _ | exact Imp.nil _ | apply Imp.drop)); done))
  intro N K' hK v
  refine Ent.exs fun ⟨dn, rm, a, c⟩ => Ent.g3 (Ent.pur fun ⟨f1, f2, f3⟩ => ?_)
  dsimp only at f1 f2 f3
  subst f1 f3
  dsimp only
  have hnd : (dn ++ rm).Nodup := f2.symm.nodup h1.kn
  obtain ⟨m1, m2, m3⟩ := nodup_app.1 hnd
  have hlen : dn.length + rm.length = m.length := by simpa using f2.length_eq
  have hkey : ∀ x, x ∈ dn ++ rm ↔ x ∈ tr ++ kp := fun x => by
    rw [f2.mem_iff, h1.keys]
    constructor
    · intro hx
      obtain ⟨p, hp, rfl⟩ := List.mem_map.1 hx
      exact ⟨p.2, mem_mfind h1.kn hp⟩
    · rintro ⟨p, hp⟩
      exact List.mem_map.2 ⟨_, mfind_mem hp, rfl⟩
  have hsm : m.length ≤ 64 := by
    have := len_le 64 (m.map (·.1)) h1.kn fun x hx => by
      obtain ⟨p, hp, rfl⟩ := List.mem_map.1 hx
      exact h1.ids p.1 ((h1.keys p.1).2 ⟨p.2, mem_mfind h1.kn hp⟩)
    simpa using this
  refine Ent.mnext (by (repeat (first | exact Pick.hd | apply Pick.tl))) (fun hall => ?_) (fun x p hp hx => ?_)
  · -- all have come
    have hrm : rm = [] := by
      cases rm with
      | nil => rfl
      | cons y rm =>
        exfalso
        have : y ∈ m.map (·.1) := f2.subset (by simp)
        obtain ⟨p, hp, rfl⟩ := List.mem_map.1 this
        exact m3 p.1 (hall p.1 p.2 hp) List.mem_cons_self
    subst hrm
    simp only [List.append_nil] at f2 hkey
    have hperm : (dn.filter fun y => decide (y ∈ kp) == s).Perm (if s then kp else tr) := by
      refine perm_of_mem (m1.filter _) (by cases s; exact n1; exact n2) fun x => ?_
      rw [List.mem_filter, hkey]
      cases s
      · simp only [beq_iff_eq, decide_eq_false_iff_not, List.mem_append, Bool.false_eq_true, if_false]
        exact ⟨fun ⟨a, b⟩ => a.resolve_right b, fun a => ⟨.inl a, n3 x a⟩⟩
      · simp only [beq_iff_eq, decide_eq_true_eq, List.mem_append, if_true]
        exact ⟨fun ⟨a, b⟩ => b, fun a => ⟨.inr a, a⟩⟩
    refine Ent.bring (A := SlO a _ c 1 _) ?_
    have hG : ∀ x, x ∈ tr ++ kp → tn m g x = g x := fun x hx => by
      obtain ⟨p, hp⟩ := (h1.keys x).1 hx
      simp [tn, hp]
    refine Ent.sortInts (cf (tn m g)) (cf_swo _) (by decide) rfl ?_ (fun W hW x y => ?_) fun l' hp hs => ?_
    · have := List.length_filter_le (fun y => decide (y ∈ kp) == s) dn
      omega
    · have q := qs_of hW
      refine quiet_int fun K hk => ?_
      have hq : QS (fun w => ∃ q, w = W.drewN q) e (Mp (intK .i64) cv r m :: pt b [.map (some r), .float .f64 tw, .int .i64 most] :: pt bx [.pointer (some ⟨b, 0, none⟩)] :: rest) :=
        ⟨fun w hw => (q.sat w hw).imp MpI.imp, q.dr⟩
      exact cmp_q hq (by (repeat (first | exact Has.hd | apply Has.tl))) (by (repeat (first | exact Has.hd | apply Has.tl))) (by (repeat (first | exact Has.hd | apply Has.tl))) (fun x p hp => (g2 x p hp).1) hk
    · have hl : l' = if s then kp else tr := by
        refine sorted_uniq (G := g) (hp.trans hperm) ?_ (by cases s; exact g3; exact g4)
        refine hs.imp_of_mem fun {a b} ha hb hab => ?_
        have ha' : a ∈ tr ++ kp := by
          have := (hp.trans hperm).subset ha
          cases s <;> simp_all
        have hb' : b ∈ tr ++ kp := by
          have := (hp.trans hperm).subset hb
          cases s <;> simp_all
        rw [cf_lt, hG a ha', hG b hb'] at hab
        omega
      subst hl
      have hln := hperm.length_eq
      rw [hln]
      refine Ent.imp ?_ (h a c)
      refine Imp.cons ?_
      refine Imp.trans (MpI.imp (K := intK .i64) (vf := cv)) ?_
      refine Imp.trans ?_ (LRep.imp (r := r) h1 h2 h3 h4)
      (focus ((repeat ((with_reducible apply Imp.pick); (repeat (first | exact Pick.hd | apply Pick.tl)))); (repeat (first | exact Imp.refl _ | exact Imp.nil _ | apply Imp.drop)); done))
  · -- one more
    obtain ⟨q1, q2, q3⟩ := hid x p hp
    refine Ent.mentry (K := intK .i64) (vf := cv) (dn := dn) (by (repeat (first | exact Has.hd | apply Has.tl))) hp rfl rfl ?_
    refine Ent.opR st_imag.still (Ent.opR st_imag.still ?_)
    have hsg : FV (if s then 4607182418800017408 else 0) (if s then 1 else 0) := by cases s; exact fv0; exact fv1
    refine Ent.opB (st_feq q3 hsg).still ?_
    have hxr : x ∈ rm := by
      have : x ∈ dn ++ rm := f2.symm.subset (List.mem_map.2 ⟨_, hp, rfl⟩)
      exact (List.mem_append.1 this).resolve_left hx
    have hpm : ((dn ++ [x]) ++ rm.erase x).Perm (m.map (·.1)) := by
      refine List.Perm.trans ?_ f2
      rw [List.append_assoc]
      exact List.Perm.append_left _ (List.perm_cons_erase hxr).symm
    have hle : (rm.erase x).length < rm.length := by
      rw [List.length_erase_of_mem hxr]
      have := List.length_pos_of_mem hxr
      omega
    have hfl : ∀ (v : Bool), (decide (x ∈ kp) == s) = v → (dn ++ [x]).filter (fun y => decide (y ∈ kp) == s) = dn.filter (fun y => decide (y ∈ kp) == s) ++ (if v then [x] else []) := by
      intro v hv
      rw [List.filter_append]
      cases v <;> simp [List.filter, hv]
    by_cases hc : (decide (x ∈ kp) == s) = true
    · have hfl := hfl true hc
      simp only [if_true] at hfl
      refine Ent.condT ?_ ?_
      · rw [beq_iff_eq] at hc
        subst hc
        by_cases hk : x ∈ kp <;> simp [hk]
      have hll := List.length_filter_le (fun y => decide (y ∈ kp) == s) dn
      refine Ent.app1 (fun a2 c2 => ?_)
      refine Ent.imp ?_ (hK (rm.erase x).length hle _)
      refine Imp.exs (dn ++ [x], rm.erase x, a2, c2) (Imp.g3 (Imp.pur ⟨by simp [hfl], hpm, rfl⟩ ?_))
      rw [hfl]
      simp only [List.map_append, List.map_cons, List.map_nil, List.length_append, List.length_cons, List.length_nil, Nat.zero_add]
      (focus ((repeat ((with_reducible apply Imp.pick); (repeat (first | exact Pick.hd | apply Pick.tl)))); (repeat (first | exact Imp.refl _ | exact Imp.nil _ | apply Imp.drop)); done))
    · have hfl := hfl false (by simpa using hc)
      simp only [Bool.false_eq_true, if_false, List.append_nil] at hfl
      refine Ent.condF ?_ ?_
      · cases s <;> by_cases hk : x ∈ kp <;> simp_all
      refine Ent.imp ?_ (hK (rm.erase x).length hle _)
      refine Imp.exs (dn ++ [x], rm.erase x, a, c) (Imp.g3 (Imp.pur ⟨by simp only [hfl], hpm, rfl⟩ ?_))
      rw [hfl]
      (focus ((repeat ((with_reducible apply Imp.pick); (repeat (first | exact Pick.hd | apply Pick.tl)))); (repeat (first | exact Imp.refl _ | exact Imp.nil _ | apply Imp.drop)); done))
end
end Go.Proofs.YtfofnagocedlgaaGreatDoor.Lr
