/- The texts Lr Ls Lv Lw Lx Sa Sb Sc Sd, laid together. -/
import Derived.Test.YtfofnagocedlgaaGreatDoorKh
section
/-
  THE LRU LIST (layer 20): what its functions do to the tried ones and the kept ones.
-/
set_option maxRecDepth 100000
set_option linter.unusedVariables false
set_option linter.unusedSectionVars false
set_option linter.unusedSimpArgs false
set_option maxHeartbeats 0
namespace Go.Proofs.YtfofnagocedlgaaGreatDoor.Lr
open Go Sh Sl Fl
attribute [local irreducible] condK ArK NilK OpK FnK StK joinK loopK DrawK andK PuK NxK EnK vS uS bS callS invokeS
/-- a place: the words of its turn and of its segment -/
abbrev cv (p : Nat × Nat) : Value := .complex .f64 p.1 p.2
structure LOk (m : List (Int × Nat × Nat)) (tr kp : List Int) (t : Nat) : Prop where
  ids : ∀ x, x ∈ tr ++ kp → 0 ≤ x ∧ x < 64
  nd : (tr ++ kp).Nodup
  keys : ∀ x, x ∈ tr ++ kp ↔ ∃ p, mfind x m = some p
  kn : (m.map (·.1)).Nodup
  g : ∃ g : Int → Nat, (∀ x, x ∈ tr ++ kp → g x ≤ t) ∧ (∀ x p, mfind x m = some p → FV p.1 (g x) ∧ FV p.2 (if x ∈ kp then 1 else 0)) ∧ tr.Pairwise (fun a b => g b < g a) ∧ kp.Pairwise (fun a b => g b < g a)
def LRep (b : Nat) (tr kp : List Int) (most n : Nat) : HProp := exs fun (x : Nat × Nat × Nat × List (Int × Nat × Nat)) =>
  sepL [pur (LOk x.2.2.2 tr kp x.2.2.1 ∧ FV x.2.1 (x.2.2.1 : Nat) ∧ x.2.2.1 ≤ n ∧ most ≤ 64), pt b [.map (some x.1), .float .f64 x.2.1, .int .i64 most], Mp (intK .i64) cv x.1 x.2.2.2]
theorem mem_mfind {α β : Type} [DecidableEq α] {m : List (α × β)} (hn : (m.map (·.1)).Nodup) {a : α} {b : β} (h : (a, b) ∈ m) : mfind a m = some b := by
  induction m with
  | nil => cases h
  | cons p m ih =>
    simp only [List.map_cons, List.nodup_cons] at hn
    simp only [mfind]
    rcases List.mem_cons.1 h with rfl | h
    · simp
    · rw [if_neg, ih hn.2 h]
      intro e
      exact hn.1 (e ▸ List.mem_map.2 ⟨_, h, rfl⟩)
theorem mfind_set {α β : Type} [DecidableEq α] (a x : α) (b : β) : ∀ m : List (α × β), mfind x (mset a b m) = if x = a then some b else mfind x m
  | [] => by simp only [mset, mfind]; split <;> split <;> simp_all
  | p :: m => by
    simp only [mset]
    split
    · rename_i h
      subst h
      simp only [mfind]
      by_cases hx : x = p.1
      · rw [if_pos hx.symm, if_pos hx]
      · rw [if_neg (Ne.symm hx), if_neg hx, if_neg (Ne.symm hx)]
    · rename_i h
      simp only [mfind, mfind_set a x b m]
      by_cases hx : p.1 = x
      · rw [if_pos hx, if_pos hx, if_neg (by rw [← hx]; exact h)]
      · rw [if_neg hx, if_neg hx]
theorem keys_set {α β : Type} [DecidableEq α] (a : α) (b : β) : ∀ m : List (α × β), (m.map (·.1)).Nodup → ((mset a b m).map (·.1)).Nodup ∧ ∀ x, x ∈ (mset a b m).map (·.1) → x = a ∨ x ∈ m.map (·.1)
  | [], _ => ⟨by simp [mset], fun x h => by simpa [mset] using h⟩
  | p :: m, hn => by
    simp only [List.map_cons, List.nodup_cons] at hn
    obtain ⟨h1, h2⟩ := keys_set a b m hn.2
    simp only [mset]
    split
    · rename_i h
      exact ⟨by simpa using hn, fun x hx => .inr hx⟩
    · rename_i h
      refine ⟨?_, fun x hx => ?_⟩
      · simp only [List.map_cons, List.nodup_cons]
        refine ⟨fun hx => ?_, h1⟩
        rcases h2 _ hx with e | e
        · exact h e
        · exact hn.1 e
      · simp only [List.map_cons, List.mem_cons] at hx ⊢
        rcases hx with rfl | hx
        · exact .inr (.inl rfl)
        · rcases h2 _ hx with e | e
          · exact .inl e
          · exact .inr (.inr e)
theorem mdel_spec {α β : Type} [DecidableEq α] (a : α) : ∀ m : List (α × β), (m.map (·.1)).Nodup → ((mdel a m).map (·.1)).Nodup ∧ (∀ x, x ∈ (mdel a m).map (·.1) → x ∈ m.map (·.1)) ∧ ∀ x, mfind x (mdel a m) = if x = a then none else mfind x m
  | [], _ => ⟨by simp [mdel], fun x h => by simp [mdel] at h, fun x => by simp [mdel, mfind]⟩
  | p :: m, hn => by
    simp only [List.map_cons, List.nodup_cons] at hn
    obtain ⟨h1, h2, h3⟩ := mdel_spec a m hn.2
    simp only [mdel]
    split
    · rename_i h
      subst h
      refine ⟨hn.2, fun x hx => by simp [hx], fun x => ?_⟩
      simp only [mfind]
      by_cases hx : x = p.1
      · rw [if_pos hx]
        cases hm : mfind x m with
        | none => rfl
        | some b => exact absurd (List.mem_map.2 ⟨_, mfind_mem hm, rfl⟩) (by rw [hx]; exact hn.1)
      · rw [if_neg hx, if_neg (Ne.symm hx)]
    · rename_i h
      refine ⟨?_, fun x hx => ?_, fun x => ?_⟩
      · simp only [List.map_cons, List.nodup_cons]
        exact ⟨fun hx => hn.1 (h2 _ hx), h1⟩
      · simp only [List.map_cons, List.mem_cons] at hx ⊢
        rcases hx with rfl | hx
        · exact .inl rfl
        · exact .inr (h2 _ hx)
      · simp only [mfind, h3]
        by_cases hx : p.1 = x
        · rw [if_pos hx, if_pos hx, if_neg (by rw [← hx]; exact h)]
        · rw [if_neg hx, if_neg hx]
abbrev out (l : List Int) (x : Int) : List Int := l.filter (· ≠ x)
theorem mem_out {l : List Int} {x y : Int} : y ∈ out l x ↔ y ∈ l ∧ y ≠ x := by simp [out]
theorem nodup_app {a b : List Int} : (a ++ b).Nodup ↔ a.Nodup ∧ b.Nodup ∧ ∀ x, x ∈ a → x ∉ b := by
  rw [List.nodup_append]
  constructor
  · rintro ⟨h1, h2, h3⟩; exact ⟨h1, h2, fun x hx hb => h3 x hx x hb rfl⟩
  · rintro ⟨h1, h2, h3⟩; exact ⟨h1, h2, fun x hx y hy e => h3 x hx (e ▸ hy)⟩
theorem LOk.empty : LOk [] [] [] 0 := ⟨by simp, by simp, by simp [mfind], by simp, fun _ => 0, by simp, by simp [mfind], by simp, by simp⟩
/-- put first into the tried ones, or into the kept ones -/
theorem LOk.put {m : List (Int × Nat × Nat)} {tr kp : List Int} {t : Nat} {x : Int} {w v : Nat} {s : Bool} (h : LOk m tr kp t) (hx : 0 ≤ x ∧ x < 64) (hw : FV w ((t + 1 : Nat) : Int)) (hv : FV v (if s then 1 else 0)) :
    LOk (mset x (w, v) m) (if s then out tr x else x :: out tr x) (if s then x :: out kp x else out kp x) (t + 1) := by
  obtain ⟨h1, h2, h3, h4, g, g1, g2, g3, g4⟩ := h
  have hmem : ∀ y, y ∈ (if s then out tr x else x :: out tr x) ++ (if s then x :: out kp x else out kp x) ↔ y = x ∨ y ∈ tr ++ kp := by
    intro y
    cases s <;> simp only [List.mem_append, mem_out, List.mem_cons, if_true, Bool.false_eq_true, if_false] <;> by_cases e : y = x <;> simp [e]
  have hkp : ∀ y, y ≠ x → (y ∈ (if s then x :: out kp x else out kp x) ↔ y ∈ kp) := by
    intro y hy
    cases s <;> simp [mem_out, hy]
  obtain ⟨n1, n2, n3⟩ := nodup_app.1 h2
  refine ⟨fun y hy => ?_, ?_, fun y => ?_, (keys_set x (w, v) m h4).1, fun y => if y = x then t + 1 else g y, fun y hy => ?_, fun y p hp => ?_, ?_, ?_⟩
  · rcases (hmem y).1 hy with rfl | hy
    · exact hx
    · exact h1 y hy
  · have o1 : (out tr x).Nodup := n1.filter _
    have o2 : (out kp x).Nodup := n2.filter _
    rw [nodup_app]
    cases s <;> simp only [Bool.false_eq_true, if_false, if_true, List.nodup_cons]
    · exact ⟨⟨by simp [mem_out], o1⟩, o2, fun y hy hk => by
        rw [mem_out] at hk
        rcases List.mem_cons.1 hy with rfl | hy
        · exact hk.2 rfl
        · exact n3 y (mem_out.1 hy).1 hk.1⟩
    · exact ⟨o1, ⟨by simp [mem_out], o2⟩, fun y hy hk => by
        rw [mem_out] at hy
        rcases List.mem_cons.1 hk with rfl | hk
        · exact hy.2 rfl
        · exact n3 y hy.1 (mem_out.1 hk).1⟩
  · rw [hmem, mfind_set]
    by_cases e : y = x
    · simp [e]
    · rw [if_neg e, ← h3]; simp [e]
  · dsimp only
    rcases (hmem y).1 hy with rfl | hy
    · simp
    · split
      · omega
      · have := g1 y hy; omega
  · dsimp only
    rw [mfind_set] at hp
    by_cases e : y = x
    · subst e
      simp only [if_true, Option.some.injEq] at hp ⊢
      subst hp
      refine ⟨hw, ?_⟩
      cases s <;> simpa [mem_out] using hv
    · rw [if_neg e] at hp
      have := g2 y p hp
      rw [if_neg e]
      refine ⟨this.1, ?_⟩
      have hk := hkp y e
      by_cases hy : y ∈ kp
      · rw [if_pos (hk.2 hy)]; rw [if_pos hy] at this; exact this.2
      · rw [if_neg (fun q => hy (hk.1 q))]; rw [if_neg hy] at this; exact this.2
  · have base : (out tr x).Pairwise (fun a b => (if b = x then t + 1 else g b) < if a = x then t + 1 else g a) := by
      refine (g3.filter _).imp_of_mem fun {a b} ha hb hab => ?_
      rw [if_neg (mem_out.1 ha).2, if_neg (mem_out.1 hb).2]; exact hab
    cases s <;> simp only [Bool.false_eq_true, if_false, if_true]
    · refine List.pairwise_cons.2 ⟨fun y hy => ?_, base⟩
      rw [if_neg (mem_out.1 hy).2]
      have := g1 y (List.mem_append_left _ (mem_out.1 hy).1)
      simp; omega
    · exact base
  · have base : (out kp x).Pairwise (fun a b => (if b = x then t + 1 else g b) < if a = x then t + 1 else g a) := by
      refine (g4.filter _).imp_of_mem fun {a b} ha hb hab => ?_
      rw [if_neg (mem_out.1 ha).2, if_neg (mem_out.1 hb).2]; exact hab
    cases s <;> simp only [Bool.false_eq_true, if_false, if_true]
    · exact base
    · refine List.pairwise_cons.2 ⟨fun y hy => ?_, base⟩
      rw [if_neg (mem_out.1 hy).2]
      have := g1 y (List.mem_append_right _ (mem_out.1 hy).1)
      simp; omega
theorem LOk.rem {m : List (Int × Nat × Nat)} {tr kp : List Int} {t : Nat} {x : Int} (h : LOk m tr kp t) : LOk (mdel x m) (out tr x) (out kp x) t := by
  obtain ⟨h1, h2, h3, h4, g, g1, g2, g3, g4⟩ := h
  obtain ⟨d1, d2, d3⟩ := mdel_spec x m h4
  obtain ⟨n1, n2, n3⟩ := nodup_app.1 h2
  have hmem : ∀ y, y ∈ out tr x ++ out kp x ↔ y ∈ tr ++ kp ∧ y ≠ x := by
    intro y
    simp only [List.mem_append, mem_out]
    constructor
    · rintro (⟨a, b⟩ | ⟨a, b⟩)
      · exact ⟨.inl a, b⟩
      · exact ⟨.inr a, b⟩
    · rintro ⟨a | a, b⟩
      · exact .inl ⟨a, b⟩
      · exact .inr ⟨a, b⟩
  refine ⟨fun y hy => h1 y ((hmem y).1 hy).1, ?_, fun y => ?_, d1, g, fun y hy => g1 y ((hmem y).1 hy).1, fun y p hp => ?_, g3.filter _, g4.filter _⟩
  · exact nodup_app.2 ⟨n1.filter _, n2.filter _, fun y hy hk => n3 y (mem_out.1 hy).1 (mem_out.1 hk).1⟩
  · rw [hmem, d3]
    by_cases e : y = x
    · simp [e]
    · rw [if_neg e, ← h3]; simp [e]
  · rw [d3] at hp
    by_cases e : y = x
    · rw [if_pos e] at hp; cases hp
    · rw [if_neg e] at hp
      have := g2 y p hp
      refine ⟨this.1, ?_⟩
      have hk : y ∈ out kp x ↔ y ∈ kp := by simp [mem_out, e]
      by_cases hy : y ∈ kp
      · rw [if_pos (hk.2 hy)]; rw [if_pos hy] at this; exact this.2
      · rw [if_neg (fun q => hy (hk.1 q))]; rw [if_neg hy] at this; exact this.2
section
variable {e : Env} {rest ctx : List HProp} {tr kp : List Int} {most n : Nat}
theorem LRep.open {b : Nat} {c : WP} (h : ∀ r tw t m, LOk m tr kp t → FV tw (t : Nat) → t ≤ n → most ≤ 64 → Ent e (pt b [.map (some r), .float .f64 tw, .int .i64 most] :: Mp (intK .i64) cv r m :: rest) c) : Ent e (LRep b tr kp most n :: rest) c :=
  Ent.exs fun ⟨r, tw, t, m⟩ => Ent.g3 (Ent.pur fun ⟨h1, h2, h3, h4⟩ => h r tw t m h1 h2 h3 h4)
theorem LRep.imp {b r tw t : Nat} {m : List (Int × Nat × Nat)} (h1 : LOk m tr kp t) (h2 : FV tw (t : Nat)) (h3 : t ≤ n) (h4 : most ≤ 64) :
    Imp (pt b [.map (some r), .float .f64 tw, .int .i64 most] :: Mp (intK .i64) cv r m :: rest) (LRep b tr kp most n :: rest) :=
  Imp.exs (r, tw, t, m) (Imp.g3 (Imp.pur ⟨h1, h2, h3, h4⟩ (Imp.refl _)))
theorem LRep.fold {b r tw t : Nat} {m : List (Int × Nat × Nat)} {c : WP} (h1 : LOk m tr kp t) (h2 : FV tw (t : Nat)) (h3 : t ≤ n) (h4 : most ≤ 64) (h : Ent e (LRep b tr kp most n :: rest) c) :
    Ent e (pt b [.map (some r), .float .f64 tw, .int .i64 most] :: Mp (intK .i64) cv r m :: rest) c := h.imp (LRep.imp h1 h2 h3 h4)
theorem new_spec {K : Value → Int → WP} {kept : Int} (hbad : ¬ (0 ≤ kept ∧ kept ≤ 64) → Ent e rest (K (.pointer none) 1))
    (hok : ∀ b, 0 ≤ kept → kept ≤ 64 → Ent e (LRep b [] [] kept.toNat 0 :: rest) (K (.pointer (some ⟨b, 0, none⟩)) 0)) : Ent e rest (lru_New kept K) := by
  (refine Ent.fn lru_New_ok ?_; unfold lru_New_sh)
  refine Ent.condD (fun h => hbad (by omega)) fun h1 => ?_
  refine Ent.condD (fun h => hbad (by omega)) fun h2 => ?_
  refine Ent.mmake (intK .i64) cv fun r => ?_
  (refine Ent.go ?_)
  refine Ent.box' fun b => ?_
  obtain ⟨k, rfl⟩ := Int.eq_ofNat_of_zero_le (by omega : 0 ≤ kept)
  have := hok b (by omega) (by omega)
  rw [Int.toNat_natCast] at this
  exact LRep.fold LOk.empty fv0 (Nat.le_refl _) (by omega) this
theorem ready_spec {K : Int → WP} {b : Nat} {id : Int} {there : Bool} (h : Ent e (LRep b tr kp most n :: rest) (K (if id < 0 ∨ 64 ≤ id then 1 else if id ∈ tr ++ kp then (if there then 0 else 9) else (if there then 6 else 0)))) :
    Ent e (LRep b tr kp most n :: rest) (lru_List_ready (.pointer (some ⟨b, 0, none⟩)) id there K) := by
  (refine Ent.fn lru_List_ready_ok ?_; unfold lru_List_ready_sh)
  refine LRep.open fun r tw t m h1 h2 h3 h4 => ?_
  refine Ent.join ?_
  (refine Ent.go ?_)
  refine Ent.join ?_
  by_cases c1 : id < 0
  · rw [if_pos (.inl c1)] at h
    (refine Ent.go ?_)
    exact LRep.fold h1 h2 h3 h4 h
  by_cases c2 : 64 ≤ id
  · rw [if_pos (.inr c2)] at h
    (refine Ent.go ?_)
    exact LRep.fold h1 h2 h3 h4 h
  rw [if_neg (by omega)] at h
  (refine Ent.go ?_)
  refine Ent.mget2 (K := intK .i64) (vf := cv) (by (repeat (first | exact Has.hd | apply Has.tl))) rfl (dd_int rfl) (by kernel_rfl : zv 114 = some (.complex .f64 0 0)) (fun p hp => ?_) (fun hp => ?_)
  · rw [if_pos ((h1.keys id).2 ⟨p, hp⟩)] at h
    cases there <;> (refine Ent.go ?_; exact LRep.fold h1 h2 h3 h4 h)
  · rw [if_neg (fun hk => by obtain ⟨p, hq⟩ := (h1.keys id).1 hk; rw [hp] at hq; cases hq)] at h
    cases there <;> (refine Ent.go ?_; exact LRep.fold h1 h2 h3 h4 h)
theorem fv1 : FV 4607182418800017408 1 := ⟨by decide, .inr ⟨by decide, by decide +kernel⟩⟩
theorem st_cadd {t : TypeId} {X Y : Operand} {x y x' y' : Nat} {a b a' b' : Int} (hx : FV x a) (hy : FV y b) (hx' : FV x' a') (hy' : FV y' b') (h1 : (a + a').natAbs < 2 ^ 53) (h2 : (b + b').natAbs < 2 ^ 53) :
    ∃ z z', FV z (a + a') ∧ FV z' (b + b') ∧ Pu (bS .add t X Y (.complex .f64 x y) (.complex .f64 x' y')) (.complex .f64 z z') := by
  obtain ⟨z, g1, g2⟩ := hx.add hx' h1
  obtain ⟨z', g3, g4⟩ := hy.add hy' h2
  refine ⟨z, z', g2, g4, still_bS (Fl.guard_cpl _ _ _ _ _ _ _ _ _ _) fun w => ?_⟩
  have e1 : FloatKind.f64.format.add x x' = some z := g1
  have e2 : FloatKind.f64.format.add y y' = some z' := g3
  simp [binOp, Op.complexOp, Op.Complex.arith, Op.floatArith, e1, e2]
/-- the segment's value -/
abbrev sg (s : Bool) : Value := .complex .f64 0 (if s then 4607182418800017408 else 0)
theorem put_spec {K : Value → WP} {b : Nat} {id : Int} {s : Bool} (hid : 0 ≤ id ∧ id < 64) (hn : n < 4503599627370496)
    (h : Ent e (LRep b (if s then out tr id else id :: out tr id) (if s then id :: out kp id else out kp id) most (n + 1) :: rest) (K (.tuple #[]))) :
    Ent e (LRep b tr kp most n :: rest) (lru_List_put (.pointer (some ⟨b, 0, none⟩)) id (sg s) K) := by
  (refine Ent.fn lru_List_put_ok ?_; unfold lru_List_put_sh)
  refine LRep.open fun r tw t m h1 h2 h3 h4 => ?_
  (refine Ent.go ?_)
  obtain ⟨z, v, p⟩ := st_fadd (t := 105) (X := .tmp 9) (Y := .const (.float .f64 4607182418800017408)) h2 fv1 (by omega)
  refine Ent.opR p.still ?_
  (refine Ent.go ?_)
  refine Ent.puR st_cplx ?_
  have hsg : FV (if s then 4607182418800017408 else 0) (if s then 1 else 0) := by cases s; exact fv0; exact fv1
  obtain ⟨z1, z2, g1, g2, g3⟩ := st_cadd (t := 114) (X := .tmp 22) (Y := .tmp 23) v fv0 fv0 hsg (by omega) (by cases s <;> decide)
  refine Ent.puR g3 ?_
  have e1 : (t : Int) + 1 + 0 = ((t + 1 : Nat) : Int) := by omega
  have e2 : (0 : Int) + (if s = true then 1 else 0) = if s = true then 1 else 0 := by omega
  rw [e1] at g1
  rw [e2] at g2
  have e3 : (t : Int) + 1 = ((t + 1 : Nat) : Int) := by omega
  rw [e3] at v
  refine Ent.mset (K := intK .i64) (vf := cv) (b := (z1, z2)) (by (repeat (first | exact Upd.hd | apply Upd.tl))) rfl (dd_int rfl) ?_
  exact LRep.fold (h1.put hid g1 g2) v (by omega) h4 h
end
/-! ## the order -/
/-- the turn of a member, 0 of another -/
def tn (m : List (Int × Nat × Nat)) (g : Int → Nat) (x : Int) : Nat := if (mfind x m).isSome then g x else 0
/-- how two members are compared -/
def cf (G : Int → Nat) (x y : Int) : Int := if G y < G x then -1 else if G x < G y then 1 else 0
theorem cf_lt {G : Int → Nat} {x y : Int} : cf G x y < 0 ↔ G y < G x := by
  unfold cf; split
  · simp_all
  · split <;> simp_all <;> omega
theorem cf_swo (G : Int → Nat) : Go.Sort.SWO (ltOf (cf G)) :=
  ⟨fun x => by simp [ltOf, cf_lt], fun x y z h1 h2 => by simp only [ltOf, decide_eq_true_eq, cf_lt] at *; omega,
    fun x y z h1 h2 => by simp only [ltOf, decide_eq_false_iff_not, cf_lt] at *; omega⟩
theorem st_fgtr {t : TypeId} {X Y : Operand} {x y : Nat} {a b : Int} (hx : FV x a) (hy : FV y b) : Pu (bS .gtr t X Y (.float .f64 x) (.float .f64 y)) (.bool (decide (a > b))) :=
  still_bS (Fl.guard_flt _ _ _ _ _ _ _ _) fun w => by
    simp only [binOp, Op.floatCmp, ord hx hy, ne_eq, not_true_eq_false, if_false, Sem.run_pure]
    congr 2
    rcases Int.lt_trichotomy a b with h | h | h
    · rw [Int.compare_eq_lt.2 h, decide_eq_false (by omega)]; rfl
    · rw [Int.compare_eq_eq.2 h, decide_eq_false (by omega)]; rfl
    · rw [Int.compare_eq_gt.2 h, decide_eq_true (by omega)]; rfl
theorem st_fne {t : TypeId} {X Y : Operand} {x y : Nat} {a b : Int} (hx : FV x a) (hy : FV y b) : Pu (bS .neq t X Y (.float .f64 x) (.float .f64 y)) (.bool (!decide (a = b))) :=
  still_bS (Fl.guard_flt _ _ _ _ _ _ _ _) fun w => by
    simp only [binOp, Op.floatCmp, ord hx hy, ne_eq, not_true_eq_false, if_false, Sem.run_pure]
    congr 2
    rcases Int.lt_trichotomy a b with h | h | h
    · rw [Int.compare_eq_lt.2 h, decide_eq_false (by omega)]; rfl
    · rw [Int.compare_eq_eq.2 h, decide_eq_true (by omega)]; rfl
    · rw [Int.compare_eq_gt.2 h, decide_eq_false (by omega)]; rfl
section
variable {S : World → Prop} {e : Env} {ctx rest : List HProp} {tr kp : List Int} {most n : Nat}
theorem nan_q {x : Nat} {a : Int} {K : Bool → WP} (hx : FV x a) (h : QEnt S (K false)) : QEnt S (cmp_isNaN_float64 (.float .f64 x) K) := by
  refine QEnt.fn cmp_isNaN_float64_ok ?_
  unfold cmp_isNaN_float64_sh
  have := st_fne (t := 105) (X := .tmp 3) (Y := .tmp 4) hx hx
  rw [decide_eq_true rfl] at this
  exact QEnt.pB this h
theorem compare_q {x y : Nat} {a b : Nat} {K : Int → WP} (hx : FV x a) (hy : FV y b) (h : QEnt S (K (if a < b then -1 else if b < a then 1 else 0))) : QEnt S (cmp_Compare_float64 (.float .f64 x) (.float .f64 y) K) := by
  refine QEnt.fn cmp_Compare_float64_ok ?_
  unfold cmp_Compare_float64_sh
  refine nan_q hx ?_
  refine nan_q hy ?_
  refine QEnt.cF rfl ?_
  refine QEnt.cF rfl ?_
  refine QEnt.pB (st_flss hx hy) ?_
  by_cases h1 : a < b
  · rw [if_pos h1] at h
    exact QEnt.cT (by (first | rfl | exact decide_eq_true (by omega) | exact beq_iff_eq.2 (by omega) | exact bne_iff_ne.2 (by omega))) h
  rw [if_neg h1] at h
  refine QEnt.cF (by (first | rfl | exact decide_eq_false (by omega) | exact beq_eq_false_iff_ne.2 (by omega) | exact bne_eq_false_iff_eq.2 (by omega))) ?_
  refine QEnt.pB (st_fgtr hx hy) ?_
  by_cases h2 : b < a
  · rw [if_pos h2] at h
    exact QEnt.cT (by (first | rfl | exact decide_eq_true (by omega) | exact beq_iff_eq.2 (by omega) | exact bne_iff_ne.2 (by omega))) h
  rw [if_neg h2] at h
  exact QEnt.cF (by (first | rfl | exact decide_eq_false (by omega) | exact beq_eq_false_iff_ne.2 (by omega) | exact bne_eq_false_iff_eq.2 (by omega))) h
/-- a place read: the member's turn -/
theorem place {r : Nat} {m : List (Int × Nat × Nat)} {g : Int → Nat} (hm : Has ctx (Mp (intK .i64) cv r m)) (hg : ∀ x p, mfind x m = some p → FV p.1 (g x)) (x : Int) :
    ∃ a b, FV a (tn m g x) ∧ Still e ctx (vS (Instr.lookup 104 (.map (some r)) (.int .i64 x) false)) (.complex .f64 a b) := by
  unfold tn
  cases h : mfind x m with
  | some p =>
    refine ⟨p.1, p.2, by simpa using hg x p h, st_mgetT (K := intK .i64) (vf := cv) (b := p) hm rfl (dd_int rfl) h⟩
  | none =>
    exact ⟨0, 0, by simpa using fv0, st_mgetF (K := intK .i64) (vf := cv) hm rfl (dd_int rfl) h (by kernel_rfl : zv 114 = some (.complex .f64 0 0))⟩
theorem cmp_q {bx b r tw : Nat} {m : List (Int × Nat × Nat)} {g : Int → Nat} (q : QS S e ctx) (h1 : Has ctx (pt bx [.pointer (some ⟨b, 0, none⟩)])) (h2 : Has ctx (pt b [.map (some r), .float .f64 tw, .int .i64 most])) (hm : Has ctx (Mp (intK .i64) cv r m))
    (hg : ∀ x p, mfind x m = some p → FV p.1 (g x)) {x y : Int} {K : Int → WP} (h : QEnt S (K (cf (tn m g) x y))) : QEnt S (lru_List_in_c1 x y (.pointer (some ⟨bx, 0, none⟩)) K) := by
  refine QEnt.fn lru_List_in_c1_ok ?_
  unfold lru_List_in_c1_sh
  refine QEnt.draw q ?_
  obtain ⟨a1, b1, v1, p1⟩ := place (e := e) hm hg y
  obtain ⟨a2, b2, v2, p2⟩ := place (e := e) hm hg x
  refine QEnt.sR q (st_load h1 rfl rfl) ?_
  refine QEnt.nil (QEnt.qR (st_field rfl) (QEnt.sR q (st_load h2 rfl rfl) ?_))
  refine QEnt.sR q p1 (QEnt.qR st_real ?_)
  refine QEnt.sR q (st_load h1 rfl rfl) ?_
  refine QEnt.nil (QEnt.qR (st_field rfl) (QEnt.sR q (st_load h2 rfl rfl) ?_))
  refine QEnt.sR q p2 (QEnt.qR st_real ?_)
  exact compare_q v1 v2 (QEnt.and h)
theorem perm_of_mem : ∀ {l r : List Int}, l.Nodup → r.Nodup → (∀ x, x ∈ l ↔ x ∈ r) → l.Perm r
  | [], r, _, _, h => by
    cases r with
    | nil => exact .nil
    | cons y r => exact absurd ((h y).2 List.mem_cons_self) (by simp)
  | x :: l, r, h1, h2, h => by
    have hx : x ∈ r := (h x).1 List.mem_cons_self
    refine .trans (.cons x (perm_of_mem (List.nodup_cons.1 h1).2 (h2.erase x) fun y => ?_)) (List.perm_cons_erase hx).symm
    rw [h2.mem_erase_iff]
    constructor
    · intro hy
      exact ⟨fun e => (List.nodup_cons.1 h1).1 (e ▸ hy), (h y).1 (List.mem_cons_of_mem _ hy)⟩
    · rintro ⟨hn, hy⟩
      rcases List.mem_cons.1 ((h y).2 hy) with e | e
      · exact absurd e hn
      · exact e
theorem sorted_uniq {G : Int → Nat} : ∀ {l r : List Int}, l.Perm r → l.Pairwise (fun x y => G y ≤ G x) → r.Pairwise (fun x y => G y < G x) → l = r
  | [], r, p, _, _ => (List.nil_perm.1 p).symm
  | x :: l, [], p, _, _ => absurd p (by simp)
  | x :: l, y :: r, p, h1, h2 => by
    obtain ⟨a1, a2⟩ := List.pairwise_cons.1 h1
    obtain ⟨b1, b2⟩ := List.pairwise_cons.1 h2
    have e : x = y := by
      rcases List.mem_cons.1 (p.subset List.mem_cons_self) with e | hx
      · exact e
      · rcases List.mem_cons.1 (p.symm.subset List.mem_cons_self) with e | hy
        · exact e.symm
        · have := b1 x hx
          have := a1 y hy
          omega
    subst e
    rw [sorted_uniq (List.perm_cons _ |>.1 p) a2 b2]
theorem len_le : ∀ (N : Nat) (l : List Int), l.Nodup → (∀ x, x ∈ l → 0 ≤ x ∧ x < N) → l.length ≤ N
  | 0, l, _, h => by
    cases l with
    | nil => simp
    | cons x l => have := h x List.mem_cons_self; omega
  | N + 1, l, hn, h => by
    have ih := len_le N (l.erase (N : Int)) (hn.erase _) fun x hx => by
      rw [hn.mem_erase_iff] at hx
      have := h x hx.2
      have := hx.1
      omega
    by_cases hm : (N : Int) ∈ l
    · rw [List.length_erase_of_mem hm] at ih; omega
    · rw [List.erase_of_not_mem hm] at ih; omega
/-- the members of a segment, in their order -/
theorem in_spec {K : Value → WP} {b : Nat} {s : Bool} (h : ∀ a c, Ent e (SlO a (if s then kp else tr).length c 1 ((if s then kp else tr).map fun x => .int .i64 x) :: LRep b tr kp most n :: rest) (K (.slice a (if s then kp else tr).length c))) :
    Ent e (LRep b tr kp most n :: rest) (lru_List_in (.pointer (some ⟨b, 0, none⟩)) (sg s) K) := by
  (refine Ent.fn lru_List_in_ok ?_; unfold lru_List_in_sh)
  refine Ent.box' fun bx => ?_
  refine Ent.bring (A := LRep b tr kp most n) ?_
  refine LRep.open fun r tw t m h1 h2 h3 h4 => ?_
  (refine Ent.go ?_)
  refine Ent.mrange (K := intK .i64) (vf := cv) (by (repeat (first | exact Pick.hd | apply Pick.tl))) rfl fun i => ?_
  obtain ⟨g, g1, g2, g3, g4⟩ := h1.g
  have hid : ∀ x p, (x, p) ∈ m → (x ∈ tr ∨ x ∈ kp) ∧ FV p.1 (g x) ∧ FV p.2 (if x ∈ kp then 1 else 0) := fun x p hp => by
    have := mem_mfind h1.kn hp
    exact ⟨by simpa using (h1.keys x).2 ⟨p, this⟩, g2 x p this⟩
  obtain ⟨n1, n2, n3⟩ := nodup_app.1 h1.nd
  refine Ent.slN (sz := 1) ?_
  refine Ent.loop1 (k0 := .raw) (fun N v => exs (fun (x : List Int × List Int × Option Addr × Nat) =>
    sepL [pur (v = .slice x.2.2.1 (x.1.filter fun y => decide (y ∈ kp) == s).length x.2.2.2 ∧ (x.1 ++ x.2.1).Perm (m.map (·.1)) ∧ N = x.2.1.length),
      SlO x.2.2.1 (x.1.filter fun y => decide (y ∈ kp) == s).length x.2.2.2 1 ((x.1.filter fun y => decide (y ∈ kp) == s).map fun y => .int .i64 y), MpI (intK .i64) cv r i m x.1]) :: pt b [.map (some r), .float .f64 tw, .int .i64 most] :: pt bx [.pointer (some ⟨b, 0, none⟩)] :: rest) m.length ?_ ?_
  · refine Imp.exs ([], m.map (·.1), none, 0) (Imp.g3 (Imp.pur ⟨rfl, by simp, by simp⟩ ?_))
    (focus ((repeat ((with_reducible apply Imp.pick); (repeat (first | exact Pick.hd | apply Pick.tl)))); (repeat (first | exact Imp.refl _ | exact Imp.nil _ | apply Imp.drop)); done))
  intro N K' hK v
  refine Ent.exs fun ⟨dn, rm, a, c⟩ => Ent.g3 (Ent.pur fun ⟨f1, f2, f3⟩ => ?_)
  dsimp only at f1 f2 f3
  subst f1 f3
  dsimp only
  have hnd : (dn ++ rm).Nodup := f2.symm.nodup h1.kn
  obtain ⟨m1, m2, m3⟩ := nodup_app.1 hnd
  have hlen : dn.length + rm.length = m.length := by simpa using f2.length_eq
  have hkey : ∀ x, x ∈ dn ++ rm ↔ x ∈ tr ++ kp := fun x => by
    rw [f2.mem_iff, h1.keys]
    constructor
    · intro hx
      obtain ⟨p, hp, rfl⟩ := List.mem_map.1 hx
      exact ⟨p.2, mem_mfind h1.kn hp⟩
    · rintro ⟨p, hp⟩
      exact List.mem_map.2 ⟨_, mfind_mem hp, rfl⟩
  have hsm : m.length ≤ 64 := by
    have := len_le 64 (m.map (·.1)) h1.kn fun x hx => by
      obtain ⟨p, hp, rfl⟩ := List.mem_map.1 hx
      exact h1.ids p.1 ((h1.keys p.1).2 ⟨p.2, mem_mfind h1.kn hp⟩)
    simpa using this
  refine Ent.mnext (by (repeat (first | exact Pick.hd | apply Pick.tl))) (fun hall => ?_) (fun x p hp hx => ?_)
  · -- all have come
    have hrm : rm = [] := by
      cases rm with
      | nil => rfl
      | cons y rm =>
        exfalso
        have : y ∈ m.map (·.1) := f2.subset (by simp)
        obtain ⟨p, hp, rfl⟩ := List.mem_map.1 this
        exact m3 p.1 (hall p.1 p.2 hp) List.mem_cons_self
    subst hrm
    simp only [List.append_nil] at f2 hkey
    have hperm : (dn.filter fun y => decide (y ∈ kp) == s).Perm (if s then kp else tr) := by
      refine perm_of_mem (m1.filter _) (by cases s; exact n1; exact n2) fun x => ?_
      rw [List.mem_filter, hkey]
      cases s
      · simp only [beq_iff_eq, decide_eq_false_iff_not, List.mem_append, Bool.false_eq_true, if_false]
        exact ⟨fun ⟨a, b⟩ => a.resolve_right b, fun a => ⟨.inl a, n3 x a⟩⟩
      · simp only [beq_iff_eq, decide_eq_true_eq, List.mem_append, if_true]
        exact ⟨fun ⟨a, b⟩ => b, fun a => ⟨.inr a, a⟩⟩
    refine Ent.bring (A := SlO a _ c 1 _) ?_
    have hG : ∀ x, x ∈ tr ++ kp → tn m g x = g x := fun x hx => by
      obtain ⟨p, hp⟩ := (h1.keys x).1 hx
      simp [tn, hp]
    refine Ent.sortInts (cf (tn m g)) (cf_swo _) (by decide) rfl ?_ (fun W hW x y => ?_) fun l' hp hs => ?_
    · have := List.length_filter_le (fun y => decide (y ∈ kp) == s) dn
      omega
    · have q := qs_of hW
      refine quiet_int fun K hk => ?_
      have hq : QS (fun w => ∃ q, w = W.drewN q) e (Mp (intK .i64) cv r m :: pt b [.map (some r), .float .f64 tw, .int .i64 most] :: pt bx [.pointer (some ⟨b, 0, none⟩)] :: rest) :=
        ⟨fun w hw => (q.sat w hw).imp MpI.imp, q.dr⟩
      exact cmp_q hq (by (repeat (first | exact Has.hd | apply Has.tl))) (by (repeat (first | exact Has.hd | apply Has.tl))) (by (repeat (first | exact Has.hd | apply Has.tl))) (fun x p hp => (g2 x p hp).1) hk
    · have hl : l' = if s then kp else tr := by
        refine sorted_uniq (G := g) (hp.trans hperm) ?_ (by cases s; exact g3; exact g4)
        refine hs.imp_of_mem fun {a b} ha hb hab => ?_
        have ha' : a ∈ tr ++ kp := by
          have := (hp.trans hperm).subset ha
          cases s <;> simp_all
        have hb' : b ∈ tr ++ kp := by
          have := (hp.trans hperm).subset hb
          cases s <;> simp_all
        rw [cf_lt, hG a ha', hG b hb'] at hab
        omega
      subst hl
      have hln := hperm.length_eq
      rw [hln]
      refine Ent.imp ?_ (h a c)
      refine Imp.cons ?_
      refine Imp.trans (MpI.imp (K := intK .i64) (vf := cv)) ?_
      refine Imp.trans ?_ (LRep.imp (r := r) h1 h2 h3 h4)
      (focus ((repeat ((with_reducible apply Imp.pick); (repeat (first | exact Pick.hd | apply Pick.tl)))); (repeat (first | exact Imp.refl _ | exact Imp.nil _ | apply Imp.drop)); done))
  · -- one more
    obtain ⟨q1, q2, q3⟩ := hid x p hp
    refine Ent.mentry (K := intK .i64) (vf := cv) (dn := dn) (by (repeat (first | exact Has.hd | apply Has.tl))) hp rfl rfl ?_
    refine Ent.opR st_imag.still (Ent.opR st_imag.still ?_)
    have hsg : FV (if s then 4607182418800017408 else 0) (if s then 1 else 0) := by cases s; exact fv0; exact fv1
    refine Ent.opB (st_feq q3 hsg).still ?_
    have hxr : x ∈ rm := by
      have : x ∈ dn ++ rm := f2.symm.subset (List.mem_map.2 ⟨_, hp, rfl⟩)
      exact (List.mem_append.1 this).resolve_left hx
    have hpm : ((dn ++ [x]) ++ rm.erase x).Perm (m.map (·.1)) := by
      refine List.Perm.trans ?_ f2
      rw [List.append_assoc]
      exact List.Perm.append_left _ (List.perm_cons_erase hxr).symm
    have hle : (rm.erase x).length < rm.length := by
      rw [List.length_erase_of_mem hxr]
      have := List.length_pos_of_mem hxr
      omega
    have hfl : ∀ (v : Bool), (decide (x ∈ kp) == s) = v → (dn ++ [x]).filter (fun y => decide (y ∈ kp) == s) = dn.filter (fun y => decide (y ∈ kp) == s) ++ (if v then [x] else []) := by
      intro v hv
      rw [List.filter_append]
      cases v <;> simp [List.filter, hv]
    by_cases hc : (decide (x ∈ kp) == s) = true
    · have hfl := hfl true hc
      simp only [if_true] at hfl
      refine Ent.condT ?_ ?_
      · rw [beq_iff_eq] at hc
        subst hc
        by_cases hk : x ∈ kp <;> simp [hk]
      have hll := List.length_filter_le (fun y => decide (y ∈ kp) == s) dn
      refine Ent.app1 (fun a2 c2 => ?_)
      refine Ent.imp ?_ (hK (rm.erase x).length hle _)
      refine Imp.exs (dn ++ [x], rm.erase x, a2, c2) (Imp.g3 (Imp.pur ⟨by simp [hfl], hpm, rfl⟩ ?_))
      rw [hfl]
      simp only [List.map_append, List.map_cons, List.map_nil, List.length_append, List.length_cons, List.length_nil, Nat.zero_add]
      (focus ((repeat ((with_reducible apply Imp.pick); (repeat (first | exact Pick.hd | apply Pick.tl)))); (repeat (first | exact Imp.refl _ | exact Imp.nil _ | apply Imp.drop)); done))
    · have hfl := hfl false (by simpa using hc)
      simp only [Bool.false_eq_true, if_false, List.append_nil] at hfl
      refine Ent.condF ?_ ?_
      · cases s <;> by_cases hk : x ∈ kp <;> simp_all
      refine Ent.imp ?_ (hK (rm.erase x).length hle _)
      refine Imp.exs (dn ++ [x], rm.erase x, a, c) (Imp.g3 (Imp.pur ⟨by simp only [hfl], hpm, rfl⟩ ?_))
      rw [hfl]
      (focus ((repeat ((with_reducible apply Imp.pick); (repeat (first | exact Pick.hd | apply Pick.tl)))); (repeat (first | exact Imp.refl _ | exact Imp.nil _ | apply Imp.drop)); done))
end
end Go.Proofs.YtfofnagocedlgaaGreatDoor.Lr
end
section
/-
  THE LRU LIST (layer 20): its calls.
-/
set_option maxRecDepth 100000
set_option linter.unusedVariables false
set_option linter.unusedSectionVars false
set_option linter.unusedSimpArgs false
set_option maxHeartbeats 0
namespace Go.Proofs.YtfofnagocedlgaaGreatDoor.Lr
open Go Sh Sl Fl
attribute [local irreducible] condK ArK NilK OpK FnK StK joinK loopK DrawK andK PuK NxK EnK vS uS bS callS invokeS
/-- a list's numbers as cells -/
abbrev ic (l : List Int) : List Value := l.map fun x => .int .i64 x
section
variable {e : Env} {ctx rest : List HProp} {tr kp : List Int} {most n : Nat}
theorem tried_spec {K : Value → WP} {b : Nat} (h : ∀ a c, Ent e (SlO a tr.length c 1 (ic tr) :: LRep b tr kp most n :: rest) (K (.slice a tr.length c))) :
    Ent e (LRep b tr kp most n :: rest) (lru_List_Tried (.pointer (some ⟨b, 0, none⟩)) K) := by
  (refine Ent.fn lru_List_Tried_ok ?_; unfold lru_List_Tried_sh)
  exact in_spec (s := false) h
theorem kept_spec {K : Value → WP} {b : Nat} (h : ∀ a c, Ent e (SlO a kp.length c 1 (ic kp) :: LRep b tr kp most n :: rest) (K (.slice a kp.length c))) :
    Ent e (LRep b tr kp most n :: rest) (lru_List_Kept (.pointer (some ⟨b, 0, none⟩)) K) := by
  (refine Ent.fn lru_List_Kept_ok ?_; unfold lru_List_Kept_sh)
  exact in_spec (s := true) h
/-- the answers of a call, and what is left -/
def addC (tr kp : List Int) (id : Int) : Int := if id < 0 ∨ 64 ≤ id then 1 else if id ∈ tr ++ kp then 9 else 0
def toC (tr kp : List Int) (id : Int) : Int := if id < 0 ∨ 64 ≤ id then 1 else if id ∈ tr ++ kp then 0 else 6
theorem out_id {l : List Int} {x : Int} (h : x ∉ l) : out l x = l := by
  unfold out
  rw [List.filter_eq_self]
  intro y hy
  simp only [decide_eq_true_eq]
  exact fun e => h (e ▸ hy)
theorem LRep.more {b n' : Nat} {c : WP} (hn : n ≤ n') (h : Ent e (LRep b tr kp most n' :: rest) c) : Ent e (LRep b tr kp most n :: rest) c :=
  LRep.open fun r tw t m h1 h2 h3 h4 => LRep.fold h1 h2 (by omega) h4 h
theorem LRep.ok {b : Nat} {c : WP} (h : (∃ m t, LOk m tr kp t) → most ≤ 64 → Ent e (LRep b tr kp most n :: rest) c) : Ent e (LRep b tr kp most n :: rest) c :=
  LRep.open fun r tw t m h1 h2 h3 h4 => LRep.fold h1 h2 h3 h4 (h ⟨_, _, h1⟩ h4)
theorem add_spec {K : Int → WP} {b : Nat} {id : Int} (hn : n < 4503599627370496) (hno : addC tr kp id ≠ 0 → Ent e (LRep b tr kp most n :: rest) (K (addC tr kp id)))
    (hok : 0 ≤ id → id < 64 → id ∉ tr ++ kp → Ent e (LRep b (id :: tr) kp most (n + 1) :: rest) (K 0)) : Ent e (LRep b tr kp most n :: rest) (lru_List_Add (.pointer (some ⟨b, 0, none⟩)) id K) := by
  (refine Ent.fn lru_List_Add_ok ?_; unfold lru_List_Add_sh)
  refine ready_spec ?_
  unfold addC at hno
  by_cases c1 : id < 0 ∨ 64 ≤ id
  · rw [if_pos c1] at hno ⊢
    (refine Ent.go ?_)
    exact hno (by decide)
  rw [if_neg c1] at hno ⊢
  by_cases c2 : id ∈ tr ++ kp
  · rw [if_pos c2] at hno ⊢
    (refine Ent.go ?_)
    exact hno (by decide)
  · rw [if_neg c2]
    (refine Ent.go ?_)
    have ho : id ∉ tr ∧ id ∉ kp := by simpa using c2
    have := hok (by omega) (by omega) c2
    refine put_spec (s := false) (by omega) hn ?_
    simp only [Bool.false_eq_true, if_false, out_id ho.1, out_id ho.2]
    exact this
/-- behind a touch -/
def toT (tr kp : List Int) (most : Nat) (id : Int) : List Int × List Int :=
  if most < (id :: out kp id).length then ((id :: out kp id).getLast (by simp) :: out tr id, out (id :: out kp id) ((id :: out kp id).getLast (by simp))) else (out tr id, id :: out kp id)
theorem touch_spec {K : Int → WP} {b : Nat} {id : Int} (hn : n + 1 < 4503599627370496) (hno : toC tr kp id ≠ 0 → Ent e (LRep b tr kp most n :: rest) (K (toC tr kp id)))
    (hok : 0 ≤ id → id < 64 → id ∈ tr ++ kp → Ent e (LRep b (toT tr kp most id).1 (toT tr kp most id).2 most (n + 2) :: rest) (K 0)) : Ent e (LRep b tr kp most n :: rest) (lru_List_Touch (.pointer (some ⟨b, 0, none⟩)) id K) := by
  (refine Ent.fn lru_List_Touch_ok ?_; unfold lru_List_Touch_sh)
  refine ready_spec ?_
  unfold toC at hno
  by_cases c1 : id < 0 ∨ 64 ≤ id
  · rw [if_pos c1] at hno ⊢
    (refine Ent.go ?_)
    exact hno (by decide)
  rw [if_neg c1] at hno ⊢
  by_cases c2 : id ∈ tr ++ kp
  rotate_left
  · rw [if_neg c2] at hno ⊢
    (refine Ent.go ?_)
    exact hno (by decide)
  rw [if_pos c2]
  (refine Ent.go ?_)
  have ho := hok (by omega) (by omega) c2
  unfold toT at ho
  refine put_spec (s := true) (by omega) (by omega) ?_
  simp only [if_true]
  refine kept_spec fun a c => ?_
  refine Ent.bring (A := LRep b _ _ most _) ?_
  refine LRep.open fun r tw t m h1 h2 h3 h4 => ?_
  obtain ⟨L, hL⟩ : ∃ L, L = id :: out kp id := ⟨_, rfl⟩
  have hpos : 0 < L.length := by rw [hL]; simp
  by_cases hl : most < (id :: out kp id).length
  · rw [if_pos hl] at ho
    have hlast : (id :: out kp id)[(((id :: out kp id).length : Int) - 1).toNat]? = some ((id :: out kp id).getLast (by simp)) := by
      rw [List.getLast_eq_getElem, ← List.getElem?_eq_getElem]
      congr 1
      omega
    obtain ⟨x, hx⟩ : ∃ x, x = (id :: out kp id).getLast (by simp) := ⟨_, rfl⟩
    rw [← hx] at hlast ho
    have hmem : x ∈ id :: out kp id := hx ▸ List.getLast_mem _
    rw [← hL] at hl hlast ho hmem h1 ⊢
    have h64 := len_le 64 L (nodup_app.1 h1.nd).2.1 (fun y hy => h1.ids y (List.mem_append_right _ hy))
    (refine Ent.go ?_)
    have hid := h1.ids x (List.mem_append_right _ hmem)
    refine LRep.fold h1 h2 h3 h4 ?_
    refine put_spec (s := false) hid (by omega) ?_
    simp only [Bool.false_eq_true, if_false]
    rw [out_id (l := out tr id) (fun hx => (nodup_app.1 h1.nd).2.2 x hx hmem)]
    refine Ent.imp ?_ ho
    (focus ((repeat ((with_reducible apply Imp.pick); (repeat (first | exact Pick.hd | apply Pick.tl)))); (repeat (first | exact Imp.refl _ | exact Imp.nil _ | apply Imp.drop)); done))
  · rw [if_neg hl] at ho
    rw [← hL] at hl ho h1 ⊢
    (refine Ent.go ?_)
    refine LRep.fold h1 h2 h3 h4 ?_
    refine LRep.more (n' := n + 2) (by omega) ?_
    refine Ent.imp ?_ ho
    (focus ((repeat ((with_reducible apply Imp.pick); (repeat (first | exact Pick.hd | apply Pick.tl)))); (repeat (first | exact Imp.refl _ | exact Imp.nil _ | apply Imp.drop)); done))
theorem remove_spec {K : Int → WP} {b : Nat} {id : Int} (hno : toC tr kp id ≠ 0 → Ent e (LRep b tr kp most n :: rest) (K (toC tr kp id)))
    (hok : 0 ≤ id → id < 64 → id ∈ tr ++ kp → Ent e (LRep b (out tr id) (out kp id) most n :: rest) (K 0)) : Ent e (LRep b tr kp most n :: rest) (lru_List_Remove (.pointer (some ⟨b, 0, none⟩)) id K) := by
  (refine Ent.fn lru_List_Remove_ok ?_; unfold lru_List_Remove_sh)
  refine ready_spec ?_
  unfold toC at hno
  by_cases c1 : id < 0 ∨ 64 ≤ id
  · rw [if_pos c1] at hno ⊢
    (refine Ent.go ?_)
    exact hno (by decide)
  rw [if_neg c1] at hno ⊢
  by_cases c2 : id ∈ tr ++ kp
  rotate_left
  · rw [if_neg c2] at hno ⊢
    (refine Ent.go ?_)
    exact hno (by decide)
  rw [if_pos c2]
  (refine Ent.go ?_)
  refine LRep.open fun r tw t m h1 h2 h3 h4 => ?_
  (refine Ent.go ?_)
  refine Ent.mdel (K := intK .i64) (vf := cv) (by (repeat (first | exact Upd.hd | apply Upd.tl))) rfl (dd_int rfl) ?_
  exact LRep.fold h1.rem h2 h3 h4 (hok (by omega) (by omega) c2)
/-- who goes first -/
def vic (tr kp : List Int) : Int × Bool := match tr.getLast? with
  | some x => (x, true)
  | none => match kp.getLast? with
    | some x => (x, true)
    | none => (0, false)
theorem last_get {l : List Int} {x : Int} (h : l.getLast? = some x) : l[((l.length : Int) - 1).toNat]? = some x := by
  rw [List.getLast?_eq_getElem?] at h
  rw [← h]; congr 1; omega
theorem victim_spec {K : Int → Bool → WP} {b : Nat} (h : Ent e (LRep b tr kp most n :: rest) (K (vic tr kp).1 (vic tr kp).2)) :
    Ent e (LRep b tr kp most n :: rest) (lru_List_Victim (.pointer (some ⟨b, 0, none⟩)) K) := by
  (refine Ent.fn lru_List_Victim_ok ?_; unfold lru_List_Victim_sh)
  refine LRep.ok fun ⟨m, t, hok⟩ _ => ?_
  have h64 := len_le 64 tr (nodup_app.1 hok.nd).1 (fun y hy => hok.ids y (List.mem_append_left _ hy))
  have h65 := len_le 64 kp (nodup_app.1 hok.nd).2.1 (fun y hy => hok.ids y (List.mem_append_right _ hy))
  clear hok
  refine tried_spec fun a1 c1 => ?_
  refine Ent.bring (A := LRep b _ _ _ _) ?_
  refine kept_spec fun a2 c2 => ?_
  refine Ent.slice (x := 108) (sz := 1) (by_ := 24) (out := [.slice a1 tr.length c1, .slice a2 kp.length c2]) rfl rfl rfl rfl (by decide) (by decide) (by rfl) fun s => ?_
  (refine Ent.go ?_)
  refine Ent.rngL0 2 (fun k => [pur (k = 0 ∨ tr = []), pur (k ≤ 1 ∨ kp = []), pt s [.slice a1 tr.length c1, .slice a2 kp.length c2], SlO a2 kp.length c2 1 (ic kp), LRep b tr kp most n, SlO a1 tr.length c1 1 (ic tr)] ++ rest) rfl ?_ ?_
  · exact Imp.pur (.inl rfl) (Imp.pur (.inl (by omega)) (Imp.refl _))
  intro k hk K' hK
  refine Ent.pur fun hk0 => Ent.pur fun hk1 => ?_
  have fin : ∀ (x : Int) (v : Bool), vic tr kp = (x, v) → Ent e (pt s [.slice a1 tr.length c1, .slice a2 kp.length c2] :: SlO a2 kp.length c2 1 (ic kp) :: LRep b tr kp most n :: SlO a1 tr.length c1 1 (ic tr) :: rest) (K x v) := by
    intro x v hv
    rw [hv] at h
    refine Ent.imp ?_ h
    (focus ((repeat ((with_reducible apply Imp.pick); (repeat (first | exact Pick.hd | apply Pick.tl)))); (repeat (first | exact Imp.refl _ | exact Imp.nil _ | apply Imp.drop)); done))
  match k, hk with
  | 0, _ =>
    (refine Ent.go ?_)
    cases ht : tr.getLast? with
    | some x =>
      have hne : 0 < tr.length := by cases tr; simp at ht; simp
      have hlast := last_get ht
      (refine Ent.go ?_)
      exact fin x true (by unfold vic; rw [ht])
    | none =>
      have hz : tr = [] := by simpa using ht
      subst hz
      (refine Ent.go ?_)
      refine Ent.imp ?_ (hK (by omega))
      exact Imp.pur (.inr rfl) (Imp.pur (.inl (by omega)) (Imp.refl _))
  | 1, _ =>
    have hz : tr = [] := by rcases hk0 with h | h; cases h; exact h
    subst hz
    (refine Ent.go ?_)
    cases ht : kp.getLast? with
    | some x =>
      have hne : 0 < kp.length := by cases kp; simp at ht; simp
      have hlast := last_get ht
      (refine Ent.go ?_)
      exact fin x true (by unfold vic; simp only [List.getLast?_nil]; rw [ht])
    | none =>
      have hz : kp = [] := by simpa using ht
      subst hz
      (refine Ent.go ?_)
      refine Ent.imp ?_ (hK (by omega))
      exact Imp.pur (.inr rfl) (Imp.pur (.inr rfl) (Imp.refl _))
  | 2, _ =>
    have hz : tr = [] := by rcases hk0 with h | h; cases h; exact h
    have hz2 : kp = [] := by rcases hk1 with h | h; omega; exact h
    subst hz hz2
    (refine Ent.go ?_)
    exact fin _ _ rfl
theorem clone_ext : ∀ args w, (callFunc 92 args).run P w = (vS (Extern.MapsClone.clone args)).run P w := by intro args w; kernel_rfl
theorem clone_spec {K : Value → WP} {r : Nat} {m : List (Int × Nat × Nat)} (hh : Has ctx (Mp (intK .i64) cv r m)) (h : ∀ r', Ent e (Mp (intK .i64) cv r' m :: ctx) (K (.map (some r')))) : Ent e ctx (maps_Clone_int_complex128 (.map (some r)) K) := by
  (refine Ent.fn maps_Clone_int_complex128_ok ?_; unfold maps_Clone_int_complex128_sh)
  (refine Ent.go ?_)
  refine Ent.opR (st_iface rfl).still ?_
  refine Ent.mclone clone_ext hh fun r' => ?_
  refine Ent.opR (st_assertM rfl).still ?_
  exact h r'
theorem copy_spec {K : Value → WP} {b : Nat} (h : ∀ b', Ent e (LRep b' tr kp most n :: LRep b tr kp most n :: rest) (K (.pointer (some ⟨b', 0, none⟩)))) :
    Ent e (LRep b tr kp most n :: rest) (lru_List_Copy (.pointer (some ⟨b, 0, none⟩)) K) := by
  (refine Ent.fn lru_List_Copy_ok ?_; unfold lru_List_Copy_sh)
  refine LRep.open fun r tw t m h1 h2 h3 h4 => ?_
  (refine Ent.go ?_)
  refine Ent.alloc' fun o => ?_
  (refine Ent.go ?_)
  refine clone_spec (m := m) (by (repeat (first | exact Has.hd | apply Has.tl))) fun r' => ?_
  (refine Ent.go ?_)
  refine Ent.bring (A := Mp _ _ r' m) ?_
  refine Ent.bring (A := pt o _) ?_
  refine LRep.fold h1 h2 h3 h4 ?_
  refine Ent.bring (A := Mp _ _ r m) ?_
  refine Ent.bring (A := pt b _) ?_
  refine LRep.fold h1 h2 h3 h4 ?_
  refine Ent.fin (h o)
theorem in_nil {K : Value → WP} {s : Value} (h : Ent e ctx (K (.slice none 0 0))) : Ent e ctx (lru_List_in (.pointer none) s K) := by
  (refine Ent.fn lru_List_in_ok ?_; unfold lru_List_in_sh)
  refine Ent.box' fun bx => ?_
  (refine Ent.go ?_)
  exact h.drop
theorem tried_nil {K : Value → WP} (h : Ent e ctx (K (.slice none 0 0))) : Ent e ctx (lru_List_Tried (.pointer none) K) := by
  (refine Ent.fn lru_List_Tried_ok ?_; unfold lru_List_Tried_sh)
  exact in_nil h
theorem kept_nil {K : Value → WP} (h : Ent e ctx (K (.slice none 0 0))) : Ent e ctx (lru_List_Kept (.pointer none) K) := by
  (refine Ent.fn lru_List_Kept_ok ?_; unfold lru_List_Kept_sh)
  exact in_nil h
theorem victim_nil {K : Int → Bool → WP} (h : Ent e ctx (K 0 false)) : Ent e ctx (lru_List_Victim (.pointer none) K) := by
  (refine Ent.fn lru_List_Victim_ok ?_; unfold lru_List_Victim_sh)
  refine tried_nil (kept_nil ?_)
  refine Ent.slice (x := 108) (sz := 1) (by_ := 24) (out := [.slice none 0 0, .slice none 0 0]) rfl rfl rfl rfl (by decide) (by decide) (by rfl) fun s => ?_
  (refine Ent.go ?_)
  refine Ent.rngL0 2 (fun k => pt s [.slice none 0 0, .slice none 0 0] :: ctx) rfl (Imp.refl _) ?_
  intro k hk K' hK
  match k, hk with
  | 0, _ => (refine Ent.go ?_); exact hK (by omega)
  | 1, _ => (refine Ent.go ?_); exact hK (by omega)
  | 2, _ => (refine Ent.go ?_); exact h.drop
theorem ready_nil {K : Int → WP} {id : Int} {b : Bool} (h : Ent e ctx (K 2)) : Ent e ctx (lru_List_ready (.pointer none) id b K) := by
  (refine Ent.fn lru_List_ready_ok ?_; unfold lru_List_ready_sh)
  refine Ent.join ?_
  (refine Ent.go ?_)
  exact h
theorem add_nil {K : Int → WP} {id : Int} (h : Ent e ctx (K 2)) : Ent e ctx (lru_List_Add (.pointer none) id K) := by
  (refine Ent.fn lru_List_Add_ok ?_; unfold lru_List_Add_sh)
  refine ready_nil ?_
  (refine Ent.go ?_)
  exact h
theorem touch_nil {K : Int → WP} {id : Int} (h : Ent e ctx (K 2)) : Ent e ctx (lru_List_Touch (.pointer none) id K) := by
  (refine Ent.fn lru_List_Touch_ok ?_; unfold lru_List_Touch_sh)
  refine ready_nil ?_
  (refine Ent.go ?_)
  exact h
theorem remove_nil {K : Int → WP} {id : Int} (h : Ent e ctx (K 2)) : Ent e ctx (lru_List_Remove (.pointer none) id K) := by
  (refine Ent.fn lru_List_Remove_ok ?_; unfold lru_List_Remove_sh)
  refine ready_nil ?_
  (refine Ent.go ?_)
  exact h
theorem copy_nil {K : Value → WP} (h : Ent e ctx (K (.pointer none))) : Ent e ctx (lru_List_Copy (.pointer none) K) := by
  (refine Ent.fn lru_List_Copy_ok ?_; unfold lru_List_Copy_sh)
  (refine Ent.go ?_)
  exact h
end
end Go.Proofs.YtfofnagocedlgaaGreatDoor.Lr
end
section
/-
  THE LRU LIST (layer 20): the document's own list; what the document's examples say.
-/
set_option maxRecDepth 100000
set_option linter.unusedVariables false
set_option linter.unusedSectionVars false
set_option linter.unusedSimpArgs false
set_option maxHeartbeats 0
namespace Go.Proofs.YtfofnagocedlgaaGreatDoor.Lr
open Go Sh Sl Fl
attribute [local irreducible] condK ArK NilK OpK FnK StK joinK loopK DrawK andK PuK NxK EnK vS uS bS callS invokeS
section
variable {e : Env} {ctx rest : List HProp} {tr kp : List Int} {most n : Nat}
theorem has_spec {K : Bool → WP} {l : List Int} {a : Option Addr} {c : Nat} {id : Int} (hr : Rd rest a (ic l)) (hb : l.length ≤ 4611686018427387904) (h : Ent e rest (K (decide (id ∈ l)))) : Ent e rest (ref20_has (.slice a l.length c) id K) := by
  (refine Ent.fn ref20_has_ok ?_; unfold ref20_has_sh)
  refine Ent.rngL0 l.length (fun k => pur (id ∉ l.take k) :: rest) rfl (Imp.pur (by simp) (Imp.refl _)) ?_
  intro k hk K' hK
  refine Ent.pur fun hno => ?_
  by_cases hl : k < l.length
  · obtain ⟨x, hx⟩ : ∃ x, l[(k : Int).toNat]? = some x := ⟨_, List.getElem?_eq_getElem hl⟩
    (refine Ent.go ?_)
    refine Ent.condE (fun hx2 => ?_) (fun hx2 => ?_)
    · subst hx2
      rw [decide_eq_true (List.mem_of_getElem? hx)] at h
      exact h
    · (refine Ent.go ?_)
      refine Ent.imp (Imp.pur ?_ (Imp.refl _)) (hK hl)
      rw [List.take_succ_eq_append_getElem hl]
      have e1 : l[k] = x := by
        have := List.getElem?_eq_getElem hl
        rw [Int.toNat_natCast] at hx
        rw [hx] at this; exact (Option.some.inj this).symm
      simp [hno, e1, Ne.symm hx2]
  · (refine Ent.go ?_)
    rw [List.take_of_length_le (by omega)] at hno
    rw [decide_eq_false hno] at h
    exact h
theorem without_spec {K : Value → WP} {l : List Int} {a : Option Addr} {c : Nat} {id : Int} (hr : Rd rest a (ic l)) (hb : l.length ≤ 65536) (h : ∀ a' c', Ent e (SlO a' (out l id).length c' 1 (ic (out l id)) :: rest) (K (.slice a' (out l id).length c'))) :
    Ent e rest (ref20_without (.slice a l.length c) id K) := by
  (refine Ent.fn ref20_without_ok ?_; unfold ref20_without_sh)
  refine Ent.rngL1 (k0 := .raw) l.length (fun k v => exs (fun (x : Option Addr × Nat) => sepL [pur (v = .slice x.1 (out (l.take k) id).length x.2), SlO x.1 (out (l.take k) id).length x.2 1 (ic (out (l.take k) id))]) :: rest) rfl ?_ ?_
  · exact Imp.exs (none, 0) (Imp.g2 (Imp.pur (by simp) (by simpa using Imp.slN (Imp.refl _))))
  intro k hk K' hK v
  refine Ent.exs fun ⟨a', c'⟩ => Ent.g2 (Ent.pur fun hv => ?_)
  dsimp only at hv
  subst hv
  by_cases hl : k < l.length
  · obtain ⟨x, hx⟩ : ∃ x, l[(k : Int).toNat]? = some x := ⟨_, List.getElem?_eq_getElem hl⟩
    have e1 : l.take (k + 1) = l.take k ++ [x] := by
      rw [List.take_succ_eq_append_getElem hl]
      have := List.getElem?_eq_getElem hl
      rw [Int.toNat_natCast] at hx
      rw [hx] at this; rw [Option.some.inj this]
    have hle : (out (l.take k) id).length ≤ 65536 := Nat.le_trans (List.length_filter_le _ _) (by simp; omega)
    (refine Ent.go ?_)
    refine Ent.condN (fun hx2 => ?_) (fun hx2 => ?_)
    · have e2 : out (l.take (k + 1)) id = out (l.take k) id ++ [x] := by rw [e1]; simp [out, List.filter_append, hx2]
      (refine Ent.go ?_)
      refine Ent.app1 (fun a2 c2 => ?_)
      (refine Ent.go ?_)
      refine Ent.imp ?_ (hK hl _)
      refine Imp.exs (a2, c2) (Imp.g2 (Imp.pur (by simp [e2]) ?_))
      rw [e2]
      simpa using Imp.refl _
    · have e2 : out (l.take (k + 1)) id = out (l.take k) id := by rw [e1]; simp [out, List.filter_append, hx2]
      (refine Ent.go ?_)
      refine Ent.imp ?_ (hK hl _)
      refine Imp.exs (a', c') (Imp.g2 (Imp.pur (by rw [e2]) ?_))
      rw [e2]
      exact Imp.refl _
  · (refine Ent.go ?_)
    rw [List.take_of_length_le (by omega)]
    exact h a' c'
theorem ahead_spec {K : Value → WP} {l : List Int} {a : Option Addr} {c : Nat} {id : Int} (hr : Rd rest a (ic l)) (hb : l.length ≤ 65536) (h : ∀ a' c', Ent e (SlO a' (id :: l).length c' 1 (ic (id :: l)) :: rest) (K (.slice a' (id :: l).length c'))) :
    Ent e rest (ref20_ahead (.slice a l.length c) id K) := by
  (refine Ent.fn ref20_ahead_ok ?_; unfold ref20_ahead_sh)
  refine Ent.slN (sz := 1) ?_
  refine Ent.app1 (fun a2 c2 => ?_)
  refine Ent.appN (hr.mono (by (focus (repeat (first | exact Imp.refl _ | exact Imp.nil _ | apply Imp.drop))))) (fun a3 c3 => ?_)
  have := h a3 c3
  simp only [List.length_cons, List.map_cons] at this
  simp only [List.nil_append, List.singleton_append, Nat.zero_add]
  rw [Nat.add_comm] 
  exact this
end
end Go.Proofs.YtfofnagocedlgaaGreatDoor.Lr
end
section
/-
  THE LRU LIST (layer 20): the calls of the document's own list; what the document's examples say.
-/
set_option maxRecDepth 100000
set_option linter.unusedVariables false
set_option linter.unusedSectionVars false
set_option linter.unusedSimpArgs false
set_option maxHeartbeats 0
namespace Go.Proofs.YtfofnagocedlgaaGreatDoor.Lr
open Go Sh Sl Fl
attribute [local irreducible] condK ArK NilK OpK FnK StK joinK loopK DrawK andK PuK NxK EnK vS uS bS callS invokeS
def RRep (b : Nat) (tr kp : List Int) (most : Nat) : HProp := exs fun (x : Option Addr × Nat × Option Addr × Nat) =>
  sepL [pt b [.slice x.1 tr.length x.2.1, .slice x.2.2.1 kp.length x.2.2.2, .int .i64 most], SlO x.1 tr.length x.2.1 1 (ic tr), SlO x.2.2.1 kp.length x.2.2.2 1 (ic kp)]
section
variable {e : Env} {ctx rest : List HProp} {tr kp : List Int} {most n : Nat}
theorem RRep.open {b : Nat} {c : WP} (h : ∀ a1 c1 a2 c2, (∀ ctx', Has ctx' (SlO a1 tr.length c1 1 (ic tr)) → Rd ctx' a1 (ic tr)) → (∀ ctx', Has ctx' (SlO a2 kp.length c2 1 (ic kp)) → Rd ctx' a2 (ic kp)) →
    Ent e (pt b [.slice a1 tr.length c1, .slice a2 kp.length c2, .int .i64 most] :: SlO a1 tr.length c1 1 (ic tr) :: SlO a2 kp.length c2 1 (ic kp) :: rest) c) : Ent e (RRep b tr kp most :: rest) c := by
  refine Ent.exs fun ⟨a1, c1, a2, c2⟩ => Ent.g3 ?_
  dsimp only
  refine Ent.bring (A := SlO a1 tr.length c1 1 (ic tr)) ?_
  refine Ent.rdS fun r1 _ => ?_
  refine Ent.bring (A := SlO a2 kp.length c2 1 (ic kp)) ?_
  refine Ent.rdS fun r2 _ => ?_
  exact Ent.fin (h a1 c1 a2 c2 r1 r2)
theorem RRep.imp {b c1 c2 : Nat} {a1 a2 : Option Addr} : Imp (pt b [.slice a1 tr.length c1, .slice a2 kp.length c2, .int .i64 most] :: SlO a1 tr.length c1 1 (ic tr) :: SlO a2 kp.length c2 1 (ic kp) :: rest) (RRep b tr kp most :: rest) :=
  Imp.exs (a1, c1, a2, c2) (Imp.g3 (Imp.refl _))
/-- folding, wherever the parts lie -/
theorem RRep.fold {b c1 c2 : Nat} {a1 a2 : Option Addr} {r r' r'' : List HProp} {c : WP} (h : Ent e (RRep b tr kp most :: r'') c) (h1 : Pick ctx (pt b [.slice a1 tr.length c1, .slice a2 kp.length c2, .int .i64 most]) r := by (repeat (first | exact Pick.hd | apply Pick.tl)))
    (h2 : Pick r (SlO a1 tr.length c1 1 (ic tr)) r' := by (repeat (first | exact Pick.hd | apply Pick.tl))) (h3 : Pick r' (SlO a2 kp.length c2 1 (ic kp)) r'' := by (repeat (first | exact Pick.hd | apply Pick.tl))) : Ent e ctx c := by
  refine h.imp ?_
  refine Imp.trans ?_ (RRep.imp (b := b) (c1 := c1) (c2 := c2) (a1 := a1) (a2 := a2))
  exact Imp.pick h1 (Imp.pick h2 (Imp.pick h3 (Imp.refl _)))
theorem rnew_spec {K : Value → Int → WP} {kept : Int} (hbad : ¬ (0 ≤ kept ∧ kept ≤ 64) → Ent e rest (K (.pointer none) 1))
    (hok : ∀ b, 0 ≤ kept → kept ≤ 64 → Ent e (RRep b [] [] kept.toNat :: rest) (K (.pointer (some ⟨b, 0, none⟩)) 0)) : Ent e rest (ref20_New kept K) := by
  (refine Ent.fn ref20_New_ok ?_; unfold ref20_New_sh)
  refine Ent.condD (fun h => hbad (by omega)) fun h1 => ?_
  refine Ent.condD (fun h => hbad (by omega)) fun h2 => ?_
  (refine Ent.go ?_)
  refine Ent.box' fun b => ?_
  obtain ⟨k, rfl⟩ := Int.eq_ofNat_of_zero_le (by omega : 0 ≤ kept)
  have := hok b (by omega) (by omega)
  rw [Int.toNat_natCast] at this
  refine Ent.slN (sz := 1) (Ent.slN (sz := 1) ?_)
  refine Ent.bring (A := pt b _) ?_
  exact this.imp (RRep.imp (tr := []) (kp := []))
theorem rmay_spec {K : Bool → WP} {id : Int} (h : Ent e ctx (K (decide (0 ≤ id ∧ id < 64)))) : Ent e ctx (ref20_may id K) := by
  (refine Ent.fn ref20_may_ok ?_; unfold ref20_may_sh)
  refine Ent.condD (fun h1 => ?_) fun h1 => ?_
  · by_cases h2 : id < 64
    · rw [decide_eq_true h2]; rw [decide_eq_true ⟨by omega, h2⟩] at h; exact h
    · rw [decide_eq_false h2]; rw [decide_eq_false (by omega)] at h; exact h
  · rw [decide_eq_false (by omega)] at h; exact h
theorem rhas_spec {K : Bool → WP} {b : Nat} {id : Int} (l1 : tr.length ≤ 64) (l2 : kp.length ≤ 64) (h : Ent e (RRep b tr kp most :: rest) (K (decide (id ∈ tr ++ kp)))) : Ent e (RRep b tr kp most :: rest) (ref20_List_Has (.pointer (some ⟨b, 0, none⟩)) id K) := by
  (refine Ent.fn ref20_List_Has_ok ?_; unfold ref20_List_Has_sh)
  refine RRep.open fun a1 c1 a2 c2 r1 r2 => ?_
  (refine Ent.go ?_)
  refine has_spec (r1 _ (by (repeat (first | exact Has.hd | apply Has.tl)))) (by omega) ?_
  by_cases h1 : id ∈ tr
  · rw [decide_eq_true h1]
    rw [decide_eq_true (List.mem_append_left _ h1)] at h
    (refine Ent.go ?_)
    exact RRep.fold h
  · rw [decide_eq_false h1]
    (refine Ent.go ?_)
    refine has_spec (r2 _ (by (repeat (first | exact Has.hd | apply Has.tl)))) (by omega) ?_
    have e1 : decide (id ∈ tr ++ kp) = decide (id ∈ kp) := by simp [h1]
    rw [e1] at h
    exact RRep.fold h
theorem radd_spec {K : Int → WP} {b : Nat} {id : Int} (l1 : tr.length ≤ 64) (l2 : kp.length ≤ 64) (hno : addC tr kp id ≠ 0 → Ent e (RRep b tr kp most :: rest) (K (addC tr kp id)))
    (hok : 0 ≤ id → id < 64 → id ∉ tr ++ kp → Ent e (RRep b (id :: tr) kp most :: rest) (K 0)) : Ent e (RRep b tr kp most :: rest) (ref20_List_Add (.pointer (some ⟨b, 0, none⟩)) id K) := by
  (refine Ent.fn ref20_List_Add_ok ?_; unfold ref20_List_Add_sh)
  refine rmay_spec ?_
  unfold addC at hno
  by_cases q1 : id < 0 ∨ 64 ≤ id
  · rw [if_pos q1] at hno
    rw [decide_eq_false (by omega)]
    (refine Ent.go ?_)
    exact hno (by decide)
  rw [if_neg q1] at hno
  rw [decide_eq_true (by omega)]
  (refine Ent.go ?_)
  refine rhas_spec l1 l2 ?_
  by_cases q2 : id ∈ tr ++ kp
  · rw [if_pos q2] at hno
    rw [decide_eq_true q2]
    (refine Ent.go ?_)
    exact hno (by decide)
  · rw [decide_eq_false q2]
    refine RRep.open fun a1 c1 a2 c2 r1 r2 => ?_
    (refine Ent.go ?_)
    refine ahead_spec (r1 _ (by (repeat (first | exact Has.hd | apply Has.tl)))) (by omega) fun a3 c3 => ?_
    (refine Ent.go ?_)
    refine RRep.fold (tr := id :: tr) ?_
    exact Ent.fin (hok (by omega) (by omega) q2)
theorem rtouch_spec {K : Int → WP} {b : Nat} {id : Int} (l1 : tr.length ≤ 64) (l2 : kp.length ≤ 64) (hno : toC tr kp id ≠ 0 → Ent e (RRep b tr kp most :: rest) (K (toC tr kp id)))
    (hok : 0 ≤ id → id < 64 → id ∈ tr ++ kp → Ent e (RRep b (toT tr kp most id).1 (toT tr kp most id).2 most :: rest) (K 0)) : Ent e (RRep b tr kp most :: rest) (ref20_List_Touch (.pointer (some ⟨b, 0, none⟩)) id K) := by
  (refine Ent.fn ref20_List_Touch_ok ?_; unfold ref20_List_Touch_sh)
  refine rmay_spec ?_
  unfold toC at hno
  by_cases q1 : id < 0 ∨ 64 ≤ id
  · rw [if_pos q1] at hno
    rw [decide_eq_false (by omega)]
    (refine Ent.go ?_)
    exact hno (by decide)
  rw [if_neg q1] at hno
  rw [decide_eq_true (by omega)]
  (refine Ent.go ?_)
  refine rhas_spec l1 l2 ?_
  by_cases q2 : id ∈ tr ++ kp
  rotate_left
  · rw [if_neg q2] at hno
    rw [decide_eq_false q2]
    (refine Ent.go ?_)
    exact hno (by decide)
  rw [decide_eq_true q2]
  have ho := hok (by omega) (by omega) q2
  unfold toT at ho
  refine RRep.open fun a1 c1 a2 c2 r1 r2 => ?_
  have f1 : (out tr id).length ≤ tr.length := List.length_filter_le _ _
  have f2 : (out kp id).length ≤ kp.length := List.length_filter_le _ _
  (refine Ent.go ?_)
  refine without_spec (r1 _ (by (repeat (first | exact Has.hd | apply Has.tl)))) (by omega) fun a3 c3 => ?_
  refine Ent.rdS fun r3 _ => ?_
  (refine Ent.go ?_)
  refine without_spec (r2 _ (by (repeat (first | exact Has.hd | apply Has.tl)))) (by omega) fun a4 c4 => ?_
  refine Ent.rdS fun r4 _ => ?_
  refine ahead_spec (r4 _ (by (repeat (first | exact Has.hd | apply Has.tl)))) (by omega) fun a5 c5 => ?_
  refine Ent.rdS fun r5 _ => ?_
  obtain ⟨L, hL⟩ : ∃ L, L = id :: out kp id := ⟨_, rfl⟩
  have hpos : 0 < L.length ∧ L.length ≤ 65 := by rw [hL]; simp; omega
  by_cases hl : most < (id :: out kp id).length
  · rw [if_pos hl] at ho
    have hlast : (id :: out kp id)[(id :: out kp id).length - 1]? = some ((id :: out kp id).getLast (by simp)) := by
      rw [List.getLast_eq_getElem, ← List.getElem?_eq_getElem]
    obtain ⟨x, hx⟩ : ∃ x, x = (id :: out kp id).getLast (by simp) := ⟨_, rfl⟩
    rw [← hx] at hlast ho
    rw [← hL] at hl hlast ho r5 ⊢
    have e1 : ((L.length : Int) - 1).toNat = L.length - 1 := by omega
    have f3 : (out L x).length ≤ L.length := List.length_filter_le _ _
    rw [← e1] at hlast
    (refine Ent.go ?_)
    refine without_spec (r5 _ (by (repeat (first | exact Has.hd | apply Has.tl)))) (by omega) fun a6 c6 => ?_
    (refine Ent.go ?_)
    refine ahead_spec (r3 _ (by (repeat (first | exact Has.hd | apply Has.tl)))) (by omega) fun a7 c7 => ?_
    (refine Ent.go ?_)
    refine RRep.fold (tr := x :: out tr id) (kp := out L x) ?_
    exact Ent.fin ho
  · rw [if_neg hl] at ho
    rw [← hL] at hl ho r5 ⊢
    (refine Ent.go ?_)
    refine RRep.fold (tr := out tr id) (kp := L) ?_
    exact Ent.fin ho
end
end Go.Proofs.YtfofnagocedlgaaGreatDoor.Lr
end
section
/-
  THE LRU LIST (layer 20): the document's own list's other calls; what the document's examples say.
-/
set_option maxRecDepth 100000
set_option linter.unusedVariables false
set_option linter.unusedSectionVars false
set_option linter.unusedSimpArgs false
set_option maxHeartbeats 0
namespace Go.Proofs.YtfofnagocedlgaaGreatDoor.Lr
open Go Sh Sl Fl
attribute [local irreducible] condK ArK NilK OpK FnK StK joinK loopK DrawK andK PuK NxK EnK vS uS bS callS invokeS
section
variable {e : Env} {ctx rest : List HProp} {tr kp : List Int} {most n : Nat}
theorem rremove_spec {K : Int → WP} {b : Nat} {id : Int} (l1 : tr.length ≤ 64) (l2 : kp.length ≤ 64) (hno : toC tr kp id ≠ 0 → Ent e (RRep b tr kp most :: rest) (K (toC tr kp id)))
    (hok : 0 ≤ id → id < 64 → id ∈ tr ++ kp → Ent e (RRep b (out tr id) (out kp id) most :: rest) (K 0)) : Ent e (RRep b tr kp most :: rest) (ref20_List_Remove (.pointer (some ⟨b, 0, none⟩)) id K) := by
  (refine Ent.fn ref20_List_Remove_ok ?_; unfold ref20_List_Remove_sh)
  refine rmay_spec ?_
  unfold toC at hno
  by_cases q1 : id < 0 ∨ 64 ≤ id
  · rw [if_pos q1] at hno
    rw [decide_eq_false (by omega)]
    (refine Ent.go ?_)
    exact hno (by decide)
  rw [if_neg q1] at hno
  rw [decide_eq_true (by omega)]
  (refine Ent.go ?_)
  refine rhas_spec l1 l2 ?_
  by_cases q2 : id ∈ tr ++ kp
  rotate_left
  · rw [if_neg q2] at hno
    rw [decide_eq_false q2]
    (refine Ent.go ?_)
    exact hno (by decide)
  rw [decide_eq_true q2]
  refine RRep.open fun a1 c1 a2 c2 r1 r2 => ?_
  (refine Ent.go ?_)
  refine without_spec (r1 _ (by (repeat (first | exact Has.hd | apply Has.tl)))) (by omega) fun a3 c3 => ?_
  (refine Ent.go ?_)
  refine without_spec (r2 _ (by (repeat (first | exact Has.hd | apply Has.tl)))) (by omega) fun a4 c4 => ?_
  (refine Ent.go ?_)
  refine RRep.fold (tr := out tr id) (kp := out kp id) ?_
  exact Ent.fin (hok (by omega) (by omega) q2)
theorem rvictim_spec {K : Int → Bool → WP} {b : Nat} (l1 : tr.length ≤ 64) (l2 : kp.length ≤ 64) (h : Ent e (RRep b tr kp most :: rest) (K (vic tr kp).1 (vic tr kp).2)) :
    Ent e (RRep b tr kp most :: rest) (ref20_List_Victim (.pointer (some ⟨b, 0, none⟩)) K) := by
  (refine Ent.fn ref20_List_Victim_ok ?_; unfold ref20_List_Victim_sh)
  refine RRep.open fun a1 c1 a2 c2 r1 r2 => ?_
  unfold vic at h
  cases ht : tr.getLast? with
  | some x =>
    rw [ht] at h
    have hne : 0 < tr.length := by cases tr; simp at ht; simp
    have hlast := last_get ht
    (refine Ent.go ?_)
    exact RRep.fold h
  | none =>
    rw [ht] at h
    have hz : tr = [] := by simpa using ht
    subst hz
    cases ht2 : kp.getLast? with
    | some x =>
      rw [ht2] at h
      have hne : 0 < kp.length := by cases kp; simp at ht2; simp
      have hlast := last_get ht2
      (refine Ent.go ?_)
      exact RRep.fold (tr := []) h
    | none =>
      rw [ht2] at h
      have hz : kp = [] := by simpa using ht2
      subst hz
      (refine Ent.go ?_)
      exact RRep.fold (tr := []) (kp := []) h
/-- a list that was just written down -/
theorem Ent.nums {t : Nat} {l : List Int} {ps : Array (Nat × Value)} {n : Nat} {c : Value → WP} (h : ∀ b, Ent e (pt b (ic l) :: ctx) (c (.slice (some ⟨b, 0, none⟩) n n))) (hn : n = l.length := by exact rfl) (ht : dd t = some (.sl 3) := by exact rfl)
    (hf : fillL (fun i => some (i * 1, 1)) (List.replicate n [Value.int .i64 0]).flatten ps.toList = some (ic l) := by exact rfl) (hb : n * 1 ≤ 16777216 := by decide) : Ent e ctx (oR (vS (Instr.buildSlice t n ps)) c) := by
  subst hn
  exact Ent.slice (x := 3) (sz := 1) (by_ := 8) ht rfl rfl rfl hb (by decide) hf h
theorem touch_to {K : Int → WP} {b : Nat} {id : Int} {tr' kp' : List Int} (ht : toT tr kp most id = (tr', kp')) (hc : toC tr kp id = 0) (hn : n + 1 < 4503599627370496)
    (hok : Ent e (LRep b tr' kp' most (n + 2) :: rest) (K 0)) : Ent e (LRep b tr kp most n :: rest) (lru_List_Touch (.pointer (some ⟨b, 0, none⟩)) id K) := by
  refine touch_spec hn (fun h => absurd hc h) fun _ _ _ => ?_
  rw [ht]; exact hok
theorem add_to {K : Int → WP} {b : Nat} {id : Int} (hc : addC tr kp id = 0) (hn : n < 4503599627370496)
    (hok : Ent e (LRep b (id :: tr) kp most (n + 1) :: rest) (K 0)) : Ent e (LRep b tr kp most n :: rest) (lru_List_Add (.pointer (some ⟨b, 0, none⟩)) id K) :=
  add_spec hn (fun h => absurd hc h) fun _ _ _ => hok
theorem add_no {K : Int → WP} {b : Nat} {id x : Int} (hc : addC tr kp id = x) (hx : x ≠ 0) (hn : n < 4503599627370496)
    (hok : Ent e (LRep b tr kp most n :: rest) (K x)) : Ent e (LRep b tr kp most n :: rest) (lru_List_Add (.pointer (some ⟨b, 0, none⟩)) id K) :=
  add_spec hn (fun _ => by rw [hc]; exact hok) fun h1 h2 h3 => absurd hc (by unfold addC; rw [if_neg (by omega), if_neg h3]; exact Ne.symm hx)
theorem touch_no {K : Int → WP} {b : Nat} {id x : Int} (hc : toC tr kp id = x) (hx : x ≠ 0) (hn : n + 1 < 4503599627370496)
    (hok : Ent e (LRep b tr kp most n :: rest) (K x)) : Ent e (LRep b tr kp most n :: rest) (lru_List_Touch (.pointer (some ⟨b, 0, none⟩)) id K) :=
  touch_spec hn (fun _ => by rw [hc]; exact hok) fun h1 h2 h3 => absurd hc (by unfold toC; rw [if_neg (by omega), if_pos h3]; exact Ne.symm hx)
theorem remove_no {K : Int → WP} {b : Nat} {id x : Int} (hc : toC tr kp id = x) (hx : x ≠ 0)
    (hok : Ent e (LRep b tr kp most n :: rest) (K x)) : Ent e (LRep b tr kp most n :: rest) (lru_List_Remove (.pointer (some ⟨b, 0, none⟩)) id K) :=
  remove_spec (fun _ => by rw [hc]; exact hok) fun h1 h2 h3 => absurd hc (by unfold toC; rw [if_neg (by omega), if_pos h3]; exact Ne.symm hx)
end
end Go.Proofs.YtfofnagocedlgaaGreatDoor.Lr
end
section
/-
  THE STORE (layer 21): how it lies in memory; the range over its entries.
-/
set_option maxRecDepth 100000
set_option linter.unusedVariables false
set_option linter.unusedSectionVars false
set_option linter.unusedSimpArgs false
set_option maxHeartbeats 0
namespace Go.Proofs.YtfofnagocedlgaaGreatDoor.Tx
open Go Sh Sl
open Go.RowKit
attribute [local irreducible] condK ArK NilK OpK FnK StK joinK loopK DrawK andK PuK NxK EnK vS uS bS callS invokeS
def ez : Et := ⟨[], 0, 0, none, 0, [], 0, [], 0, none, 0, [], none, 0, []⟩
abbrev slC (o : Option Et) : List Value := ec (o.getD ez) ++ [.bool o.isSome]
theorem slC_len (o : Option Et) : (slC o).length = 10 := rfl
def SC (X : List (Option Et)) (lb : Nat) (bytes most used : Int) : List Value := (X.map slC).flatten ++ [.pointer (some ⟨lb, 0, none⟩), .int .i64 bytes, .int .i64 most, .int .i64 used]
section
variable {X : List (Option Et)} {lb : Nat} {bytes most used : Int}
theorem flat10 (X : List (Option Et)) : ((X.map slC).flatten).length = X.length * 10 := flat_len slC 10 (fun _ => rfl) X
theorem SC_len (hX : X.length = 64) : (SC X lb bytes most used).length = 644 := by unfold SC; rw [List.length_append, flat10, hX]; rfl
theorem SC_tl (hX : X.length = 64) {j : Nat} {v : Value} (h : [Value.pointer (some ⟨lb, 0, none⟩), .int .i64 bytes, .int .i64 most, .int .i64 used][j]? = some v) : (SC X lb bytes most used)[0 + (640 + j)]? = some v := by
  unfold SC
  rw [List.getElem?_append_right (by rw [flat10, hX]; omega), flat10, hX]
  have : 0 + (640 + j) - 64 * 10 = j := by omega
  rw [this]; exact h
theorem SC_list (hX : X.length = 64) : (SC X lb bytes most used)[0 + 640]? = some (.pointer (some ⟨lb, 0, none⟩)) := SC_tl hX (j := 0) rfl
theorem SC_bytes (hX : X.length = 64) : (SC X lb bytes most used)[0 + 641]? = some (.int .i64 bytes) := SC_tl hX (j := 1) rfl
theorem SC_most (hX : X.length = 64) : (SC X lb bytes most used)[0 + 642]? = some (.int .i64 most) := SC_tl hX (j := 2) rfl
theorem SC_used (hX : X.length = 64) : (SC X lb bytes most used)[0 + 643]? = some (.int .i64 used) := SC_tl hX (j := 3) rfl
theorem SC_arr (hX : X.length = 64) : ((SC X lb bytes most used).drop 0).take 640 = (X.map slC).flatten := by
  unfold SC
  rw [List.drop_zero, List.take_append_of_le_length (by rw [flat10, hX]; omega), List.take_of_length_le (by rw [flat10, hX]; omega)]
theorem SC_slot {i : Nat} {o : Option Et} (h : X[i]? = some o) : ((SC X lb bytes most used).drop (i * 10)).take 10 = slC o := by
  have hi := (List.getElem?_eq_some_iff.1 h).1
  unfold SC
  rw [List.drop_append_of_le_length (by rw [flat10]; omega), List.take_append_of_le_length (by rw [List.length_drop, flat10]; omega)]
  exact flat_sub slC 10 (fun _ => rfl) h
theorem SC_entry {i : Nat} {x : Et} (h : X[i]? = some (some x)) : ((SC X lb bytes most used).drop (i * 10)).take 9 = ec x := by
  have h1 := SC_slot (lb := lb) (bytes := bytes) (most := most) (used := used) h
  have h2 := congrArg (List.take 9) h1
  rw [List.take_take] at h2
  exact h2
theorem flat_set {α : Type} (f : α → List Value) (k : Nat) (hf : ∀ x, (f x).length = k) (y : α) : ∀ (xs : List α) (i : Nat), i < xs.length → ((xs.map f).flatten).take (i * k) ++ f y ++ ((xs.map f).flatten).drop (i * k + k) = ((xs.set i y).map f).flatten
  | [], i, h => by simp at h
  | x :: xs, 0, _ => by
    simp only [List.map_cons, List.flatten_cons, Nat.zero_mul, List.take_zero, List.nil_append, Nat.zero_add, List.set_cons_zero]
    rw [List.drop_append_of_le_length (by rw [hf]; omega), List.drop_eq_nil_of_le (by rw [hf]; omega), List.nil_append]
  | x :: xs, i + 1, h => by
    have ih := flat_set f k hf y xs i (by simpa using h)
    simp only [List.map_cons, List.flatten_cons, List.set_cons_succ]
    rw [← ih]
    have e1 : (i + 1) * k = k + i * k := by rw [Nat.add_mul, Nat.one_mul, Nat.add_comm]
    rw [e1, List.take_append, List.drop_append, hf, List.take_of_length_le (by rw [hf]; omega), List.drop_eq_nil_of_le (by rw [hf]; omega)]
    have e2 : k + i * k - k = i * k := by omega
    have e3 : k + i * k + k - k = i * k + k := by omega
    rw [e2, e3]
    simp
theorem SC_setSlot {i : Nat} (hi : i < X.length) (o : Option Et) : (SC X lb bytes most used).take (0 + 0 + i * 10) ++ slC o ++ (SC X lb bytes most used).drop (0 + 0 + i * 10 + (slC o).length) = SC (X.set i o) lb bytes most used := by
  unfold SC
  rw [show 0 + 0 + i * 10 = i * 10 by omega, slC_len, List.take_append_of_le_length (by rw [flat10]; omega), List.drop_append_of_le_length (by rw [flat10]; omega), ← List.append_assoc, flat_set slC 10 (fun _ => rfl) o X i hi]
theorem SC_setUsed (hX : X.length = 64) (u : Int) : (SC X lb bytes most used).set (0 + 643) (.int .i64 u) = SC X lb bytes most u := by
  unfold SC
  rw [List.set_append_right _ _ (by rw [flat10, hX]; omega), flat10, hX]
  rfl
end
/-- entries' texts lie still -/
structure RdEM (M : Hp) (x : Et) : Prop where
  w : RdM M x.wa (fc x.wl)
  f : RdM M x.fa (fc x.fl)
  b : RdM M x.ba_ (u8 x.bl)
theorem RdEM.rd {M : Hp} {ctx : List HProp} {x : Et} (h : RdEM M x) (hh : Has ctx (Sl.ro M)) : RdE ctx x := ⟨h.w.rd hh, h.f.rd hh, h.b.rd hh⟩
theorem RdEM.mono {M M' : Hp} {x : Et} (h : RdEM M x) (hl : Hp.le M M') : RdEM M' x := ⟨h.w.mono hl, h.f.mono hl, h.b.mono hl⟩
def used (X : List (Option Et)) : Nat := (X.map fun o => match o with | some x => size x | none => 0).sum
def cnt (X : List (Option Et)) : Nat := (X.filter (·.isSome)).length
structure SOk (M : Hp) (X : List (Option Et)) (tr kp : List Int) (bytes most : Nat) : Prop where
  len : X.length = 64
  rd : ∀ x, some x ∈ X → RdEM M x ∧ EB x
  mem : ∀ i : Nat, (∃ x, X[i]? = some (some x)) ↔ (i : Int) ∈ tr ++ kp
  us : used X ≤ bytes
  by_ : bytes ≤ 262144
  ms : most ≤ 64
  lt : ∀ i : Nat, most ≤ i → ∀ x, X[i]? ≠ some (some x)
def SRep (M : Hp) (b : Nat) (X : List (Option Et)) (tr kp : List Int) (bytes most n : Nat) : HProp := exs fun (lb : Nat) =>
  sepL [pur (SOk M X tr kp bytes most), pt b (SC X lb bytes most (used X)), Lr.LRep lb tr kp (most * 2 / 3) n]
section
variable {e : Env} {ctx ctx' rest R : List HProp} {M : Hp} {b : Nat} {X : List (Option Et)} {tr kp : List Int} {bytes most n : Nat}
theorem SRep.open {p : WP} (h : ∀ lb, SOk M X tr kp bytes most → Ent e (pt b (SC X lb bytes most (used X)) :: Lr.LRep lb tr kp (most * 2 / 3) n :: rest) p) : Ent e (SRep M b X tr kp bytes most n :: rest) p :=
  Ent.exs fun lb => Ent.g3 (Ent.pur fun hk => h lb hk)
theorem SRep.shut {lb : Nat} (hk : SOk M X tr kp bytes most) : Imp (pt b (SC X lb bytes most (used X)) :: Lr.LRep lb tr kp (most * 2 / 3) n :: rest) (SRep M b X tr kp bytes most n :: rest) :=
  Imp.exs lb (Imp.g3 (Imp.pur hk (Imp.refl _)))
abbrev ptr (b : Nat) : Value := .pointer (some ⟨b, 0, none⟩)
theorem st_ixSlot {xs : List (Option Et)} {i : Nat} {y : Option Et} (hy : xs[i]? = some y) (hi : i < 64) : Pu (vS (Instr.index 70 (.agg ((xs.map slC).flatten).toArray) (.int .i64 (i : Int)))) (.agg (slC y).toArray) := Still.of_run fun w => by
  obtain ⟨i', h2, h3, _⟩ := szof_spec (t := 69) (n := 10) (b := (szof 69).get!.2) (by rfl)
  obtain ⟨_, _, h4, _, h5, h6⟩ := ag_spec (t := 69) (n := 10) (by rfl)
  rw [h2] at h4; cases h4
  have hf := flat_sub slC 10 (fun _ => rfl) hy
  have h1' : (i : Int) < ((64 : Nat) : Int) := by omega
  have h0 : (0 : Int) ≤ (i : Int) := by omega
  have hil := (List.getElem?_eq_some_iff.1 hy).1
  have hlen := flat10 xs
  simp only [Instr.index, asIntOf, Sem.run_bind, Sem.run_pure, Result.andThen_ok, run_underlying (dd_arr (t := 70) (n := 64) (x := 69) rfl), h0, h1', and_self, if_true, run_sizeOf' h2, h5, part, h6, Int.toNat_natCast]
  have e1 : ((xs.map slC).flatten).toArray.extract (i * 10) (i * 10 + 10) = (slC y).toArray := by
    apply Array.toList_inj.1
    rw [Array.toList_extract]
    simp only [List.extract]
    rw [show i * 10 + 10 - i * 10 = 10 by omega]
    exact hf
  simp only [Sem.run_ite, if_true, e1, Sem.run_pure, Result.andThen_ok, h5]
/-- the range over the entries of a store -/
theorem all_iter {K : Value → WP} {q sb lb : Nat} {r0 : Loop} {by_ ms us : Int} (hX : X.length = 64) (J : List HProp) (I : Nat → List HProp) (hh : Has J (pt b (SC X lb by_ ms us))) (hJ : Imp J (I 0))
    (hy : ∀ (k : Nat) (x : Et) (c : Bool → WP), X[k]? = some (some x) → k < 64 → Ent e (Sl.ob (q + 1) (lp r0 .ready none) :: I (k + 1)) (c true) →
      Ent e (Sl.ob (q + 1) (lp r0 .ready none) :: I k) (OpK P (.one .bool) (callS (.func (.yield (q + 1)) #[] #[]) #[.int .i64 (k : Int), .agg (ec x).toArray]) c))
    (hn : ∀ k, X[k]? = some none → Imp (I k) (I (k + 1))) (h : Ent e (Sl.ob (q + 1) (lp r0 .ready none) :: I 64) (K (.tuple #[]))) :
    Ent e (Sl.ob (q + 1) (lp r0 .ready none) :: pt sb [ptr b] :: J) (store_Store_all_c1 (.func (.yield (q + 1)) #[] #[]) (ptr sb) K) := by
  (refine Ent.fn store_Store_all_c1_ok ?_; unfold store_Store_all_c1_sh)
  (refine Ent.go ?_)
  refine Ent.opR (v := .agg ((X.map slC).flatten).toArray) (st_loadA (n := 640) (.tl (.tl hh)) (by rfl) (SC_arr hX) (by rw [flat10, hX])) ?_
  refine Ent.rngL0 64 (fun k => Sl.ob (q + 1) (lp r0 .ready none) :: I k) rfl (Imp.cons (Imp.drop hJ)) ?_
  intro k hk K' hK
  by_cases hkn : k < 64
  · obtain ⟨o, ho⟩ : ∃ o, X[k]? = some o := ⟨_, List.getElem?_eq_getElem (by omega)⟩
    refine Ent.wT ?_ (decide_eq_true (by omega))
    refine Ent.opR (v := .agg (slC o).toArray) (st_ixSlot ho (by omega)).still ?_
    refine Ent.alloc' fun xb => ?_
    (refine Ent.go ?_)
    cases o with
    | none =>
      (refine Ent.go ?_)
      refine Ent.imp ?_ (hK hkn)
      exact Imp.drop (Imp.cons (hn k ho))
    | some x =>
      refine Ent.wT ?_ rfl
      (refine Ent.go ?_)
      refine Ent.imp (Imp.drop (Imp.refl _)) ?_
      refine hy k x _ ho hkn ?_
      (refine Ent.go ?_)
      exact hK hkn
  · have : k = 64 := by omega
    subst this
    (refine Ent.go ?_)
    exact h
end
end Go.Proofs.YtfofnagocedlgaaGreatDoor.Tx
end
section
/-
  THE STORE (layer 21): an entry goes; how many there are; those go of which a question says so.
-/
set_option maxRecDepth 100000
set_option linter.unusedVariables false
set_option linter.unusedSectionVars false
set_option linter.unusedSimpArgs false
set_option maxHeartbeats 0
namespace Go.Proofs.YtfofnagocedlgaaGreatDoor.Tx
open Go Sh Sl
open Go.RowKit
attribute [local irreducible] condK ArK NilK OpK FnK StK joinK loopK DrawK andK PuK NxK EnK vS uS bS callS invokeS
theorem used_set {X : List (Option Et)} {i : Nat} {x : Et} (h : X[i]? = some (some x)) : used (X.set i none) + size x = used X := by
  induction X generalizing i with
  | nil => simp at h
  | cons o X ih =>
    cases i with
    | zero =>
      simp only [List.getElem?_cons_zero, Option.some.injEq] at h
      subst h
      simp [used]; omega
    | succ i =>
      simp only [List.getElem?_cons_succ] at h
      have := ih h
      simp [used] at this ⊢
      omega
theorem used_ge {X : List (Option Et)} {i : Nat} {x : Et} (h : X[i]? = some (some x)) : size x ≤ used X := by
  have := used_set h
  omega
theorem size_b {x : Et} (hb : EB x) : size x ≤ 2147483648 := by
  have h1 := hb.u
  have h2 := hb.r
  have h3 := hb.b
  have h4 := hb.w
  have h5 := hb.f
  have hw := fzn_le x.wl
  have hf := fzn_le x.fl
  unfold size
  omega
theorem SOk.out {M : Hp} {X : List (Option Et)} {tr kp : List Int} {bytes most i : Nat} {x : Et} (hk : SOk M X tr kp bytes most) (hx : X[i]? = some (some x)) : SOk M (X.set i none) (Lr.out tr i) (Lr.out kp i) bytes most := by
  have hi := (List.getElem?_eq_some_iff.1 hx).1
  refine ⟨by rw [List.length_set]; exact hk.len, fun y hy => ?_, fun j => ?_, ?_, hk.by_, hk.ms, fun j hj y hy => ?_⟩
  · rcases List.mem_or_eq_of_mem_set hy with h | h
    · exact hk.rd y h
    · cases h
  · have := hk.mem j
    simp only [List.mem_append, Lr.mem_out] at this ⊢
    rw [List.getElem?_set]
    by_cases hij : i = j
    · subst hij
      simp [hi]
    · rw [if_neg hij, this]
      have : ¬ (j : Int) = (i : Int) := by omega
      simp [this]
  · have := used_set hx
    have := hk.us
    omega
  · rw [List.getElem?_set] at hy
    split at hy
    · cases hy
    · exact hk.lt j hj y hy
section
variable {e : Env} {ctx ctx' rest R : List HProp} {M : Hp} {b : Nat} {X : List (Option Et)} {tr kp : List Int} {bytes most n : Nat}
/-- a whole number that lies in a field -/
theorem nIat {t i off b : Nat} {l : List Value} {v : Int} {c : Int → WP} (hf : fld t i = some off) (hh : Has ctx (pt b l)) (hv : l[0 + off]? = some (.int .i64 v)) (h : Ent e ctx (c v)) : Ent e ctx (nI t (ptr b) i 3 .i64 c) :=
  Ent.nil (Ent.opR (st_field hf).still (Ent.opI (st_load hh rfl hv) h))
theorem hIat {t i off b : Nat} {l : List Value} {v : Int} {c : Int → WP} (hf : fld t i = some off) (hh : Has R (pt b l)) (hv : l[0 + off]? = some (.int .i64 v)) (h : Ent e ctx (c v)) : Ent e ctx (hI (Sat e (sepL R)) t (ptr b) i 3 .i64 c) :=
  Ent.nil (Ent.puR (st_field hf) (Ent.stI (st_load hh rfl hv) h))
theorem nRat {t i off b u : Nat} {l : List Value} {v : Value} {c : Value → WP} (hf : fld t i = some off) (hu : sc u = true) (hh : Has ctx (pt b l)) (hv : l[0 + off]? = some v) (h : Ent e ctx (c v)) : Ent e ctx (nR t (ptr b) i u c) :=
  Ent.nil (Ent.opR (st_field hf).still (Ent.opR (st_load hh hu hv) h))
theorem out_spec {K : Value → WP} {i : Nat} {x : Et} (hx : X[i]? = some (some x)) (h : Ent e (SRep M b (X.set i none) (Lr.out tr i) (Lr.out kp i) bytes most n :: Sl.ro M :: rest) (K (.tuple #[]))) :
    Ent e (SRep M b X tr kp bytes most n :: Sl.ro M :: rest) (store_Store_out (ptr b) i K) := by
  (refine Ent.fn store_Store_out_ok ?_; unfold store_Store_out_sh)
  refine SRep.open fun lb hk => ?_
  have hX := hk.len
  have hi : i < 64 := by have := (List.getElem?_eq_some_iff.1 hx).1; omega
  obtain ⟨hrx, hbx⟩ := hk.rd x (List.mem_of_getElem? hx)
  have hus := used_set hx
  have hu2 := hk.us
  have hb2 := hk.by_
  refine Ent.draw [pt b (SC X lb bytes most (used X))] (by (focus ((repeat ((with_reducible apply Imp.pick); (repeat (first | exact Pick.hd | apply Pick.tl)))); (repeat (first | exact Imp.refl _ | exact Imp.nil _ | apply Imp.drop)); done))) ?_
  refine hIat rfl (by (repeat (first | exact Has.hd | apply Has.tl))) (SC_used hX) ?_
  refine Ent.nil ?_
  refine Ent.puR (st_field (off := 0) rfl) ?_
  refine Ent.puR (st_ixA (m := 64) (sz := 10) rfl rfl (by omega) (by omega)) ?_
  refine Ent.puR (st_field (off := 0) rfl) ?_
  refine Ent.stR (v := .agg (ec x).toArray) (st_loadA (n := 9) .hd rfl (by rw [show 0 + 0 + (i : Int).toNat * 10 + 0 = i * 10 by omega]; exact SC_entry hx) rfl) ?_
  refine size_spec (hrx.rd (by (repeat (first | exact Has.hd | apply Has.tl)))) hbx ?_
  refine Ent.wand ?_
  refine Ent.ar (in_i64 (by omega) (by omega)) ?_
  refine Ent.nil ?_
  refine Ent.puR (st_field (off := 643) rfl) ?_
  refine Ent.store (l := SC X lb bytes most (used X)) (by (repeat (first | exact Upd.hd | apply Upd.tl))) rfl rfl (by rw [SC_len hX]; omega) ?_
  rw [SC_setUsed hX]
  refine Ent.opR (v := .agg (slC none).toArray) (by apply Pu.still; apply st_build; exact rfl; exact rfl; exact rfl) ?_
  refine Ent.nil ?_
  refine Ent.opR (st_field (off := 0) rfl).still ?_
  refine Ent.opR (st_ixA (m := 64) (sz := 10) rfl rfl (by omega) (by omega)).still ?_
  refine Ent.storeA (l := SC X lb bytes most (used X - size x)) (vs := slC none) (n := 10) Upd.hd rfl rfl rfl (by rw [SC_len hX]; omega) ?_
  rw [Int.toNat_natCast, SC_setSlot (by omega)]
  refine nRat (off := 640) rfl rfl .hd (SC_list (by rw [List.length_set]; exact hX)) ?_
  refine Ent.bring (A := Lr.LRep lb tr kp (most * 2 / 3) n) ?_
  have hmem : (i : Int) ∈ tr ++ kp := (hk.mem i).1 ⟨x, hx⟩
  have eus : ((used X : Int) - (size x : Int)) = ((used (X.set i none) : Nat) : Int) := by omega
  rw [eus]
  refine Lr.remove_spec (fun hn => absurd ?_ hn) fun _ _ _ => ?_
  · unfold Lr.toC
    rw [if_neg (by omega), if_pos hmem]
  · refine Ent.imp ?_ h
    refine Imp.trans ?_ (SRep.shut (lb := lb) (hk.out hx))
    (focus ((repeat ((with_reducible apply Imp.pick); (repeat (first | exact Pick.hd | apply Pick.tl)))); (repeat (first | exact Imp.refl _ | exact Imp.nil _ | apply Imp.drop)); done))
theorem cnt_take {X : List (Option Et)} {k : Nat} {o : Option Et} (h : X[k]? = some o) : cnt (X.take (k + 1)) = cnt (X.take k) + (if o.isSome then 1 else 0) := by
  unfold cnt
  rw [take_snoc h, List.filter_append]
  cases o <;> simp
theorem callable_all : callable P 77 = true := cx_ok.calls _ (by rfl)
theorem count_spec {K : Int → WP} {lb : Nat} {by_ ms us : Int} (hX : X.length = 64) (hh : Has rest (pt b (SC X lb by_ ms us))) (h : Ent e rest (K (cnt X : Int))) : Ent e rest (store_Store_count (ptr b) K) := by
  (refine Ent.fn store_Store_count_ok ?_; unfold store_Store_count_sh)
  refine Ent.alloc' fun nb => ?_
  (refine Ent.go ?_)
  (refine Ent.fn store_Store_all_ok ?_; unfold store_Store_all_sh)
  refine Ent.box' fun sb => ?_
  refine Ent.rf callable_all (args := fun q => [.func (.yield (q + 1)) #[] #[], ptr sb]) (fun q => rfl) fun q r0 hr => ?_
  have hcl : ∀ k, cnt (X.take k) ≤ 64 := fun k => by
    unfold cnt
    have := List.length_filter_le (·.isSome) (X.take k)
    simp at this ⊢; omega
  refine Ent.imp (ctx' := Sl.ob (q + 1) (lp r0 .ready none) :: pt sb [ptr b] :: (fun k => pt nb [.int .i64 (cnt (X.take k) : Int)] :: Sl.ob q (.deferred (some [])) :: rest) 0) (by
    show Imp _ (_ :: _ :: pt nb [.int .i64 (cnt (X.take 0) : Int)] :: Sl.ob q (.deferred (some [])) :: rest)
    have e0 : (cnt (X.take 0) : Int) = 0 := by simp [cnt]
    rw [e0]
    (focus ((repeat ((with_reducible apply Imp.pick); (repeat (first | exact Pick.hd | apply Pick.tl)))); (repeat (first | exact Imp.refl _ | exact Imp.nil _ | apply Imp.drop)); done))) ?_
  refine all_iter hX (pt nb [.int .i64 (cnt (X.take 0) : Int)] :: Sl.ob q (.deferred (some [])) :: rest) (fun k => pt nb [.int .i64 (cnt (X.take k) : Int)] :: Sl.ob q (.deferred (some [])) :: rest) (.tl (.tl hh)) (Imp.refl _) (fun k x c hx hk hnext => ?_) (fun k hk => ?_) ?_
  · have h1 := cnt_take hx
    have h2 := hcl k
    refine Ent.yield hr (by (repeat (first | exact Has.hd | apply Has.tl))) ?_
    show Ent e _ (BgK P _ _)
    refine Ent.bg (by (repeat (first | exact Upd.hd | apply Upd.tl))) ?_
    (refine Ent.go ?_)
    refine Ent.dn (by (repeat (first | exact Upd.hd | apply Upd.tl))) ?_
    refine Ent.imp ?_ hnext
    rw [h1]
    exact Imp.refl _
  · rw [cnt_take hk]
    exact Imp.refl _
  · refine Ent.ed (st := .ready) (fun h => by cases h) (by (repeat (first | exact Upd.hd | apply Upd.tl))) ?_
    show Ent e _ (JmK _ _ _ none)
    unfold JmK
    dsimp only
    (refine Ent.go ?_)
    refine Ent.tk (by (repeat (first | exact Upd.hd | apply Upd.tl))) ?_
    rw [List.take_of_length_le (by omega)]
    refine Ent.imp ?_ h
    (focus ((repeat ((with_reducible apply Imp.pick); (repeat (first | exact Pick.hd | apply Pick.tl)))); (repeat (first | exact Imp.refl _ | exact Imp.nil _ | apply Imp.drop)); done))
end
end Go.Proofs.YtfofnagocedlgaaGreatDoor.Tx
end
section
/-
  THE STORE (layer 21): those entries go of which a question says so.
-/
set_option maxRecDepth 100000
set_option linter.unusedVariables false
set_option linter.unusedSectionVars false
set_option linter.unusedSimpArgs false
set_option maxHeartbeats 0
namespace Go.Proofs.YtfofnagocedlgaaGreatDoor.Tx
open Go Sh Sl
open Go.RowKit
attribute [local irreducible] condK ArK NilK OpK FnK StK joinK loopK DrawK andK PuK NxK EnK vS uS bS callS invokeS
/-- what a slot holds behind it -/
def gq (pd : Et → Bool) (o : Option Et) : Option Et := match o with
  | some x => if pd x then none else some x
  | none => none
def gX (pd : Et → Bool) (X : List (Option Et)) (k : Nat) : List (Option Et) := (X.take k).map (gq pd) ++ X.drop k
def qo (pd : Et → Bool) (o : Option Et) : Bool := match o with
  | some x => pd x
  | none => false
def gA (pd : Et → Bool) (X : List (Option Et)) (k : Nat) (y : Int) : Bool := decide (0 ≤ y) && (decide (y < (k : Int)) && qo pd (X[y.toNat]?).join)
def gL (pd : Et → Bool) (X : List (Option Et)) (k : Nat) (l : List Int) : List Int := l.filter fun y => !gA pd X k y
def gN (pd : Et → Bool) (X : List (Option Et)) (k : Nat) : Nat := ((X.take k).filter (qo pd)).length
section
variable {pd : Et → Bool} {X : List (Option Et)} {k : Nat}
theorem gX_0 : gX pd X 0 = X := by simp [gX]
theorem gX_at {o : Option Et} (h : X[k]? = some o) : (gX pd X k)[k]? = some o := by
  have hk := (List.getElem?_eq_some_iff.1 h).1
  unfold gX
  rw [List.getElem?_append_right (by simp; omega), List.getElem?_drop]
  have : k + (k - ((X.take k).map (gq pd)).length) = k := by simp; omega
  rw [this]; exact h
theorem gX_next {o : Option Et} (h : X[k]? = some o) : gX pd X (k + 1) = (gX pd X k).set k (gq pd o) := by
  have hk := (List.getElem?_eq_some_iff.1 h).1
  have hd : X.drop k = o :: X.drop (k + 1) := by
    have hg := List.getElem?_eq_getElem hk
    rw [h] at hg
    rw [Option.some.inj hg, List.getElem_cons_drop]
  unfold gX
  rw [List.set_append_right _ _ (by simp; omega)]
  have : k - ((X.take k).map (gq pd)).length = 0 := by simp; omega
  rw [this, hd, take_snoc h]
  simp
theorem gX_same {o : Option Et} (h : X[k]? = some o) (hg : gq pd o = o) : gX pd X (k + 1) = gX pd X k := by
  rw [gX_next h, hg]
  exact set_self (gX_at h)
theorem gL_0 {l : List Int} : gL pd X 0 l = l := by
  unfold gL
  refine List.filter_eq_self.2 fun y _ => ?_
  unfold gA
  by_cases h : 0 ≤ y
  · rw [decide_eq_false (by omega : ¬ y < ((0 : Nat) : Int))]
    simp
  · rw [decide_eq_false h]; rfl
theorem gA_next {o : Option Et} (h : X[k]? = some o) (y : Int) : gA pd X (k + 1) y = (gA pd X k y || (decide (y = (k : Int)) && qo pd o)) := by
  unfold gA
  by_cases h1 : y = (k : Int)
  · subst h1
    rw [Int.toNat_natCast, h]
    rw [decide_eq_true (by omega : (0 : Int) ≤ (k : Int)), decide_eq_true (by omega : (k : Int) < ((k + 1 : Nat) : Int)), decide_eq_false (by omega : ¬ (k : Int) < (k : Int))]
    simp
  · rw [decide_eq_false h1]
    have : decide (y < ((k + 1 : Nat) : Int)) = decide (y < (k : Int)) := decide_eq_decide.2 (by omega)
    rw [this]
    simp
theorem gL_out {x : Et} {l : List Int} (h : X[k]? = some (some x)) (hp : pd x = true) : gL pd X (k + 1) l = Lr.out (gL pd X k l) k := by
  unfold gL Lr.out
  rw [List.filter_filter]
  refine List.filter_congr fun y _ => ?_
  rw [gA_next h y]
  have : qo pd (some x) = true := hp
  rw [this, Bool.and_true]
  by_cases h1 : y = (k : Int) <;> simp [h1]
theorem gL_same {o : Option Et} {l : List Int} (h : X[k]? = some o) (hg : qo pd o = false) : gL pd X (k + 1) l = gL pd X k l := by
  unfold gL
  refine List.filter_congr fun y _ => ?_
  rw [gA_next h y, hg, Bool.and_false, Bool.or_false]
theorem gN_next {o : Option Et} (h : X[k]? = some o) : gN pd X (k + 1) = gN pd X k + (if qo pd o then 1 else 0) := by
  unfold gN
  rw [take_snoc h, List.filter_append, List.length_append]
  congr 1
  cases hp : qo pd o <;> simp [hp]
end
section
variable {e : Env} {ctx ctx' rest R : List HProp} {M : Hp} {b : Nat} {X : List (Option Et)} {tr kp : List Int} {bytes most n : Nat}
theorem gone_spec {K : Int → WP} {f : Nat} {cap : List Value} {CB : List HProp} (pd : Et → Bool) (hf : memN cll f = true)
    (hw : ∀ (R : List HProp) (x : Et) (k : Bool → WP), Has R (Sl.ro M) → Imp R rest → RdEM M x → EB x → Ent e (CB ++ R) (k (pd x)) → Ent e (CB ++ R) (FnK P (.one .bool) f (#[.agg (ec x).toArray] ++ cap.toArray) k))
    (h : Ent e (SRep M b (gX pd X 64) (gL pd X 64 tr) (gL pd X 64 kp) bytes most n :: Sl.ro M :: (CB ++ rest)) (K (gN pd X 64 : Int))) :
    Ent e (SRep M b X tr kp bytes most n :: Sl.ro M :: (CB ++ rest)) (store_Store_gone (ptr b) (.func (.func f) #[] cap.toArray) K) := by
  (refine Ent.fn store_Store_gone_ok ?_; unfold store_Store_gone_sh)
  refine SRep.open fun lb hk => ?_
  have hX := hk.len
  refine Ent.box' fun s1 => ?_
  refine Ent.box' (l := [.func (.func f) #[] cap.toArray]) (fun i1 => ?_) rfl
  refine Ent.alloc' fun nb => ?_
  (refine Ent.go ?_)
  (refine Ent.fn store_Store_all_ok ?_; unfold store_Store_all_sh)
  refine Ent.box' fun sb => ?_
  refine Ent.rf callable_all (args := fun q => [.func (.yield (q + 1)) #[] #[], ptr sb]) (fun q => rfl) fun q r0 hr => ?_
  have hcl : ∀ k, gN pd X k ≤ 64 := fun k => by
    unfold gN
    refine Nat.le_trans (List.length_filter_le _ _) ?_
    simp; omega
  refine Ent.imp (ctx' := Sl.ob (q + 1) (lp r0 .ready none) :: pt sb [ptr b] :: pt b (SC X lb bytes most (used X)) :: Lr.LRep lb tr kp (most * 2 / 3) n :: pt nb [.int .i64 0] :: pt s1 [ptr b] :: pt i1 [.func (.func f) #[] cap.toArray] :: Sl.ob q (.deferred (some [])) :: Sl.ro M :: (CB ++ rest)) (by (focus ((repeat ((with_reducible apply Imp.pick); (repeat (first | exact Pick.hd | apply Pick.tl)))); (repeat (first | exact Imp.refl _ | exact Imp.nil _ | apply Imp.drop)); done))) ?_
  refine all_iter hX _ (fun k => SRep M b (gX pd X k) (gL pd X k tr) (gL pd X k kp) bytes most n :: pt nb [.int .i64 (gN pd X k : Int)] :: pt s1 [ptr b] :: pt i1 [.func (.func f) #[] cap.toArray] :: Sl.ob q (.deferred (some [])) :: Sl.ro M :: (CB ++ rest)) .hd ?_ (fun k x c hx hk64 hnext => ?_) (fun k hkn => ?_) ?_
  · rw [gX_0, gL_0, gL_0]
    exact SRep.shut hk
  · obtain ⟨hrx, hbx⟩ := hk.rd x (List.mem_of_getElem? hx)
    have h1 := gN_next (pd := pd) hx
    have h2 := hcl k
    refine Ent.yield hr (by (repeat (first | exact Has.hd | apply Has.tl))) ?_
    show Ent e _ (oR _ _)
    refine Ent.alloc' fun eb => ?_
    (refine Ent.go ?_)
    refine Ent.bg (by (repeat (first | exact Upd.hd | apply Upd.tl))) ?_
    (refine Ent.go ?_)
    refine Ent.callF hf ?_
    refine Ent.imp (ctx' := CB ++ (pt eb (ec x) :: Sl.ob (q + 1) (lp r0 .busy none) :: SRep M b (gX pd X k) (gL pd X k tr) (gL pd X k kp) bytes most n :: pt nb [.int .i64 (gN pd X k : Int)] :: pt s1 [ptr b] :: pt i1 [.func (.func f) #[] cap.toArray] :: Sl.ob q (.deferred (some [])) :: Sl.ro M :: rest)) ?_ (hw _ x _ (by (repeat (first | exact Has.hd | apply Has.tl))) (by (focus (repeat (first | exact Imp.refl _ | exact Imp.nil _ | apply Imp.drop)))) hrx hbx ?_)
    · exact Imp.perm (by
        have := (List.perm_append_comm (l₁ := CB) (l₂ := [pt eb (ec x), Sl.ob (q + 1) (lp r0 .busy none), SRep M b (gX pd X k) (gL pd X k tr) (gL pd X k kp) bytes most n, pt nb [.int .i64 (gN pd X k : Int)], pt s1 [ptr b], pt i1 [.func (.func f) #[] cap.toArray], Sl.ob q (.deferred (some [])), Sl.ro M])).append_right rest
        simpa using this.symm)
    refine Ent.imp (ctx' := SRep M b (gX pd X k) (gL pd X k tr) (gL pd X k kp) bytes most n :: Sl.ro M :: pt eb (ec x) :: Sl.ob (q + 1) (lp r0 .busy none) :: pt nb [.int .i64 (gN pd X k : Int)] :: pt s1 [ptr b] :: pt i1 [.func (.func f) #[] cap.toArray] :: Sl.ob q (.deferred (some [])) :: (CB ++ rest)) ?_ ?_
    · refine Imp.trans (b := pt eb (ec x) :: Sl.ob (q + 1) (lp r0 .busy none) :: SRep M b (gX pd X k) (gL pd X k tr) (gL pd X k kp) bytes most n :: pt nb [.int .i64 (gN pd X k : Int)] :: pt s1 [ptr b] :: pt i1 [.func (.func f) #[] cap.toArray] :: Sl.ob q (.deferred (some [])) :: Sl.ro M :: (CB ++ rest)) (Imp.perm (by
        have := (List.perm_append_comm (l₁ := CB) (l₂ := [pt eb (ec x), Sl.ob (q + 1) (lp r0 .busy none), SRep M b (gX pd X k) (gL pd X k tr) (gL pd X k kp) bytes most n, pt nb [.int .i64 (gN pd X k : Int)], pt s1 [ptr b], pt i1 [.func (.func f) #[] cap.toArray], Sl.ob q (.deferred (some [])), Sl.ro M])).append_right rest
        simpa using this)) (by (focus ((repeat ((with_reducible apply Imp.pick); (repeat (first | exact Pick.hd | apply Pick.tl)))); (repeat (first | exact Imp.refl _ | exact Imp.nil _ | apply Imp.drop)); done)))
    cases hp : pd x with
    | true =>
      have g1 : gX pd X (k + 1) = (gX pd X k).set k none := by rw [gX_next hx]; simp [gq, hp]
      rw [g1, gL_out hx hp, gL_out hx hp] at hnext
      refine Ent.wT ?_
      (refine Ent.go ?_)
      refine out_spec (x := x) (gX_at hx) ?_
      (refine Ent.go ?_)
      refine Ent.dn (by (repeat (first | exact Upd.hd | apply Upd.tl))) ?_
      refine Ent.imp ?_ hnext
      rw [h1]
      rw [show qo pd (some x) = true from hp]
      (focus ((repeat ((with_reducible apply Imp.pick); (repeat (first | exact Pick.hd | apply Pick.tl)))); (repeat (first | exact Imp.refl _ | exact Imp.nil _ | apply Imp.drop)); done))
    | false =>
      have g1 : gX pd X (k + 1) = gX pd X k := gX_same hx (by simp [gq, hp])
      rw [g1, gL_same hx hp, gL_same hx hp] at hnext
      refine Ent.wF ?_
      refine Ent.dn (by (repeat (first | exact Upd.hd | apply Upd.tl))) ?_
      refine Ent.imp ?_ hnext
      rw [h1, show qo pd (some x) = false from hp]
      (focus ((repeat ((with_reducible apply Imp.pick); (repeat (first | exact Pick.hd | apply Pick.tl)))); (repeat (first | exact Imp.refl _ | exact Imp.nil _ | apply Imp.drop)); done))
  · rw [gX_same hkn rfl, gL_same hkn rfl, gL_same hkn rfl, gN_next hkn]
    exact Imp.refl _
  · refine Ent.ed (st := .ready) (fun h => by cases h) (by (repeat (first | exact Upd.hd | apply Upd.tl))) ?_
    show Ent e _ (JmK _ _ _ none)
    unfold JmK
    dsimp only
    (refine Ent.go ?_)
    refine Ent.tk (by (repeat (first | exact Upd.hd | apply Upd.tl))) ?_
    refine Ent.imp ?_ h
    (focus ((repeat ((with_reducible apply Imp.pick); (repeat (first | exact Pick.hd | apply Pick.tl)))); (repeat (first | exact Imp.refl _ | exact Imp.nil _ | apply Imp.drop)); done))
end
end Go.Proofs.YtfofnagocedlgaaGreatDoor.Tx
end
section
/-
  THE STORE (layer 21): New, Used, Drop, find, Look, Get.
-/
set_option maxRecDepth 100000
set_option linter.unusedVariables false
set_option linter.unusedSectionVars false
set_option linter.unusedSimpArgs false
set_option maxHeartbeats 0
namespace Go.Proofs.YtfofnagocedlgaaGreatDoor.Tx
open Go Sh Sl
open Go.RowKit
attribute [local irreducible] condK ArK NilK OpK FnK StK joinK loopK DrawK andK PuK NxK EnK vS uS bS callS invokeS
theorem SC_came {X : List (Option Et)} {lb : Nat} {bytes most used : Int} {i : Nat} {x : Et} (h : X[i]? = some (some x)) : (SC X lb bytes most used)[i * 10 + 2]? = some (.int .u64 x.came) := by
  have h1 := SC_entry (lb := lb) (bytes := bytes) (most := most) (used := used) h
  have h2 : (((SC X lb bytes most used).drop (i * 10)).take 9)[2]? = some (.int .u64 x.came) := by rw [h1]; rfl
  rw [List.getElem?_take, if_pos (by omega), List.getElem?_drop] at h2
  exact h2
/-- the slot of the entry that is told -/
def cameOf (X : List (Option Et)) (j : Nat) : Int := match (X[j]?).join with
  | some y => y.came
  | none => 0
def better (X : List (Option Et)) (best : Option Nat) (x : Et) : Bool := match best with
  | none => true
  | some j => decide (x.came ≥ cameOf X j)
def fdS (url : Bs) (l : List Fd) (X : List (Option Et)) (best : Option Nat) (k : Nat) : Option Nat := match (X[k]?).join with
  | some x => if decide (x.url = url) && (forE x l && better X best x) then some k else best
  | none => best
def fdk (url : Bs) (l : List Fd) (X : List (Option Et)) : Nat → Option Nat
  | 0 => none
  | k + 1 => fdS url l X (fdk url l X k) k
theorem fdk_some {url : Bs} {l : List Fd} {X : List (Option Et)} {j : Nat} : ∀ {k : Nat}, fdk url l X k = some j → ∃ x, X[j]? = some (some x) ∧ x.url = url ∧ forE x l = true
  | 0, h => by cases h
  | k + 1, h => by
    simp only [fdk, fdS] at h
    cases ho : (X[k]?).join with
    | none => rw [ho] at h; exact fdk_some h
    | some x =>
      rw [ho] at h
      simp only at h
      split at h
      · rename_i hc
        cases h
        simp only [Bool.and_eq_true, decide_eq_true_eq] at hc
        refine ⟨x, ?_, hc.1, hc.2.1⟩
        rw [Option.join_eq_some_iff] at ho
        exact ho
      · exact fdk_some h
section
variable {e : Env} {ctx ctx' rest R : List HProp} {M : Hp} {b : Nat} {X : List (Option Et)} {tr kp : List Int} {bytes most n : Nat}
theorem find_spec {K : Int → Bool → WP} {lb : Nat} {by_ ms us : Int} {url : Bs} {a : Option Addr} {c : Nat} {l : List Fd} (hX : X.length = 64) (hh : Has rest (pt b (SC X lb by_ ms us))) (hM : Has rest (Sl.ro M)) (hrd : ∀ x, some x ∈ X → RdEM M x ∧ EB x) (hl : Rd rest a (fc l)) (hlb : fsz l ≤ 268435456)
    (h : Ent e rest (K (((fdk url l X 64).getD 0 : Nat) : Int) (fdk url l X 64).isSome)) : Ent e rest (store_Store_find (ptr b) (ba url) (.slice a l.length c) K) := by
  (refine Ent.fn store_Store_find_ok ?_; unfold store_Store_find_sh)
  refine Ent.box' fun s1 => ?_
  refine Ent.box' fun u1 => ?_
  refine Ent.box' fun l1 => ?_
  refine Ent.alloc' fun bb => ?_
  refine Ent.alloc' fun ib => ?_
  (refine Ent.go ?_)
  (refine Ent.fn store_Store_all_ok ?_; unfold store_Store_all_sh)
  refine Ent.box' fun sb => ?_
  refine Ent.rf callable_all (args := fun q => [.func (.yield (q + 1)) #[] #[], ptr sb]) (fun q => rfl) fun q r0 hr => ?_
  refine Ent.imp (ctx' := Sl.ob (q + 1) (lp r0 .ready none) :: pt sb [ptr b] :: pt bb [.int .i64 0] :: pt ib [.bool false] :: pt s1 [ptr b] :: pt u1 [.string (ba url)] :: pt l1 [.slice a l.length c] :: Sl.ob q (.deferred (some [])) :: rest) (by (focus ((repeat ((with_reducible apply Imp.pick); (repeat (first | exact Pick.hd | apply Pick.tl)))); (repeat (first | exact Imp.refl _ | exact Imp.nil _ | apply Imp.drop)); done))) ?_
  refine all_iter hX _ (fun k => pt bb [.int .i64 (((fdk url l X k).getD 0 : Nat) : Int)] :: pt ib [.bool (fdk url l X k).isSome] :: pt s1 [ptr b] :: pt u1 [.string (ba url)] :: pt l1 [.slice a l.length c] :: Sl.ob q (.deferred (some [])) :: rest) (.tl (.tl (.tl (.tl (.tl (.tl hh)))))) (Imp.refl _) (fun k x cc hx hk64 hnext => ?_) (fun k hkn => ?_) ?_
  · obtain ⟨hrx, hbx⟩ := hrd x (List.mem_of_getElem? hx)
    have hjoin : (X[k]?).join = some x := by rw [hx]; rfl
    have hs : fdk url l X (k + 1) = if decide (x.url = url) && (forE x l && better X (fdk url l X k) x) then some k else fdk url l X k := by
      simp only [fdk, fdS, hjoin]
    refine Ent.yield hr (by (repeat (first | exact Has.hd | apply Has.tl))) ?_
    show Ent e _ (oR _ _)
    refine Ent.alloc' fun eb => ?_
    (refine Ent.go ?_)
    refine Ent.bg (by (repeat (first | exact Upd.hd | apply Upd.tl))) ?_
    refine Ent.join1 (kd := .bool) (fun v => pur (v = (decide (x.url = url) && (forE x l && better X (fdk url l X k) x))) :: Sl.ob (q + 1) (lp r0 .busy none) :: pt bb [.int .i64 (((fdk url l X k).getD 0 : Nat) : Int)] :: pt ib [.bool (fdk url l X k).isSome] :: pt s1 [ptr b] :: pt u1 [.string (ba url)] :: pt l1 [.slice a l.length c] :: Sl.ob q (.deferred (some [])) :: rest) ?_ ?_
    rotate_left
    · intro k' hk'
      have fin : ∀ v, v = (decide (x.url = url) && (forE x l && better X (fdk url l X k) x)) → Ent e (pt eb (ec x) :: Sl.ob (q + 1) (lp r0 .busy none) :: pt bb [.int .i64 (((fdk url l X k).getD 0 : Nat) : Int)] :: pt ib [.bool (fdk url l X k).isSome] :: pt s1 [ptr b] :: pt u1 [.string (ba url)] :: pt l1 [.slice a l.length c] :: Sl.ob q (.deferred (some [])) :: rest) (k' v) := fun v hv =>
        Ent.imp (Imp.pur hv (Imp.drop (Imp.refl _))) (hk' v)
      (refine Ent.go ?_)
      by_cases h1 : x.url = url
      rotate_left
      · refine Ent.wF ?_ (decide_eq_false fun hh => h1 (ba_inj.1 hh))
        exact fin false (by rw [decide_eq_false h1]; rfl)
      refine Ent.wT ?_ (decide_eq_true (by rw [h1]))
      refine Ent.stR (v := .agg (ec x).toArray) (st_loadA (n := 9) .hd rfl rfl rfl) ?_
      (refine Ent.go ?_)
      refine for_spec (hrx.rd (.tl (.tl (.tl (.tl (.tl (.tl (.tl (.tl hM))))))))) hbx (hl.mono (Imp.drop (Imp.drop (Imp.drop (Imp.drop (Imp.drop (Imp.drop (Imp.drop (Imp.drop (Imp.refl _)))))))))) hlb ?_
      (refine Ent.go ?_)
      cases h2 : forE x l with
      | false =>
        refine Ent.wF ?_
        exact fin false (by rw [h2, decide_eq_true h1]; rfl)
      | true =>
        refine Ent.wT ?_
        (refine Ent.go ?_)
        cases h3 : fdk url l X k with
        | none =>
          refine Ent.wT ?_ rfl
          rw [h3] at fin
          exact fin true (by rw [h2, decide_eq_true h1]; rfl)
        | some j =>
          obtain ⟨y, hy, _⟩ := fdk_some h3
          have hj : j < 64 := by have := (List.getElem?_eq_some_iff.1 hy).1; omega
          refine Ent.wF ?_ rfl
          rw [h3] at fin
          (refine Ent.go ?_)
          refine Ent.puR (st_ixA (m := 64) (sz := 10) rfl rfl (by show (0 : Int) ≤ ((j : Nat) : Int); omega) (by show ((j : Nat) : Int) < _; omega)) ?_
          refine Ent.puR (st_field (off := 0) rfl) ?_
          refine Ent.puR (st_field (off := 2) rfl) ?_
          refine Ent.stI (k := .u64) (n := y.came) (st_load (.tl (.tl (.tl (.tl (.tl (.tl (.tl (.tl hh)))))))) rfl ?_) ?_
          · show (SC X lb by_ ms us)[0 + 0 + ((j : Nat) : Int).toNat * 10 + 0 + 2]? = _
            rw [Int.toNat_natCast, show 0 + 0 + j * 10 + 0 + 2 = j * 10 + 2 by omega]
            exact SC_came hy
          refine fin _ ?_
          have : cameOf X j = y.came := by unfold cameOf; rw [hy]; rfl
          rw [h2, decide_eq_true h1]
          simp only [better, this, Bool.true_and]
    intro v
    refine Ent.pur fun hv => ?_
    subst hv
    cases hc : (decide (x.url = url) && (forE x l && better X (fdk url l X k) x)) with
    | true =>
      rw [hc, if_pos rfl] at hs
      refine Ent.wT ?_
      (refine Ent.go ?_)
      refine Ent.dn (by (repeat (first | exact Upd.hd | apply Upd.tl))) ?_
      refine Ent.imp ?_ hnext
      rw [hs]
      exact Imp.refl _
    | false =>
      rw [hc, if_neg (by decide)] at hs
      refine Ent.wF ?_
      refine Ent.dn (by (repeat (first | exact Upd.hd | apply Upd.tl))) ?_
      refine Ent.imp ?_ hnext
      rw [hs]
      exact Imp.refl _
  · have hs : fdk url l X (k + 1) = fdk url l X k := by simp only [fdk, fdS, hkn]; rfl
    rw [hs]
    exact Imp.refl _
  · refine Ent.ed (st := .ready) (fun h => by cases h) (by (repeat (first | exact Upd.hd | apply Upd.tl))) ?_
    show Ent e _ (JmK _ _ _ none)
    unfold JmK
    dsimp only
    (refine Ent.go ?_)
    refine Ent.tk (by (repeat (first | exact Upd.hd | apply Upd.tl))) ?_
    refine Ent.imp ?_ h
    (focus ((repeat ((with_reducible apply Imp.pick); (repeat (first | exact Pick.hd | apply Pick.tl)))); (repeat (first | exact Imp.refl _ | exact Imp.nil _ | apply Imp.drop)); done))
end
end Go.Proofs.YtfofnagocedlgaaGreatDoor.Tx
end
