/-
  THE LRU LIST (layer 20): its calls.
-/
import Derived.Test.YtfofnagocedlgaaGreatDoorLr
set_option maxRecDepth 100000
set_option linter.unusedVariables false
set_option linter.unusedSectionVars false
set_option linter.unusedSimpArgs false
set_option maxHeartbeats 0
namespace Go.Proofs.YtfofnagocedlgaaGreatDoor.Lr
open Go Sh Sl Fl
attribute [local irreducible] condK ArK NilK OpK FnK StK joinK loopK DrawK andK PuK NxK EnK vS uS bS callS invokeS
/-- a list's numbers as cells -/
abbrev ic (l : List Int) : List Value := l.map fun x => .int .i64 x
section
variable {e : Env} {ctx rest : List HProp} {tr kp : List Int} {most n : Nat}
theorem tried_spec {K : Value → WP} {b : Nat} (h : ∀ a c, Ent e (SlO a tr.length c 1 (ic tr) :: LRep b tr kp most n :: rest) (K (.slice a tr.length c))) :
    Ent e (LRep b tr kp most n :: rest) (lru_List_Tried (.pointer (some ⟨b, 0, none⟩)) K) := by
  (refine Ent.fn lru_List_Tried_ok ?_; unfold lru_List_Tried_sh)
  exact in_spec (s := false) h
theorem kept_spec {K : Value → WP} {b : Nat} (h : ∀ a c, Ent e (SlO a kp.length c 1 (ic kp) :: LRep b tr kp most n :: rest) (K (.slice a kp.length c))) :
    Ent e (LRep b tr kp most n :: rest) (lru_List_Kept (.pointer (some ⟨b, 0, none⟩)) K) := by
  (refine Ent.fn lru_List_Kept_ok ?_; unfold lru_List_Kept_sh)
  exact in_spec (s := true) h
/-- the answers of a call, and what is left -/
def addC (tr kp : List Int) (id : Int) : Int := if id < 0 ∨ 64 ≤ id then 1 else if id ∈ tr ++ kp then 9 else 0
def toC (tr kp : List Int) (id : Int) : Int := if id < 0 ∨ 64 ≤ id then 1 else if id ∈ tr ++ kp then 0 else 6
theorem out_id {l : List Int} {x : Int} (h : x ∉ l) : out l x = l := by
  unfold out
  rw [List.filter_eq_self]
  intro y hy
  simp only [decide_eq_true_eq]
  exact fun e => h (e ▸ hy)
theorem LRep.more {b n' : Nat} {c : WP} (hn : n ≤ n') (h : Ent e (LRep b tr kp most n' :: rest) c) : Ent e (LRep b tr kp most n :: rest) c :=
  LRep.open fun r tw t m h1 h2 h3 h4 => LRep.fold h1 h2 (by omega) h4 h
theorem LRep.ok {b : Nat} {c : WP} (h : (∃ m t, LOk m tr kp t) → most ≤ 64 → Ent e (LRep b tr kp most n :: rest) c) : Ent e (LRep b tr kp most n :: rest) c :=
  LRep.open fun r tw t m h1 h2 h3 h4 => LRep.fold h1 h2 h3 h4 (h ⟨_, _, h1⟩ h4)
theorem add_spec {K : Int → WP} {b : Nat} {id : Int} (hn : n < 4503599627370496) (hno : addC tr kp id ≠ 0 → Ent e (LRep b tr kp most n :: rest) (K (addC tr kp id)))
    (hok : 0 ≤ id → id < 64 → id ∉ tr ++ kp → Ent e (LRep b (id :: tr) kp most (n + 1) :: rest) (K 0)) : Ent e (LRep b tr kp most n :: rest) (lru_List_Add (.pointer (some ⟨b, 0, none⟩)) id K) := by
  (refine Ent.fn lru_List_Add_ok ?_; unfold lru_List_Add_sh)
  refine ready_spec ?_
  unfold addC at hno
  by_cases c1 : id < 0 ∨ 64 ≤ id
  · rw [if_pos c1] at hno ⊢
    (refine Ent.go ?_)
    exact hno (by decide)
  rw [if_neg c1] at hno ⊢
  by_cases c2 : id ∈ tr ++ kp
  · rw [if_pos c2] at hno ⊢
    (refine Ent.go ?_)
    exact hno (by decide)
  · rw [if_neg c2]
    (refine Ent.go ?_)
    have ho : id ∉ tr ∧ id ∉ kp := by simpa using c2
    have := hok (by omega) (by omega) c2
    refine put_spec (s := false) (by omega) hn ?_
    simp only [Bool.false_eq_true, if_false, out_id ho.1, out_id ho.2]
    exact this
/-- behind a touch -/
def toT (tr kp : List Int) (most : Nat) (id : Int) : List Int × List Int :=
  if most < (id :: out kp id).length then ((id :: out kp id).getLast (by simp) :: out tr id, out (id :: out kp id) ((id :: out kp id).getLast (by simp))) else (out tr id, id :: out kp id)
theorem touch_spec {K : Int → WP} {b : Nat} {id : Int} (hn : n + 1 < 4503599627370496) (hno : toC tr kp id ≠ 0 → Ent e (LRep b tr kp most n :: rest) (K (toC tr kp id)))
    (hok : 0 ≤ id → id < 64 → id ∈ tr ++ kp → Ent e (LRep b (toT tr kp most id).1 (toT tr kp most id).2 most (n + 2) :: rest) (K 0)) : Ent e (LRep b tr kp most n :: rest) (lru_List_Touch (.pointer (some ⟨b, 0, none⟩)) id K) := by
  (refine Ent.fn lru_List_Touch_ok ?_; unfold lru_List_Touch_sh)
  refine ready_spec ?_
  unfold toC at hno
  by_cases c1 : id < 0 ∨ 64 ≤ id
  · rw [if_pos c1] at hno ⊢
    (refine Ent.go ?_)
    exact hno (by decide)
  rw [if_neg c1] at hno ⊢
  by_cases c2 : id ∈ tr ++ kp
  rotate_left
  · rw [if_neg c2] at hno ⊢
    (refine Ent.go ?_)
    exact hno (by decide)
  rw [if_pos c2]
  (refine Ent.go ?_)
  have ho := hok (by omega) (by omega) c2
  unfold toT at ho
  refine put_spec (s := true) (by omega) (by omega) ?_
  simp only [if_true]
  refine kept_spec fun a c => ?_
  refine Ent.bring (A := LRep b _ _ most _) ?_
  refine LRep.open fun r tw t m h1 h2 h3 h4 => ?_
  obtain ⟨L, hL⟩ : ∃ L, L = id :: out kp id := ⟨_, rfl⟩
  have hpos : 0 < L.length := by rw [hL]; simp
  by_cases hl : most < (id :: out kp id).length
  · rw [if_pos hl] at ho
    have hlast : (id :: out kp id)[(((id :: out kp id).length : Int) - 1).toNat]? = some ((id :: out kp id).getLast (by simp)) := by
      rw [List.getLast_eq_getElem, ← List.getElem?_eq_getElem]
      congr 1
      omega
    obtain ⟨x, hx⟩ : ∃ x, x = (id :: out kp id).getLast (by simp) := ⟨_, rfl⟩
    rw [← hx] at hlast ho
    have hmem : x ∈ id :: out kp id := hx ▸ List.getLast_mem _
    rw [← hL] at hl hlast ho hmem h1 ⊢
    have h64 := len_le 64 L (nodup_app.1 h1.nd).2.1 (fun y hy => h1.ids y (List.mem_append_right _ hy))
    (refine Ent.go ?_)
    have hid := h1.ids x (List.mem_append_right _ hmem)
    refine LRep.fold h1 h2 h3 h4 ?_
    refine put_spec (s := false) hid (by omega) ?_
    simp only [Bool.false_eq_true, if_false]
    rw [out_id (l := out tr id) (fun hx => (nodup_app.1 h1.nd).2.2 x hx hmem)]
    refine Ent.imp ?_ ho
    (focus ((repeat ((with_reducible apply Imp.pick); (repeat (first | exact Pick.hd | apply Pick.tl)))); (repeat (first | exact Imp.refl _ | exact Imp.nil _ | apply Imp.drop)); done))
  · rw [if_neg hl] at ho
    rw [← hL] at hl ho h1 ⊢
    (refine Ent.go ?_)
    refine LRep.fold h1 h2 h3 h4 ?_
    refine LRep.more (n' := n + 2) (by omega) ?_
    refine Ent.imp ?_ ho
    (focus ((repeat ((with_reducible apply Imp.pick); (repeat (first | exact Pick.hd | apply Pick.tl)))); (repeat (first | exact Imp.refl _ | exact Imp.nil _ | apply Imp.drop)); done))
theorem remove_spec {K : Int → WP} {b : Nat} {id : Int} (hno : toC tr kp id ≠ 0 → Ent e (LRep b tr kp most n :: rest) (K (toC tr kp id)))
    (hok : 0 ≤ id → id < 64 → id ∈ tr ++ kp → Ent e (LRep b (out tr id) (out kp id) most n :: rest) (K 0)) : Ent e (LRep b tr kp most n :: rest) (lru_List_Remove (.pointer (some ⟨b, 0, none⟩)) id K) := by
  (refine Ent.fn lru_List_Remove_ok ?_; unfold lru_List_Remove_sh)
  refine ready_spec ?_
  unfold toC at hno
  by_cases c1 : id < 0 ∨ 64 ≤ id
  · rw [if_pos c1] at hno ⊢
    (refine Ent.go ?_)
    exact hno (by decide)
  rw [if_neg c1] at hno ⊢
  by_cases c2 : id ∈ tr ++ kp
  rotate_left
  · rw [if_neg c2] at hno ⊢
    (refine Ent.go ?_)
    exact hno (by decide)
  rw [if_pos c2]
  (refine Ent.go ?_)
  refine LRep.open fun r tw t m h1 h2 h3 h4 => ?_
  (refine Ent.go ?_)
  refine Ent.mdel (K := intK .i64) (vf := cv) (by (repeat (first | exact Upd.hd | apply Upd.tl))) rfl (dd_int rfl) ?_
  exact LRep.fold h1.rem h2 h3 h4 (hok (by omega) (by omega) c2)
/-- who goes first -/
def vic (tr kp : List Int) : Int × Bool := match tr.getLast? with
  | some x => (x, true)
  | none => match kp.getLast? with
    | some x => (x, true)
    | none => (0, false)
theorem last_get {l : List Int} {x : Int} (h : l.getLast? = some x) : l[((l.length : Int) - 1).toNat]? = some x := by
  rw [List.getLast?_eq_getElem?] at h
  rw [← h]; congr 1; omega
theorem victim_spec {K : Int → Bool → WP} {b : Nat} (h : Ent e (LRep b tr kp most n :: rest) (K (vic tr kp).1 (vic tr kp).2)) :
    Ent e (LRep b tr kp most n :: rest) (lru_List_Victim (.pointer (some ⟨b, 0, none⟩)) K) := by
  (refine Ent.fn lru_List_Victim_ok ?_; unfold lru_List_Victim_sh)
  refine LRep.ok fun ⟨m, t, hok⟩ _ => ?_
  have h64 := len_le 64 tr (nodup_app.1 hok.nd).1 (fun y hy => hok.ids y (List.mem_append_left _ hy))
  have h65 := len_le 64 kp (nodup_app.1 hok.nd).2.1 (fun y hy => hok.ids y (List.mem_append_right _ hy))
  clear hok
  refine tried_spec fun a1 c1 => ?_
  refine Ent.bring (A := LRep b _ _ _ _) ?_
  refine kept_spec fun a2 c2 => ?_
  refine Ent.slice (x := 108) (sz := 1) (by_ := 24) (out := [.slice a1 tr.length c1, .slice a2 kp.length c2]) rfl rfl rfl rfl (by decide) (by decide) (by rfl) fun s => ?_
  (refine Ent.go ?_)
  refine Ent.rngL0 2 (fun k => [pur (k = 0 ∨ tr = []), pur (k ≤ 1 ∨ kp = []), pt s [.slice a1 tr.length c1, .slice a2 kp.length c2], SlO a2 kp.length c2 1 (ic kp), LRep b tr kp most n, SlO a1 tr.length c1 1 (ic tr)] ++ rest) rfl ?_ ?_
  · exact Imp.pur (.inl rfl) (Imp.pur (.inl (by omega)) (Imp.refl _))
  intro k hk K' hK
  refine Ent.pur fun hk0 => Ent.pur fun hk1 => ?_
  have fin : ∀ (x : Int) (v : Bool), vic tr kp = (x, v) → Ent e (pt s [.slice a1 tr.length c1, .slice a2 kp.length c2] :: SlO a2 kp.length c2 1 (ic kp) :: LRep b tr kp most n :: SlO a1 tr.length c1 1 (ic tr) :: rest) (K x v) := by
    intro x v hv
    rw [hv] at h
    refine Ent.imp ?_ h
    (focus ((repeat ((with_reducible apply Imp.pick); (repeat (first | exact Pick.hd | apply Pick.tl)))); (repeat (first | exact Imp.refl _ | exact Imp.nil _ | apply Imp.drop)); done))
  match k, hk with
  | 0, _ =>
    (refine Ent.go ?_)
    cases ht : tr.getLast? with
    | some x =>
      have hne : 0 < tr.length := by cases tr; simp at ht; simp
      have hlast := last_get ht
      (refine Ent.go ?_)
      exact fin x true (by unfold vic; rw [ht])
    | none =>
      have hz : tr = [] := by simpa using ht
      subst hz
      (refine Ent.go ?_)
      refine Ent.imp ?_ (hK (by omega))
      exact Imp.pur (.inr rfl) (Imp.pur (.inl (by omega)) (Imp.refl _))
  | 1, _ =>
    have hz : tr = [] := by rcases hk0 with h | h; cases h; exact h
    subst hz
    (refine Ent.go ?_)
    cases ht : kp.getLast? with
    | some x =>
      have hne : 0 < kp.length := by cases kp; simp at ht; simp
      have hlast := last_get ht
      (refine Ent.go ?_)
      exact fin x true (by unfold vic; simp only [List.getLast?_nil]; rw [ht])
    | none =>
      have hz : kp = [] := by simpa using ht
      subst hz
      (refine Ent.go ?_)
      refine Ent.imp ?_ (hK (by omega))
      exact Imp.pur (.inr rfl) (Imp.pur (.inr rfl) (Imp.refl _))
  | 2, _ =>
    have hz : tr = [] := by rcases hk0 with h | h; cases h; exact h
    have hz2 : kp = [] := by rcases hk1 with h | h; omega; exact h
    subst hz hz2
    (refine Ent.go ?_)
    exact fin _ _ rfl
theorem clone_ext : ∀ args w, (callFunc 92 args).run P w = (vS (Extern.MapsClone.clone args)).run P w := by intro args w; kernel_rfl
theorem clone_spec {K : Value → WP} {r : Nat} {m : List (Int × Nat × Nat)} (hh : Has ctx (Mp (intK .i64) cv r m)) (h : ∀ r', Ent e (Mp (intK .i64) cv r' m :: ctx) (K (.map (some r')))) : Ent e ctx (maps_Clone_int_complex128 (.map (some r)) K) := by
  (refine Ent.fn maps_Clone_int_complex128_ok ?_; unfold maps_Clone_int_complex128_sh)
  (refine Ent.go ?_)
  refine Ent.opR (st_iface rfl).still ?_
  refine Ent.mclone clone_ext hh fun r' => ?_
  refine Ent.opR (st_assertM rfl).still ?_
  exact h r'
theorem copy_spec {K : Value → WP} {b : Nat} (h : ∀ b', Ent e (LRep b' tr kp most n :: LRep b tr kp most n :: rest) (K (.pointer (some ⟨b', 0, none⟩)))) :
    Ent e (LRep b tr kp most n :: rest) (lru_List_Copy (.pointer (some ⟨b, 0, none⟩)) K) := by
  (refine Ent.fn lru_List_Copy_ok ?_; unfold lru_List_Copy_sh)
  refine LRep.open fun r tw t m h1 h2 h3 h4 => ?_
  (refine Ent.go ?_)
  refine Ent.alloc' fun o => ?_
  (refine Ent.go ?_)
  refine clone_spec (m := m) (by (repeat (first | exact Has.hd | apply Has.tl))) fun r' => ?_
  (refine Ent.go ?_)
  refine Ent.bring (A := Mp _ _ r' m) ?_
  refine Ent.bring (A := pt o _) ?_
  refine LRep.fold h1 h2 h3 h4 ?_
  refine Ent.bring (A := Mp _ _ r m) ?_
  refine Ent.bring (A := pt b _) ?_
  refine LRep.fold h1 h2 h3 h4 ?_
  refine Ent.fin (h o)
theorem in_nil {K : Value → WP} {s : Value} (h : Ent e ctx (K (.slice none 0 0))) : Ent e ctx (lru_List_in (.pointer none) s K) := by
  (refine Ent.fn lru_List_in_ok ?_; unfold lru_List_in_sh)
  refine Ent.box' fun bx => ?_
  (refine Ent.go ?_)
  exact h.drop
theorem tried_nil {K : Value → WP} (h : Ent e ctx (K (.slice none 0 0))) : Ent e ctx (lru_List_Tried (.pointer none) K) := by
  (refine Ent.fn lru_List_Tried_ok ?_; unfold lru_List_Tried_sh)
  exact in_nil h
theorem kept_nil {K : Value → WP} (h : Ent e ctx (K (.slice none 0 0))) : Ent e ctx (lru_List_Kept (.pointer none) K) := by
  (refine Ent.fn lru_List_Kept_ok ?_; unfold lru_List_Kept_sh)
  exact in_nil h
theorem victim_nil {K : Int → Bool → WP} (h : Ent e ctx (K 0 false)) : Ent e ctx (lru_List_Victim (.pointer none) K) := by
  (refine Ent.fn lru_List_Victim_ok ?_; unfold lru_List_Victim_sh)
  refine tried_nil (kept_nil ?_)
  refine Ent.slice (x := 108) (sz := 1) (by_ := 24) (out := [.slice none 0 0, .slice none 0 0]) rfl rfl rfl rfl (by decide) (by decide) (by rfl) fun s => ?_
  (refine Ent.go ?_)
  refine Ent.rngL0 2 (fun k => pt s [.slice none 0 0, .slice none 0 0] :: ctx) rfl (Imp.refl _) ?_
  intro k hk K' hK
  match k, hk with
  | 0, _ => (refine Ent.go ?_); exact hK (by omega)
  | 1, _ => (refine Ent.go ?_); exact hK (by omega)
  | 2, _ => (refine Ent.go ?_); exact h.drop
theorem ready_nil {K : Int → WP} {id : Int} {b : Bool} (h : Ent e ctx (K 2)) : Ent e ctx (lru_List_ready (.pointer none) id b K) := by
  (refine Ent.fn lru_List_ready_ok ?_; unfold lru_List_ready_sh)
  refine Ent.join ?_
  (refine Ent.go ?_)
  exact h
theorem add_nil {K : Int → WP} {id : Int} (h : Ent e ctx (K 2)) : Ent e ctx (lru_List_Add (.pointer none) id K) := by
  (refine Ent.fn lru_List_Add_ok ?_; unfold lru_List_Add_sh)
  refine ready_nil ?_
  (refine Ent.go ?_)
  exact h
theorem touch_nil {K : Int → WP} {id : Int} (h : Ent e ctx (K 2)) : Ent e ctx (lru_List_Touch (.pointer none) id K) := by
  (refine Ent.fn lru_List_Touch_ok ?_; unfold lru_List_Touch_sh)
  refine ready_nil ?_
  (refine Ent.go ?_)
  exact h
theorem remove_nil {K : Int → WP} {id : Int} (h : Ent e ctx (K 2)) : Ent e ctx (lru_List_Remove (.pointer none) id K) := by
  (refine Ent.fn lru_List_Remove_ok ?_; unfold lru_List_Remove_sh)
  refine ready_nil ?_
  (refine Ent.go ?_)
  exact h
theorem copy_nil {K : Value → WP} (h : Ent e ctx (K (.pointer none))) : Ent e ctx (lru_List_Copy (.pointer none) K) := by
  (refine Ent.fn lru_List_Copy_ok ?_; unfold lru_List_Copy_sh)
  (refine Ent.go ?_)
  exact h
end
end Go.Proofs.YtfofnagocedlgaaGreatDoor.Lr
