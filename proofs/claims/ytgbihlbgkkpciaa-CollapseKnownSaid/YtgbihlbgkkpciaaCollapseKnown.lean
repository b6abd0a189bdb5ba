/- CollapseKnown: THE DOCUMENT'S EXAMPLES; ERRORS; NONE: the whole closed statement. -/
import Derived.Test.YtgbihlbgkkpciaaCm
import Derived.Test.YtgbihlbgkkpciaaLift
set_option linter.unusedVariables false
set_option linter.unusedSimpArgs false
set_option maxRecDepth 100000
set_option maxHeartbeats 0
namespace Go.Proofs.Ytgbihlbgkkpciaa.collapseKnown
open Go Sh Sl Co
open Go.ChangeShapes Go.WideShapes Go.ChangeAt Go.RowKit
section
attribute [local irreducible] condK ArK NilK OpK FnK StK joinK loopK DrawK andK PuK NxK EnK vS uS bS callS invokeS
variable {e : Env} {ctx rest : List HProp}
theorem mf1 {k c : Int} {p q : Nat} {i j : Jb} (h : mfind c [(k, p, i)] = some (q, j)) : c = k ∧ q = p ∧ j = i := by
  simp only [mfind] at h
  split at h
  · rename_i h2; cases h; exact ⟨h2.symm, rfl, rfl⟩
  · cases h
theorem join_nil {K : Int → Int → WP} {url : ByteArray} {n : Int} (h : Ent e rest (K (-1) 2)) : Ent e rest (collapse_Table_Join (.pointer none) url n K) := by
  (refine Ent.fn collapse_Table_Join_ok ?_; unfold collapse_Table_Join_sh)
  refine Ent.box' fun bu => ?_
  refine Ent.join ?_
  (refine Ent.go ?_)
  exact Ent.imp (by (focus ((repeat ((with_reducible apply Imp.pick); (repeat (first | exact Pick.hd | apply Pick.tl)))); (repeat (first | exact Imp.refl _ | exact Imp.nil _ | apply Imp.drop)); done))) h
theorem begin_nil {K : Int → WP} {url : ByteArray} {c n : Int} {s : Bool} (h : Ent e rest (K 2)) : Ent e rest (collapse_Table_Begin (.pointer none) c url s n K) := by
  (refine Ent.fn collapse_Table_Begin_ok ?_; unfold collapse_Table_Begin_sh)
  refine Ent.join ?_
  (refine Ent.go ?_)
  exact h
abbrev zj : List Value := [.string ⟨#[]⟩, .bool false, .bool false, .int .i64 0, .slice none 0 0]
theorem end_nil {K : Value → Int → WP} {c : Int} (h : Ent e rest (K (.agg zj.toArray) 2)) : Ent e rest (collapse_Table_End (.pointer none) c K) := by
  (refine Ent.fn collapse_Table_End_ok ?_; unfold collapse_Table_End_sh)
  refine Ent.alloc' fun t4 => ?_
  refine Ent.join ?_
  (refine Ent.go ?_)
  refine Ent.wrA ?_
  exact Ent.imp (by (focus ((repeat ((with_reducible apply Imp.pick); (repeat (first | exact Pick.hd | apply Pick.tl)))); (repeat (first | exact Imp.refl _ | exact Imp.nil _ | apply Imp.drop)); done))) h
theorem job_nil {K : Value → Bool → WP} {c : Int} (h : Ent e rest (K (.agg zj.toArray) false)) : Ent e rest (collapse_Table_Job (.pointer none) c K) := by
  (refine Ent.fn collapse_Table_Job_ok ?_; unfold collapse_Table_Job_sh)
  refine Ent.alloc' fun t4 => ?_
  (refine Ent.go ?_)
  refine Ent.wrA ?_
  exact Ent.imp (by (focus ((repeat ((with_reducible apply Imp.pick); (repeat (first | exact Pick.hd | apply Pick.tl)))); (repeat (first | exact Imp.refl _ | exact Imp.nil _ | apply Imp.drop)); done))) h
theorem of_nil {K : Int → Bool → WP} {c : Int} (h : Ent e rest (K (-1) false)) : Ent e rest (collapse_Table_Of (.pointer none) c K) := by
  (refine Ent.fn collapse_Table_Of_ok ?_; unfold collapse_Table_Of_sh)
  refine Ent.box' fun bu => ?_
  (refine Ent.fn collapse_Table_least_ok ?_; unfold collapse_Table_least_sh)
  (refine Ent.go ?_)
  exact Ent.imp (by (focus ((repeat ((with_reducible apply Imp.pick); (repeat (first | exact Pick.hd | apply Pick.tl)))); (repeat (first | exact Imp.refl _ | exact Imp.nil _ | apply Imp.drop)); done))) h
theorem leave_nil {K : Bool → WP} {c : Int} (h : Ent e rest (K false)) : Ent e rest (collapse_Table_Leave (.pointer none) c K) := by
  (refine Ent.fn collapse_Table_Leave_ok ?_; unfold collapse_Table_Leave_sh)
  refine Ent.box' fun bu => ?_
  (refine Ent.go ?_)
  refine of_nil ?_
  (refine Ent.go ?_)
  exact Ent.imp (by (focus ((repeat ((with_reducible apply Imp.pick); (repeat (first | exact Pick.hd | apply Pick.tl)))); (repeat (first | exact Imp.refl _ | exact Imp.nil _ | apply Imp.drop)); done))) h
theorem spoil_nil {K : Int → WP} {u : ByteArray} (h : Ent e rest (K 0)) : Ent e rest (collapse_Table_Spoil (.pointer none) u K) := by
  (refine Ent.fn collapse_Table_Spoil_ok ?_; unfold collapse_Table_Spoil_sh)
  (refine Ent.go ?_)
  exact h
theorem waiting_nil {K : Int → WP} (h : Ent e rest (K 0)) : Ent e rest (collapse_Table_Waiting (.pointer none) K) := by
  (refine Ent.fn collapse_Table_Waiting_ok ?_; unfold collapse_Table_Waiting_sh)
  (refine Ent.go ?_)
  exact h
theorem begin_err {most b : Nat} {X : List Ent1} {K : Int → WP} {url : ByteArray} {c n : Int} {s : Bool} (e1 : Int) (he : beginC X c n = e1) (hn : e1 ≠ 0) (h : Ent e (TR b X most :: rest) (K e1)) :
    Ent e (TR b X most :: rest) (collapse_Table_Begin (tv b) c url s n K) := by
  subst he
  exact begin_spec (fun _ => h) (fun h0 => absurd h0 hn)
theorem spec {K : Bool → WP} (h : Ent e rest (K true)) : Ent e rest (law24_CollapseKnown K) := by
  (refine Ent.fn law24_CollapseKnown_ok ?_; unfold law24_CollapseKnown_sh)
  refine new_spec (fun hh => by omega) fun b m hm _ => ?_
  obtain rfl : m = 16 := by omega
  refine Ent.join ?_
  refine awake_spec ?_
  (refine Ent.go ?_)
  refine begin_spec (fun hh => absurd (by decide) hh) fun _ _ _ _ _ p => ?_
  have e1 : mset (0 : Int) ((p, ⟨sU, true, false, 0, []⟩) : Nat × Jb) [] = [(0, p, ⟨sU, true, false, 0, []⟩)] := rfl
  rw [e1]
  refine begin_err 9 (by unfold beginC; rw [if_neg (by omega), if_pos (.inr (by rfl))]) (by decide) ?_
  refine begin_err 9 (by unfold beginC; rw [if_neg (by omega), if_pos (.inl ⟨_, List.mem_cons_self, by rfl⟩)]) (by decide) ?_
  refine begin_err 1 (by unfold beginC; rw [if_pos (by omega)]) (by decide) ?_
  refine begin_err 1 (by unfold beginC; rw [if_pos (by omega)]) (by decide) ?_
  refine begin_err 1 (by unfold beginC; rw [if_pos (by omega)]) (by decide) ?_
  refine begin_spec (fun hh => absurd (by unfold beginC; rw [if_neg (by omega), if_neg (by rintro (⟨x, hx, hh⟩ | hh); (rw [List.mem_singleton.1 hx] at hh; cases hh); cases hh)]) hh) fun _ _ _ _ _ p2 => ?_
  have e2 : mset (1 : Int) ((p2, ⟨sV, false, false, 5, []⟩) : Nat × Jb) [(0, p, ⟨sU, true, false, 0, []⟩)] = [(0, p, ⟨sU, true, false, 0, []⟩), (1, p2, ⟨sV, false, false, 5, []⟩)] := rfl
  rw [e2]
  refine join_spec (fun e2 he => ?_) fun c p4 j hf hp _ _ _ hw => ?_
  rotate_left
  · exfalso
    simp only [mfind] at hf
    split at hf
    · cases hf; simp [wantB, uv] at hp
    · split at hf
      · cases hf; simp [wantB] at hp
      · cases hf
  obtain rfl : e2 = 6 := by
    simp [joinE, hasB, wantB, wsum, uv] at he
    exact he
  refine join_spec (fun e2 he => ?_) fun c p4 j hf hp _ _ hall hw => ?_
  rotate_left
  · exfalso
    have := hall _ List.mem_cons_self
    simp [hasB] at this
  obtain rfl : e2 = 9 := by
    simp [joinE, hasB, wantB, wsum, uv] at he
    exact he
  refine join_spec (fun e2 he => ?_) fun c p4 j hf hp _ h16 hall hw => ?_
  rotate_left
  · omega
  obtain rfl : e2 = 1 := by
    simp [joinE, hasB, wantB, wsum, uv] at he
    exact he
  refine spoil_spec ?_
  have e3 : List.map (spo sU) [(0, p, ⟨sU, true, false, 0, []⟩), (1, p2, ⟨sV, false, false, 5, []⟩)] = [(0, p, ⟨sU, true, true, 0, []⟩), (1, p2, ⟨sV, false, false, 5, []⟩)] := by simp [spo, vu]
  have e4 : cntU sU [(0, p, ⟨sU, true, false, 0, []⟩), (1, p2, ⟨sV, false, false, 5, []⟩)] = 1 := by simp [cntU, vu]
  rw [e3, e4]
  refine join_spec (fun e2 he => ?_) fun c p4 j hf hp _ _ _ hw => ?_
  rotate_left
  · exfalso
    simp only [mfind] at hf
    split at hf
    · cases hf; simp [wantB] at hp
    · split at hf
      · cases hf; simp [wantB] at hp
      · cases hf
  obtain rfl : e2 = 6 := by
    simp [joinE, hasB, wantB, wsum, uv] at he
    exact he
  refine leave_spec (fun hh => ?_) fun c p3 j hf hp => ?_
  · exfalso
    have := hh _ List.mem_cons_self
    simp [hasB] at this
  obtain ⟨rfl, rfl, rfl⟩ : c = 0 ∧ p3 = p ∧ j = ⟨sU, true, true, 0, []⟩ := by
    simp only [mfind] at hf
    split at hf
    · rename_i h2; cases hf; exact ⟨h2.symm, rfl, rfl⟩
    · split at hf
      · cases hf; simp [hasB] at hp
      · cases hf
  have e5 : mset (0 : Int) ((p3, lv ⟨sU, true, true, 0, []⟩ 0) : Nat × Jb) [(0, p3, ⟨sU, true, true, 0, []⟩), (1, p2, ⟨sV, false, false, 5, []⟩)] = [(0, p3, ⟨sU, true, true, -1, []⟩), (1, p2, ⟨sV, false, false, 5, []⟩)] := rfl
  rw [e5]
  refine leave_spec (fun hh => ?_) fun c p3 j hf hp => ?_
  rotate_left
  · exfalso
    simp only [mfind] at hf
    split at hf
    · cases hf; simp [hasB] at hp
    · split at hf
      · cases hf; simp [hasB] at hp
      · cases hf
  refine end_spec (fun hf => ?_) fun p5 j a c hf => ?_
  · simp [mfind] at hf
  obtain ⟨rfl, rfl⟩ : p5 = p3 ∧ j = ⟨sU, true, true, -1, []⟩ := by
    simp only [mfind, if_true] at hf
    cases hf; exact ⟨rfl, rfl⟩
  have e6 : mdel (0 : Int) [(0, p5, ⟨sU, true, true, -1, []⟩), (1, p2, (⟨sV, false, false, 5, []⟩ : Jb))] = [(1, p2, ⟨sV, false, false, 5, []⟩)] := rfl
  rw [e6]
  refine Ent.alloc' fun xb => ?_
  unfold jc
  (refine Ent.go ?_)
  refine Ent.bring (A := TR b _ _) ?_
  refine end_spec (fun hf => ?_) fun p6 j a c hf => ?_
  rotate_left
  · simp [mfind] at hf
  refine Ent.alloc' fun x2 => ?_
  (refine Ent.go ?_)
  refine new_spec (fun _ => ?_) fun _ m h1 h2 => by omega
  refine new_spec (fun _ => ?_) fun _ m h1 h2 => by omega
  refine join_nil ?_
  refine end_nil ?_
  refine Ent.alloc' fun x3 => ?_
  (refine Ent.go ?_)
  refine job_nil ?_
  refine Ent.alloc' fun x4 => ?_
  (refine Ent.go ?_)
  refine of_nil ?_
  (refine Ent.go ?_)
  refine begin_nil ?_
  (refine Ent.go ?_)
  refine leave_nil ?_
  (refine Ent.go ?_)
  refine spoil_nil ?_
  (refine Ent.go ?_)
  refine waiting_nil ?_
  refine Ent.imp ?_ h
  (focus (repeat (first | exact Imp.refl _ | exact Imp.nil _ | apply Imp.drop)))
end
theorem walk {H : Type} {enc : TypeId × Value → H} {W : World} (base : Nat) (args : Array Value) (ds : List (DataW H)) (hval : ∀ (j : Nat) t v, Try.f8.params[j]? = some t → args[j]? = some v → Value.okWide Try.prog W .any base t v)
    (hA : ∃ p, DataW.TrodAll enc P W 0 (fun _ => true) true Try.f8.params.toList args.toList ds p) :
    Calls P 8 args W fun e W' => e = .returned (.bool true) ∧ Below W.heap.size W W' := by
  obtain ⟨p, hA⟩ := hA
  have hp : Try.f8.params.toList = [] := rfl
  rw [hp] at hA
  obtain ⟨h1, rfl⟩ := Lift.tr_nil hA
  obtain ⟨l, rfl⟩ : ∃ l : List Value, args = l.toArray := ⟨args.toList, by simp⟩
  simp only [List.toList_toArray] at h1
  subst h1
  exact Lift.calls_of fun K h => spec h
theorem own : ownKnob Try.prog.godebug = none := by kernel_rfl
theorem contract (H : Type) (enc : TypeId × Value → H) (W : World) (base : Nat) (args : Array Value) (ds gs : List (DataW H)) (before : List MemPlace) (hval : ∀ (j : Nat) t v, Try.f8.params[j]? = some t → args[j]? = some v → Value.okWide Try.prog W .any base t v)
    (hW : DataW.Whole enc Try.prog Try.f8.params.toList Rows.collapseKnownSpec.vars false W args.toList ds gs before) :
    Calls Try.prog 8 args W fun e W' => ∃ v, e = .returned v ∧ Rows.collapseKnownSpec.post enc Try.prog Try.f8 false true false false W args v W' := by
  have hA : ∃ p, DataW.TrodAll enc P W 0 (fun _ => true) true Try.f8.params.toList args.toList ds p := by
    obtain ⟨p, q, hA, _⟩ := hW
    exact ⟨p, hA⟩
  refine (walk base args ds hval hA).mono fun e W' ⟨he, hb⟩ => ?_
  exact ⟨_, he, Lift.law_post' (by kernel_rfl) rfl rfl rfl (fun ds h => by first | (rcases ds with _ | ⟨d1, _ | ⟨d2, _ | ⟨d3, _ | ⟨d4, ds⟩⟩⟩⟩ <;> first | rfl | (exfalso; simp [Try.f8] at h; done))) (by kernel_rfl) hW hb⟩
set_option maxRecDepth 100000 in
theorem lifted (os : Os) (started : os.Started) (H : Type) (enc : TypeId × Value → H) :
    ReturnsInHanded {} Try.checked os 8 .any (Rows.collapseKnownSpec.pre6 enc Try.prog Try.f8 Rows.collapseKnownRow.domain false) (Rows.collapseKnownSpec.post enc Try.prog Try.f8 false true false false) := by
  refine returnsInHanded_of_change (C := Try.checked) own started (by kernel_rfl) Try.func8
    (ChangeSpec.witness6 (enc := enc) (C := Try.checked) false ⟨#[], #[], []⟩ 8 (by kernel_rfl) (by kernel_rfl) (by kernel_rfl) (by kernel_rfl)) ?_
  intro W base args ds gs before hval hW _ _
  exact contract H enc W base args ds gs before hval hW
theorem proved : Rows.CollapseKnownSaid :=
  OpenClaim.holds_of_wide 8 Try.f8 rfl rfl rfl rfl rfl rfl rfl ⟨rfl, rfl, rfl, rfl, rfl⟩ rfl rfl rfl rfl rfl (by kernel_rfl) Try.func8 (by kernel_rfl)
    (of_decide_eq_true (by kernel_rfl)) (by unfold Func.isWrapper; first | (rw [if_pos (by decide +kernel)]; kernel_rfl) | (rw [if_neg (by decide +kernel)]; exact ⟨rfl, rfl⟩))
    (fun os started H enc _ => lifted os started H enc)

end Go.Proofs.Ytgbihlbgkkpciaa.collapseKnown
