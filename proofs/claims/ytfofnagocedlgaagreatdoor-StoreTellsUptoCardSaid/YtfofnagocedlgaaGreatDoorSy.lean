/- A STORE THAT IS NONE; slices with a body of n noughts. -/
import Derived.Test.YtfofnagocedlgaaGreatDoorSw
set_option linter.unusedVariables false
set_option linter.unusedSimpArgs false
set_option maxRecDepth 100000
set_option maxHeartbeats 0
namespace Go.Proofs.YtfofnagocedlgaaGreatDoor.Tx
open Go Sh Sl
attribute [local irreducible] condK ArK NilK OpK FnK StK joinK loopK DrawK andK PuK NxK EnK vS uS bS callS invokeS
abbrev dU (url : Bs) (n : Nat) : Bs × Int × Int × List Fd × Int × Bs × Int × List Fd × Bs := (url, 0, 0, [], 200, [], 1, [], List.replicate n 0)
theorem dU_f {y : Et} {u : Bs} {n : Nat} (h : dE y = dU u n) : y.url = u ∧ y.asked = 0 ∧ y.came = 0 ∧ y.wl = [] ∧ y.fl = [] ∧ y.rs = [] ∧ y.bl = List.replicate n 0 := by
  simp only [dE, Prod.mk.injEq] at h
  exact ⟨h.1, h.2.1, h.2.2.1, h.2.2.2.1, h.2.2.2.2.2.2.2.1, h.2.2.2.2.2.1, h.2.2.2.2.2.2.2.2⟩
theorem dU_size {y : Et} {u : Bs} {n : Nat} (h : dE y = dU u n) : size y = 64 + u.length + n := by
  obtain ⟨h1, _, _, h2, h3, h4, h5⟩ := dU_f h
  unfold size
  rw [h1, h2, h3, h4, h5, List.length_replicate]; simp [fzn]
theorem dU_EB {y : Et} {u : Bs} {n : Nat} (h : dE y = dU u n) (hu : u.length ≤ 1048576) (hn : n ≤ 1048576) : EB y := by
  obtain ⟨h1, _, _, h2, h3, h4, h5⟩ := dU_f h
  refine ⟨?_, ?_, ?_, ?_, ?_⟩
  · rw [h1]; omega
  · rw [h4]; decide
  · rw [h5, List.length_replicate]; omega
  · rw [h2]; decide
  · rw [h3]; decide
section
variable {e : Env} {ctx rest J : List HProp}
abbrev np : Value := .pointer none
theorem nil_iter {K : Value → WP} {q sb : Nat} {r0 : Loop} (h : Ent e (Sl.ob (q + 1) (lp r0 .ready none) :: pt sb [np] :: J) (K (.tuple #[]))) :
    Ent e (Sl.ob (q + 1) (lp r0 .ready none) :: pt sb [np] :: J) (store_Store_all_c1 (.func (.yield (q + 1)) #[] #[]) (ptr sb) K) := by
  (refine Ent.fn store_Store_all_c1_ok ?_; unfold store_Store_all_c1_sh)
  (refine Ent.go ?_)
  exact h
theorem used_nil {K : Int → WP} (h : Ent e rest (K 0)) : Ent e rest (store_Store_Used np K) := by
  (refine Ent.fn store_Store_Used_ok ?_; unfold store_Store_Used_sh)
  (refine Ent.go ?_)
  exact h
theorem copy_nil {K : Value → WP} (h : Ent e rest (K np)) : Ent e rest (store_Store_Copy np K) := by
  (refine Ent.fn store_Store_Copy_ok ?_; unfold store_Store_Copy_sh)
  (refine Ent.go ?_)
  exact h
theorem put_nil {K : Int → WP} {v : List Value} (h : Ent e rest (K 2)) : Ent e rest (store_Store_Put np (.agg v.toArray) K) := by
  (refine Ent.fn store_Store_Put_ok ?_; unfold store_Store_Put_sh)
  refine Ent.box' fun eb => ?_
  refine Ent.join ?_
  (refine Ent.go ?_)
  exact h.drop
theorem find_nil {K : Int → Bool → WP} {url : Bs} {a : Option Addr} {m c : Nat} (h : Ent e rest (K 0 false)) : Ent e rest (store_Store_find np (ba url) (.slice a m c) K) := by
  (refine Ent.fn store_Store_find_ok ?_; unfold store_Store_find_sh)
  refine Ent.box' fun s1 => ?_
  refine Ent.box' fun u1 => ?_
  refine Ent.box' fun l1 => ?_
  refine Ent.alloc' fun bb => ?_
  refine Ent.alloc' fun ib => ?_
  (refine Ent.go ?_)
  (refine Ent.fn store_Store_all_ok ?_; unfold store_Store_all_sh)
  refine Ent.box' fun sb => ?_
  refine Ent.rf callable_all (args := fun q => [.func (.yield (q + 1)) #[] #[], ptr sb]) (fun q => rfl) fun q r0 hr => ?_
  refine Ent.imp (ctx' := Sl.ob (q + 1) (lp r0 .ready none) :: pt sb [np] :: pt bb [.int .i64 0] :: pt ib [.bool false] :: Sl.ob q (.deferred (some [])) :: rest) (by (focus ((repeat ((with_reducible apply Imp.pick); (repeat (first | exact Pick.hd | apply Pick.tl)))); (repeat (first | exact Imp.refl _ | exact Imp.nil _ | apply Imp.drop)); done))) ?_
  refine nil_iter ?_
  refine Ent.ed (st := .ready) (fun h => by cases h) (by (repeat (first | exact Upd.hd | apply Upd.tl))) ?_
  show Ent e _ (JmK _ _ _ none)
  unfold JmK
  dsimp only
  (refine Ent.go ?_)
  refine Ent.tk (by (repeat (first | exact Upd.hd | apply Upd.tl))) ?_
  refine Ent.imp ?_ h
  (focus ((repeat ((with_reducible apply Imp.pick); (repeat (first | exact Pick.hd | apply Pick.tl)))); (repeat (first | exact Imp.refl _ | exact Imp.nil _ | apply Imp.drop)); done))
theorem gone_nil {K : Int → WP} {f : Value} (hf : f.cells.toList = [f]) (h : Ent e rest (K 0)) : Ent e rest (store_Store_gone np f K) := by
  (refine Ent.fn store_Store_gone_ok ?_; unfold store_Store_gone_sh)
  refine Ent.box' fun s1 => ?_
  refine Ent.box' (l := [f]) (fun i1 => ?_) hf
  refine Ent.alloc' fun nb => ?_
  (refine Ent.go ?_)
  (refine Ent.fn store_Store_all_ok ?_; unfold store_Store_all_sh)
  refine Ent.box' fun sb => ?_
  refine Ent.rf callable_all (args := fun q => [.func (.yield (q + 1)) #[] #[], ptr sb]) (fun q => rfl) fun q r0 hr => ?_
  refine Ent.imp (ctx' := Sl.ob (q + 1) (lp r0 .ready none) :: pt sb [np] :: pt nb [.int .i64 0] :: Sl.ob q (.deferred (some [])) :: rest) (by (focus ((repeat ((with_reducible apply Imp.pick); (repeat (first | exact Pick.hd | apply Pick.tl)))); (repeat (first | exact Imp.refl _ | exact Imp.nil _ | apply Imp.drop)); done))) ?_
  refine nil_iter ?_
  refine Ent.ed (st := .ready) (fun h => by cases h) (by (repeat (first | exact Upd.hd | apply Upd.tl))) ?_
  show Ent e _ (JmK _ _ _ none)
  unfold JmK
  dsimp only
  (refine Ent.go ?_)
  refine Ent.tk (by (repeat (first | exact Upd.hd | apply Upd.tl))) ?_
  refine Ent.imp ?_ h
  (focus ((repeat ((with_reducible apply Imp.pick); (repeat (first | exact Pick.hd | apply Pick.tl)))); (repeat (first | exact Imp.refl _ | exact Imp.nil _ | apply Imp.drop)); done))
theorem drop_nil {K : Int → WP} {url : Bs} (h : Ent e rest (K 0)) : Ent e rest (store_Store_Drop np (ba url) K) := by
  (refine Ent.fn store_Store_Drop_ok ?_; unfold store_Store_Drop_sh)
  refine Ent.box' fun ub => ?_
  refine gone_nil rfl ?_
  exact h.drop
theorem look_nil {K : Value → Bool → WP} {url : Bs} {a : Option Addr} {m c : Nat} (h : Ent e rest (K (.agg (ec ez).toArray) false)) : Ent e rest (store_Store_Look np (ba url) (.slice a m c) K) := by
  (refine Ent.fn store_Store_Look_ok ?_; unfold store_Store_Look_sh)
  refine Ent.alloc' fun tb => ?_
  refine find_nil ?_
  refine Ent.wT ?_
  (refine Ent.go ?_)
  refine Ent.wrA ?_
  refine Ent.imp ?_ h
  (focus ((repeat ((with_reducible apply Imp.pick); (repeat (first | exact Pick.hd | apply Pick.tl)))); (repeat (first | exact Imp.refl _ | exact Imp.nil _ | apply Imp.drop)); done))
theorem get_nil {K : Value → Bool → WP} {url : Bs} {a : Option Addr} {m c : Nat} (h : Ent e rest (K (.agg (ec ez).toArray) false)) : Ent e rest (store_Store_Get np (ba url) (.slice a m c) K) := by
  (refine Ent.fn store_Store_Get_ok ?_; unfold store_Store_Get_sh)
  refine Ent.alloc' fun tb => ?_
  refine find_nil ?_
  refine Ent.wT ?_
  (refine Ent.go ?_)
  refine Ent.wrA ?_
  refine Ent.imp ?_ h
  (focus ((repeat ((with_reducible apply Imp.pick); (repeat (first | exact Pick.hd | apply Pick.tl)))); (repeat (first | exact Imp.refl _ | exact Imp.nil _ | apply Imp.drop)); done))
theorem entries_nil {K : Value → WP} (h : Ent e rest (K (.slice none 0 0))) : Ent e rest (store_Store_Entries np K) := by
  (refine Ent.fn store_Store_Entries_ok ?_; unfold store_Store_Entries_sh)
  refine Ent.alloc' fun lc => ?_
  (refine Ent.fn store_Store_all_ok ?_; unfold store_Store_all_sh)
  refine Ent.box' fun sb => ?_
  refine Ent.rf callable_all (args := fun q => [.func (.yield (q + 1)) #[] #[], ptr sb]) (fun q => rfl) fun q r0 hr => ?_
  refine Ent.imp (ctx' := Sl.ob (q + 1) (lp r0 .ready none) :: pt sb [np] :: pt lc [.slice none 0 0] :: Sl.ob q (.deferred (some [])) :: rest) (by (focus ((repeat ((with_reducible apply Imp.pick); (repeat (first | exact Pick.hd | apply Pick.tl)))); (repeat (first | exact Imp.refl _ | exact Imp.nil _ | apply Imp.drop)); done))) ?_
  refine nil_iter ?_
  refine Ent.ed (st := .ready) (fun h => by cases h) (by (repeat (first | exact Upd.hd | apply Upd.tl))) ?_
  show Ent e _ (JmK _ _ _ none)
  unfold JmK
  dsimp only
  (refine Ent.go ?_)
  refine Ent.tk (by (repeat (first | exact Upd.hd | apply Upd.tl))) ?_
  refine Ent.imp ?_ h
  (focus ((repeat ((with_reducible apply Imp.pick); (repeat (first | exact Pick.hd | apply Pick.tl)))); (repeat (first | exact Imp.refl _ | exact Imp.nil _ | apply Imp.drop)); done))
end
end Go.Proofs.YtfofnagocedlgaaGreatDoor.Tx
