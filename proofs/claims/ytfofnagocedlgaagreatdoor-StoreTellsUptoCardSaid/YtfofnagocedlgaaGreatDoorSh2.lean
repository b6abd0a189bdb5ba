/-
  THE STORE (layer 21): New, Used, Drop, Look, Get.
-/
import Derived.Test.YtfofnagocedlgaaGreatDoorSd
set_option maxRecDepth 100000
set_option linter.unusedVariables false
set_option linter.unusedSectionVars false
set_option linter.unusedSimpArgs false
set_option maxHeartbeats 0
namespace Go.Proofs.YtfofnagocedlgaaGreatDoor.Tx
open Go Sh Sl
open Go.RowKit
attribute [local irreducible] condK ArK NilK OpK FnK StK joinK loopK DrawK andK PuK NxK EnK vS uS bS callS invokeS
theorem SOk.new {M : Hp} {bytes most : Nat} (h1 : bytes ≤ 262144) (h2 : most ≤ 64) : SOk M (List.replicate 64 none) [] [] bytes most := by
  refine ⟨by simp, fun x hx => ?_, fun i => ?_, ?_, h1, h2, fun i _ x hx => ?_⟩
  · have := List.eq_of_mem_replicate hx; cases this
  · constructor
    · rintro ⟨x, hx⟩
      have := List.eq_of_mem_replicate (List.mem_of_getElem? hx); cases this
    · intro h; cases h
  · have : used (List.replicate 64 none) = 0 := by rfl
    omega
  · have := List.eq_of_mem_replicate (List.mem_of_getElem? hx); cases this
/-- which store New makes -/
def newB (bytes entries : Int) : Bool := decide (0 ≤ bytes ∧ bytes ≤ 262144 ∧ 0 ≤ entries ∧ entries ≤ 64)
section
variable {e : Env} {ctx ctx' rest R : List HProp} {M : Hp} {b : Nat} {X : List (Option Et)} {tr kp : List Int} {bytes most n : Nat}
theorem snew_spec {K : Value → Int → WP} {by_ en : Int} (h1 : newB by_ en = false → Ent e (Sl.ro M :: rest) (K (.pointer none) 1))
    (h0 : ∀ b bytes most : Nat, by_ = bytes → en = most → bytes ≤ 262144 → most ≤ 64 → Ent e (SRep M b (List.replicate 64 none) [] [] bytes most 0 :: Sl.ro M :: rest) (K (ptr b) 0)) : Ent e (Sl.ro M :: rest) (store_New by_ en K) := by
  (refine Ent.fn store_New_ok ?_; unfold store_New_sh)
  refine Ent.join ?_
  have bad : ¬ (0 ≤ by_ ∧ by_ ≤ 262144 ∧ 0 ≤ en ∧ en ≤ 64) → Ent e (Sl.ro M :: rest) (K (.pointer none) 1) := fun hh => h1 (by unfold newB; exact decide_eq_false hh)
  by_cases c1 : by_ < 0
  · (refine Ent.go ?_)
    exact bad (by omega)
  by_cases c2 : by_ > 262144
  · (refine Ent.go ?_)
    exact bad (by omega)
  by_cases c3 : en < 0
  · (refine Ent.go ?_)
    exact bad (by omega)
  by_cases c4 : en > 64
  · (refine Ent.go ?_)
    exact bad (by omega)
  obtain ⟨bytes, rfl⟩ := Int.eq_ofNat_of_zero_le (by omega : 0 ≤ by_)
  obtain ⟨most, rfl⟩ := Int.eq_ofNat_of_zero_le (by omega : 0 ≤ en)
  (refine Ent.go ?_)
  refine Ent.opI ((st_quo (by decide) ?_).still) ?_
  · rw [Int.tdiv_eq_ediv_of_nonneg (by omega)]
    exact in_i64 (by omega) (by omega)
  rw [Int.tdiv_eq_ediv_of_nonneg (by omega)]
  refine Lr.new_spec (fun hh => absurd ⟨by omega, by omega⟩ hh) fun lb _ _ => ?_
  (refine Ent.go ?_)
  have hu : used (List.replicate 64 none) = 0 := by rfl
  refine Ent.box (l := SC (List.replicate 64 none) lb bytes most (used (List.replicate 64 none) : Nat)) ?_ fun b => ?_
  · rw [cells_agg]
    rfl
  refine Ent.imp ?_ (h0 b bytes most rfl rfl (by omega) (by omega))
  have e1 : ((most : Int) * 2 / 3).toNat = most * 2 / 3 := by omega
  rw [e1]
  refine Imp.trans ?_ (SRep.shut (lb := lb) (SOk.new (by omega) (by omega)))
  (focus ((repeat ((with_reducible apply Imp.pick); (repeat (first | exact Pick.hd | apply Pick.tl)))); (repeat (first | exact Imp.refl _ | exact Imp.nil _ | apply Imp.drop)); done))
theorem used_spec {K : Int → WP} (h : Ent e (SRep M b X tr kp bytes most n :: rest) (K (used X : Int))) : Ent e (SRep M b X tr kp bytes most n :: rest) (store_Store_Used (ptr b) K) := by
  (refine Ent.fn store_Store_Used_ok ?_; unfold store_Store_Used_sh)
  refine SRep.open fun lb hk => ?_
  refine Ent.opB (by apply Pu.still; exact st_nilP rfl (.inr rfl)) ?_
  refine Ent.wF ?_ rfl
  refine nIat (off := 643) rfl .hd (SC_used hk.len) ?_
  exact Ent.imp (SRep.shut hk) h
theorem drop_spec {K : Int → WP} {url : Bs} (h : Ent e (SRep M b (gX (fun x => decide (x.url = url)) X 64) (gL (fun x => decide (x.url = url)) X 64 tr) (gL (fun x => decide (x.url = url)) X 64 kp) bytes most n :: Sl.ro M :: rest) (K (gN (fun x => decide (x.url = url)) X 64 : Int))) :
    Ent e (SRep M b X tr kp bytes most n :: Sl.ro M :: rest) (store_Store_Drop (ptr b) (ba url) K) := by
  (refine Ent.fn store_Store_Drop_ok ?_; unfold store_Store_Drop_sh)
  refine Ent.box' fun ub => ?_
  refine Ent.imp (ctx' := SRep M b X tr kp bytes most n :: Sl.ro M :: ([pt ub [.string (ba url)]] ++ rest)) (by show Imp _ (_ :: _ :: _ :: rest); (focus ((repeat ((with_reducible apply Imp.pick); (repeat (first | exact Pick.hd | apply Pick.tl)))); (repeat (first | exact Imp.refl _ | exact Imp.nil _ | apply Imp.drop)); done))) ?_
  refine gone_spec (cap := [ptr ub]) (fun x => decide (x.url = url)) (by rfl) (fun R x k hM _ hrx hbx hk => ?_) ?_
  · refine Ent.fn (sh := store_Store_Drop_c1_sh (.agg (ec x).toArray) (ptr ub) k) (fun w h => store_Store_Drop_c1_ok w h) ?_
    show Ent e (pt ub [.string (ba url)] :: R) _
    refine Ent.box' fun eb => ?_
    (refine Ent.go ?_)
    have : decide (ba x.url = ba url) = decide (x.url = url) := decide_eq_decide.2 ba_inj
    rw [this]
    exact Ent.imp (by show Imp _ (_ :: R); (focus ((repeat ((with_reducible apply Imp.pick); (repeat (first | exact Pick.hd | apply Pick.tl)))); (repeat (first | exact Imp.refl _ | exact Imp.nil _ | apply Imp.drop)); done))) hk
  · exact Ent.imp (by show Imp (_ :: _ :: _ :: rest) _; (focus ((repeat ((with_reducible apply Imp.pick); (repeat (first | exact Pick.hd | apply Pick.tl)))); (repeat (first | exact Imp.refl _ | exact Imp.nil _ | apply Imp.drop)); done))) h
theorem look_spec {K : Value → Bool → WP} {url : Bs} {a : Option Addr} {c : Nat} {l : List Fd} (hl : Rd rest a (fc l)) (hlb : fsz l ≤ 268435456)
    (h0 : fdk url l X 64 = none → Ent e (SRep M b X tr kp bytes most n :: Sl.ro M :: rest) (K (.agg (ec ez).toArray) false))
    (h1 : ∀ i x y, fdk url l X 64 = some i → X[i]? = some (some x) → dE y = dE x → EB x → Ent e (OwnE y (SRep M b X tr kp bytes most n :: Sl.ro M :: rest)) (K (.agg (ec y).toArray) true)) :
    Ent e (SRep M b X tr kp bytes most n :: Sl.ro M :: rest) (store_Store_Look (ptr b) (ba url) (.slice a l.length c) K) := by
  (refine Ent.fn store_Store_Look_ok ?_; unfold store_Store_Look_sh)
  refine Ent.alloc' fun tb => ?_
  refine Ent.bring (A := SRep M b X tr kp bytes most n) ?_
  refine SRep.open fun lb hk => ?_
  refine find_spec (M := M) hk.len (by (repeat (first | exact Has.hd | apply Has.tl))) (by (repeat (first | exact Has.hd | apply Has.tl))) hk.rd (hl.mono (Imp.drop (Imp.drop (Imp.drop (Imp.drop (Imp.refl _)))))) hlb ?_
  cases hf : fdk url l X 64 with
  | none =>
    refine Ent.wT ?_
    (refine Ent.go ?_)
    refine Ent.wrA ?_
    refine Ent.imp ?_ (h0 hf)
    refine Imp.trans ?_ (SRep.shut (lb := lb) hk)
    (focus ((repeat ((with_reducible apply Imp.pick); (repeat (first | exact Pick.hd | apply Pick.tl)))); (repeat (first | exact Imp.refl _ | exact Imp.nil _ | apply Imp.drop)); done))
  | some i =>
    obtain ⟨x, hx, _⟩ := fdk_some hf
    obtain ⟨hrx, hbx⟩ := hk.rd x (List.mem_of_getElem? hx)
    have hX := hk.len
    have hi : i < 64 := by have := (List.getElem?_eq_some_iff.1 hx).1; omega
    refine Ent.wF ?_
    refine Ent.nil ?_
    refine Ent.opR (st_field (off := 0) rfl).still ?_
    refine Ent.opR (st_ixA (m := 64) (sz := 10) rfl rfl (by show (0 : Int) ≤ ((i : Nat) : Int); omega) (by show ((i : Nat) : Int) < _; omega)).still ?_
    refine Ent.opR (st_field (off := 0) rfl).still ?_
    refine Ent.opR (v := .agg (ec x).toArray) (st_loadA (n := 9) .hd rfl (by show ((SC X lb bytes most (used X)).drop (0 + 0 + ((i : Nat) : Int).toNat * 10 + 0)).take 9 = _; rw [show 0 + 0 + ((i : Nat) : Int).toNat * 10 + 0 = i * 10 by omega]; exact SC_entry hx) rfl) ?_
    refine copied_spec (hrx.rd (by (repeat (first | exact Has.hd | apply Has.tl)))) hbx fun y hy => ?_
    (refine Ent.go ?_)
    refine Ent.wrA ?_
    refine Ent.imp ?_ (h1 i x y hf hx hy hbx)
    refine Imp.trans (b := pt b (SC X lb bytes most (used X)) :: Lr.LRep lb tr kp (most * 2 / 3) n :: OwnE y (Sl.ro M :: rest)) (by (focus ((repeat ((with_reducible apply Imp.pick); (repeat (first | exact Pick.hd | apply Pick.tl)))); (repeat (first | exact Imp.refl _ | exact Imp.nil _ | apply Imp.drop)); done))) ?_
    refine (SRep.shut (lb := lb) hk).trans ?_
    (focus ((repeat ((with_reducible apply Imp.pick); (repeat (first | exact Pick.hd | apply Pick.tl)))); (repeat (first | exact Imp.refl _ | exact Imp.nil _ | apply Imp.drop)); done))
theorem get_s_spec {K : Value → Bool → WP} {url : Bs} {a : Option Addr} {c : Nat} {l : List Fd} (hn : n + 1 < 4503599627370496) (hl : Rd rest a (fc l)) (hlb : fsz l ≤ 268435456)
    (h0 : fdk url l X 64 = none → Ent e (SRep M b X tr kp bytes most n :: Sl.ro M :: rest) (K (.agg (ec ez).toArray) false))
    (h1 : ∀ i x y, fdk url l X 64 = some i → X[i]? = some (some x) → dE y = dE x → EB x → Ent e (OwnE y (SRep M b X (Lr.toT tr kp (most * 2 / 3) i).1 (Lr.toT tr kp (most * 2 / 3) i).2 bytes most (n + 2) :: Sl.ro M :: rest)) (K (.agg (ec y).toArray) true)) :
    Ent e (SRep M b X tr kp bytes most n :: Sl.ro M :: rest) (store_Store_Get (ptr b) (ba url) (.slice a l.length c) K) := by
  (refine Ent.fn store_Store_Get_ok ?_; unfold store_Store_Get_sh)
  refine Ent.alloc' fun tb => ?_
  refine Ent.bring (A := SRep M b X tr kp bytes most n) ?_
  refine SRep.open fun lb hk => ?_
  refine find_spec (M := M) hk.len (by (repeat (first | exact Has.hd | apply Has.tl))) (by (repeat (first | exact Has.hd | apply Has.tl))) hk.rd (hl.mono (Imp.drop (Imp.drop (Imp.drop (Imp.drop (Imp.refl _)))))) hlb ?_
  cases hf : fdk url l X 64 with
  | none =>
    refine Ent.wT ?_
    (refine Ent.go ?_)
    refine Ent.wrA ?_
    refine Ent.imp ?_ (h0 hf)
    refine Imp.trans ?_ (SRep.shut (lb := lb) hk)
    (focus ((repeat ((with_reducible apply Imp.pick); (repeat (first | exact Pick.hd | apply Pick.tl)))); (repeat (first | exact Imp.refl _ | exact Imp.nil _ | apply Imp.drop)); done))
  | some i =>
    obtain ⟨x, hx, _⟩ := fdk_some hf
    obtain ⟨hrx, hbx⟩ := hk.rd x (List.mem_of_getElem? hx)
    have hX := hk.len
    have hi : i < 64 := by have := (List.getElem?_eq_some_iff.1 hx).1; omega
    have hmem : (i : Int) ∈ tr ++ kp := (hk.mem i).1 ⟨x, hx⟩
    refine Ent.wF ?_
    refine nRat (off := 640) rfl rfl (by (repeat (first | exact Has.hd | apply Has.tl))) (SC_list hX) ?_
    refine Ent.bring (A := Lr.LRep lb tr kp (most * 2 / 3) n) ?_
    refine Lr.touch_spec (id := (i : Int)) hn (fun hh => absurd ?_ hh) fun _ _ _ => ?_
    · unfold Lr.toC
      rw [if_neg (by omega), if_pos hmem]
    have hk2 : SOk M X (Lr.toT tr kp (most * 2 / 3) i).1 (Lr.toT tr kp (most * 2 / 3) i).2 bytes most :=
      { hk with mem := fun j => (hk.mem j).trans (toT_mem hmem _) }
    refine Ent.nil ?_
    refine Ent.opR (st_field (off := 0) rfl).still ?_
    refine Ent.opR (st_ixA (m := 64) (sz := 10) rfl rfl (by show (0 : Int) ≤ ((i : Nat) : Int); omega) (by show ((i : Nat) : Int) < _; omega)).still ?_
    refine Ent.opR (st_field (off := 0) rfl).still ?_
    refine Ent.opR (v := .agg (ec x).toArray) (st_loadA (n := 9) (.tl .hd) rfl (by show ((SC X lb bytes most (used X)).drop (0 + 0 + ((i : Nat) : Int).toNat * 10 + 0)).take 9 = _; rw [show 0 + 0 + ((i : Nat) : Int).toNat * 10 + 0 = i * 10 by omega]; exact SC_entry hx) rfl) ?_
    refine copied_spec (hrx.rd (by (repeat (first | exact Has.hd | apply Has.tl)))) hbx fun y hy => ?_
    (refine Ent.go ?_)
    refine Ent.wrA ?_
    refine Ent.imp ?_ (h1 i x y hf hx hy hbx)
    refine Imp.trans (b := pt b (SC X lb bytes most (used X)) :: Lr.LRep lb (Lr.toT tr kp (most * 2 / 3) i).1 (Lr.toT tr kp (most * 2 / 3) i).2 (most * 2 / 3) (n + 2) :: OwnE y (Sl.ro M :: rest)) (by (focus ((repeat ((with_reducible apply Imp.pick); (repeat (first | exact Pick.hd | apply Pick.tl)))); (repeat (first | exact Imp.refl _ | exact Imp.nil _ | apply Imp.drop)); done))) ?_
    refine (SRep.shut (lb := lb) hk2).trans ?_
    (focus ((repeat ((with_reducible apply Imp.pick); (repeat (first | exact Pick.hd | apply Pick.tl)))); (repeat (first | exact Imp.refl _ | exact Imp.nil _ | apply Imp.drop)); done))
where
  toT_mem {tr kp : List Int} {most : Nat} {i : Int} (hi : i ∈ tr ++ kp) (y : Int) : y ∈ tr ++ kp ↔ y ∈ (Lr.toT tr kp most i).1 ++ (Lr.toT tr kp most i).2 := by
    unfold Lr.toT
    split
    · have hm : (i :: Lr.out kp i).getLast (by simp) ∈ i :: Lr.out kp i := List.getLast_mem _
      generalize (i :: Lr.out kp i).getLast (by simp) = z at hm
      have hm2 := hm
      rw [List.mem_cons, Lr.mem_out] at hm2
      simp only [List.mem_append, List.mem_cons, Lr.mem_out] at *
      by_cases e1 : y = z <;> by_cases e2 : y = i <;> simp_all
    · simp only [List.mem_append, List.mem_cons, Lr.mem_out] at *
      by_cases e2 : y = i <;> simp_all
end
end Go.Proofs.YtfofnagocedlgaaGreatDoor.Tx
