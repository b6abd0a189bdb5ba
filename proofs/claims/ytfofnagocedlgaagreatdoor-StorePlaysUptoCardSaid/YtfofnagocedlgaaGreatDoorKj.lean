/- The texts Sh2 Si Sp Sq Sw Lift Sx Sy Sz, laid together. -/
import Derived.Test.YtfofnagocedlgaaGreatDoorRows
import Derived.ProofKit
import Derived.OpenShut
import Derived.JoinedCond
import Derived.ChangeArms
import Derived.Carry
import Derived.Test.YtfofnagocedlgaaGreatDoorKc
import Derived.Test.YtfofnagocedlgaaGreatDoorKi
section
/-
  THE STORE (layer 21): New, Used, Drop, Look, Get.
-/
set_option maxRecDepth 100000
set_option linter.unusedVariables false
set_option linter.unusedSectionVars false
set_option linter.unusedSimpArgs false
set_option maxHeartbeats 0
namespace Go.Proofs.YtfofnagocedlgaaGreatDoor.Tx
open Go Sh Sl
open Go.RowKit
attribute [local irreducible] condK ArK NilK OpK FnK StK joinK loopK DrawK andK PuK NxK EnK vS uS bS callS invokeS
theorem SOk.new {M : Hp} {bytes most : Nat} (h1 : bytes ≤ 262144) (h2 : most ≤ 64) : SOk M (List.replicate 64 none) [] [] bytes most := by
  refine ⟨by simp, fun x hx => ?_, fun i => ?_, ?_, h1, h2, fun i _ x hx => ?_⟩
  · have := List.eq_of_mem_replicate hx; cases this
  · constructor
    · rintro ⟨x, hx⟩
      have := List.eq_of_mem_replicate (List.mem_of_getElem? hx); cases this
    · intro h; cases h
  · have : used (List.replicate 64 none) = 0 := by rfl
    omega
  · have := List.eq_of_mem_replicate (List.mem_of_getElem? hx); cases this
/-- which store New makes -/
def newB (bytes entries : Int) : Bool := decide (0 ≤ bytes ∧ bytes ≤ 262144 ∧ 0 ≤ entries ∧ entries ≤ 64)
section
variable {e : Env} {ctx ctx' rest R : List HProp} {M : Hp} {b : Nat} {X : List (Option Et)} {tr kp : List Int} {bytes most n : Nat}
theorem snew_spec {K : Value → Int → WP} {by_ en : Int} (h1 : newB by_ en = false → Ent e (Sl.ro M :: rest) (K (.pointer none) 1))
    (h0 : ∀ b bytes most : Nat, by_ = bytes → en = most → bytes ≤ 262144 → most ≤ 64 → Ent e (SRep M b (List.replicate 64 none) [] [] bytes most 0 :: Sl.ro M :: rest) (K (ptr b) 0)) : Ent e (Sl.ro M :: rest) (store_New by_ en K) := by
  (refine Ent.fn store_New_ok ?_; unfold store_New_sh)
  refine Ent.join ?_
  have bad : ¬ (0 ≤ by_ ∧ by_ ≤ 262144 ∧ 0 ≤ en ∧ en ≤ 64) → Ent e (Sl.ro M :: rest) (K (.pointer none) 1) := fun hh => h1 (by unfold newB; exact decide_eq_false hh)
  by_cases c1 : by_ < 0
  · (refine Ent.go ?_)
    exact bad (by omega)
  by_cases c2 : by_ > 262144
  · (refine Ent.go ?_)
    exact bad (by omega)
  by_cases c3 : en < 0
  · (refine Ent.go ?_)
    exact bad (by omega)
  by_cases c4 : en > 64
  · (refine Ent.go ?_)
    exact bad (by omega)
  obtain ⟨bytes, rfl⟩ := Int.eq_ofNat_of_zero_le (by omega : 0 ≤ by_)
  obtain ⟨most, rfl⟩ := Int.eq_ofNat_of_zero_le (by omega : 0 ≤ en)
  (refine Ent.go ?_)
  refine Ent.opI ((st_quo (by decide) ?_).still) ?_
  · rw [Int.tdiv_eq_ediv_of_nonneg (by omega)]
    exact in_i64 (by omega) (by omega)
  rw [Int.tdiv_eq_ediv_of_nonneg (by omega)]
  refine Lr.new_spec (fun hh => absurd ⟨by omega, by omega⟩ hh) fun lb _ _ => ?_
  (refine Ent.go ?_)
  have hu : used (List.replicate 64 none) = 0 := by rfl
  refine Ent.box (l := SC (List.replicate 64 none) lb bytes most (used (List.replicate 64 none) : Nat)) ?_ fun b => ?_
  · rw [cells_agg]
    rfl
  refine Ent.imp ?_ (h0 b bytes most rfl rfl (by omega) (by omega))
  have e1 : ((most : Int) * 2 / 3).toNat = most * 2 / 3 := by omega
  rw [e1]
  refine Imp.trans ?_ (SRep.shut (lb := lb) (SOk.new (by omega) (by omega)))
  (focus ((repeat ((with_reducible apply Imp.pick); (repeat (first | exact Pick.hd | apply Pick.tl)))); (repeat (first | exact Imp.refl _ | exact Imp.nil _ | apply Imp.drop)); done))
theorem used_spec {K : Int → WP} (h : Ent e (SRep M b X tr kp bytes most n :: rest) (K (used X : Int))) : Ent e (SRep M b X tr kp bytes most n :: rest) (store_Store_Used (ptr b) K) := by
  (refine Ent.fn store_Store_Used_ok ?_; unfold store_Store_Used_sh)
  refine SRep.open fun lb hk => ?_
  refine Ent.opB (by apply Pu.still; exact st_nilP rfl (.inr rfl)) ?_
  refine Ent.wF ?_ rfl
  refine nIat (off := 643) rfl .hd (SC_used hk.len) ?_
  exact Ent.imp (SRep.shut hk) h
theorem drop_spec {K : Int → WP} {url : Bs} (h : Ent e (SRep M b (gX (fun x => decide (x.url = url)) X 64) (gL (fun x => decide (x.url = url)) X 64 tr) (gL (fun x => decide (x.url = url)) X 64 kp) bytes most n :: Sl.ro M :: rest) (K (gN (fun x => decide (x.url = url)) X 64 : Int))) :
    Ent e (SRep M b X tr kp bytes most n :: Sl.ro M :: rest) (store_Store_Drop (ptr b) (ba url) K) := by
  (refine Ent.fn store_Store_Drop_ok ?_; unfold store_Store_Drop_sh)
  refine Ent.box' fun ub => ?_
  refine Ent.imp (ctx' := SRep M b X tr kp bytes most n :: Sl.ro M :: ([pt ub [.string (ba url)]] ++ rest)) (by show Imp _ (_ :: _ :: _ :: rest); (focus ((repeat ((with_reducible apply Imp.pick); (repeat (first | exact Pick.hd | apply Pick.tl)))); (repeat (first | exact Imp.refl _ | exact Imp.nil _ | apply Imp.drop)); done))) ?_
  refine gone_spec (cap := [ptr ub]) (fun x => decide (x.url = url)) (by rfl) (fun R x k hM _ hrx hbx hk => ?_) ?_
  · refine Ent.fn (sh := store_Store_Drop_c1_sh (.agg (ec x).toArray) (ptr ub) k) (fun w h => store_Store_Drop_c1_ok w h) ?_
    show Ent e (pt ub [.string (ba url)] :: R) _
    refine Ent.box' fun eb => ?_
    (refine Ent.go ?_)
    have : decide (ba x.url = ba url) = decide (x.url = url) := decide_eq_decide.2 ba_inj
    rw [this]
    exact Ent.imp (by show Imp _ (_ :: R); (focus ((repeat ((with_reducible apply Imp.pick); (repeat (first | exact Pick.hd | apply Pick.tl)))); (repeat (first | exact Imp.refl _ | exact Imp.nil _ | apply Imp.drop)); done))) hk
  · exact Ent.imp (by show Imp (_ :: _ :: _ :: rest) _; (focus ((repeat ((with_reducible apply Imp.pick); (repeat (first | exact Pick.hd | apply Pick.tl)))); (repeat (first | exact Imp.refl _ | exact Imp.nil _ | apply Imp.drop)); done))) h
theorem look_spec {K : Value → Bool → WP} {url : Bs} {a : Option Addr} {c : Nat} {l : List Fd} (hl : Rd rest a (fc l)) (hlb : fsz l ≤ 268435456)
    (h0 : fdk url l X 64 = none → Ent e (SRep M b X tr kp bytes most n :: Sl.ro M :: rest) (K (.agg (ec ez).toArray) false))
    (h1 : ∀ i x y, fdk url l X 64 = some i → X[i]? = some (some x) → dE y = dE x → EB x → Ent e (OwnE y (SRep M b X tr kp bytes most n :: Sl.ro M :: rest)) (K (.agg (ec y).toArray) true)) :
    Ent e (SRep M b X tr kp bytes most n :: Sl.ro M :: rest) (store_Store_Look (ptr b) (ba url) (.slice a l.length c) K) := by
  (refine Ent.fn store_Store_Look_ok ?_; unfold store_Store_Look_sh)
  refine Ent.alloc' fun tb => ?_
  refine Ent.bring (A := SRep M b X tr kp bytes most n) ?_
  refine SRep.open fun lb hk => ?_
  refine find_spec (M := M) hk.len (by (repeat (first | exact Has.hd | apply Has.tl))) (by (repeat (first | exact Has.hd | apply Has.tl))) hk.rd (hl.mono (Imp.drop (Imp.drop (Imp.drop (Imp.drop (Imp.refl _)))))) hlb ?_
  cases hf : fdk url l X 64 with
  | none =>
    refine Ent.wT ?_
    (refine Ent.go ?_)
    refine Ent.wrA ?_
    refine Ent.imp ?_ (h0 hf)
    refine Imp.trans ?_ (SRep.shut (lb := lb) hk)
    (focus ((repeat ((with_reducible apply Imp.pick); (repeat (first | exact Pick.hd | apply Pick.tl)))); (repeat (first | exact Imp.refl _ | exact Imp.nil _ | apply Imp.drop)); done))
  | some i =>
    obtain ⟨x, hx, _⟩ := fdk_some hf
    obtain ⟨hrx, hbx⟩ := hk.rd x (List.mem_of_getElem? hx)
    have hX := hk.len
    have hi : i < 64 := by have := (List.getElem?_eq_some_iff.1 hx).1; omega
    refine Ent.wF ?_
    refine Ent.nil ?_
    refine Ent.opR (st_field (off := 0) rfl).still ?_
    refine Ent.opR (st_ixA (m := 64) (sz := 10) rfl rfl (by show (0 : Int) ≤ ((i : Nat) : Int); omega) (by show ((i : Nat) : Int) < _; omega)).still ?_
    refine Ent.opR (st_field (off := 0) rfl).still ?_
    refine Ent.opR (v := .agg (ec x).toArray) (st_loadA (n := 9) .hd rfl (by show ((SC X lb bytes most (used X)).drop (0 + 0 + ((i : Nat) : Int).toNat * 10 + 0)).take 9 = _; rw [show 0 + 0 + ((i : Nat) : Int).toNat * 10 + 0 = i * 10 by omega]; exact SC_entry hx) rfl) ?_
    refine copied_spec (hrx.rd (by (repeat (first | exact Has.hd | apply Has.tl)))) hbx fun y hy => ?_
    (refine Ent.go ?_)
    refine Ent.wrA ?_
    refine Ent.imp ?_ (h1 i x y hf hx hy hbx)
    refine Imp.trans (b := pt b (SC X lb bytes most (used X)) :: Lr.LRep lb tr kp (most * 2 / 3) n :: OwnE y (Sl.ro M :: rest)) (by (focus ((repeat ((with_reducible apply Imp.pick); (repeat (first | exact Pick.hd | apply Pick.tl)))); (repeat (first | exact Imp.refl _ | exact Imp.nil _ | apply Imp.drop)); done))) ?_
    refine (SRep.shut (lb := lb) hk).trans ?_
    (focus ((repeat ((with_reducible apply Imp.pick); (repeat (first | exact Pick.hd | apply Pick.tl)))); (repeat (first | exact Imp.refl _ | exact Imp.nil _ | apply Imp.drop)); done))
theorem get_s_spec {K : Value → Bool → WP} {url : Bs} {a : Option Addr} {c : Nat} {l : List Fd} (hn : n + 1 < 4503599627370496) (hl : Rd rest a (fc l)) (hlb : fsz l ≤ 268435456)
    (h0 : fdk url l X 64 = none → Ent e (SRep M b X tr kp bytes most n :: Sl.ro M :: rest) (K (.agg (ec ez).toArray) false))
    (h1 : ∀ i x y, fdk url l X 64 = some i → X[i]? = some (some x) → dE y = dE x → EB x → Ent e (OwnE y (SRep M b X (Lr.toT tr kp (most * 2 / 3) i).1 (Lr.toT tr kp (most * 2 / 3) i).2 bytes most (n + 2) :: Sl.ro M :: rest)) (K (.agg (ec y).toArray) true)) :
    Ent e (SRep M b X tr kp bytes most n :: Sl.ro M :: rest) (store_Store_Get (ptr b) (ba url) (.slice a l.length c) K) := by
  (refine Ent.fn store_Store_Get_ok ?_; unfold store_Store_Get_sh)
  refine Ent.alloc' fun tb => ?_
  refine Ent.bring (A := SRep M b X tr kp bytes most n) ?_
  refine SRep.open fun lb hk => ?_
  refine find_spec (M := M) hk.len (by (repeat (first | exact Has.hd | apply Has.tl))) (by (repeat (first | exact Has.hd | apply Has.tl))) hk.rd (hl.mono (Imp.drop (Imp.drop (Imp.drop (Imp.drop (Imp.refl _)))))) hlb ?_
  cases hf : fdk url l X 64 with
  | none =>
    refine Ent.wT ?_
    (refine Ent.go ?_)
    refine Ent.wrA ?_
    refine Ent.imp ?_ (h0 hf)
    refine Imp.trans ?_ (SRep.shut (lb := lb) hk)
    (focus ((repeat ((with_reducible apply Imp.pick); (repeat (first | exact Pick.hd | apply Pick.tl)))); (repeat (first | exact Imp.refl _ | exact Imp.nil _ | apply Imp.drop)); done))
  | some i =>
    obtain ⟨x, hx, _⟩ := fdk_some hf
    obtain ⟨hrx, hbx⟩ := hk.rd x (List.mem_of_getElem? hx)
    have hX := hk.len
    have hi : i < 64 := by have := (List.getElem?_eq_some_iff.1 hx).1; omega
    have hmem : (i : Int) ∈ tr ++ kp := (hk.mem i).1 ⟨x, hx⟩
    refine Ent.wF ?_
    refine nRat (off := 640) rfl rfl (by (repeat (first | exact Has.hd | apply Has.tl))) (SC_list hX) ?_
    refine Ent.bring (A := Lr.LRep lb tr kp (most * 2 / 3) n) ?_
    refine Lr.touch_spec (id := (i : Int)) hn (fun hh => absurd ?_ hh) fun _ _ _ => ?_
    · unfold Lr.toC
      rw [if_neg (by omega), if_pos hmem]
    have hk2 : SOk M X (Lr.toT tr kp (most * 2 / 3) i).1 (Lr.toT tr kp (most * 2 / 3) i).2 bytes most :=
      { hk with mem := fun j => (hk.mem j).trans (toT_mem hmem _) }
    refine Ent.nil ?_
    refine Ent.opR (st_field (off := 0) rfl).still ?_
    refine Ent.opR (st_ixA (m := 64) (sz := 10) rfl rfl (by show (0 : Int) ≤ ((i : Nat) : Int); omega) (by show ((i : Nat) : Int) < _; omega)).still ?_
    refine Ent.opR (st_field (off := 0) rfl).still ?_
    refine Ent.opR (v := .agg (ec x).toArray) (st_loadA (n := 9) (.tl .hd) rfl (by show ((SC X lb bytes most (used X)).drop (0 + 0 + ((i : Nat) : Int).toNat * 10 + 0)).take 9 = _; rw [show 0 + 0 + ((i : Nat) : Int).toNat * 10 + 0 = i * 10 by omega]; exact SC_entry hx) rfl) ?_
    refine copied_spec (hrx.rd (by (repeat (first | exact Has.hd | apply Has.tl)))) hbx fun y hy => ?_
    (refine Ent.go ?_)
    refine Ent.wrA ?_
    refine Ent.imp ?_ (h1 i x y hf hx hy hbx)
    refine Imp.trans (b := pt b (SC X lb bytes most (used X)) :: Lr.LRep lb (Lr.toT tr kp (most * 2 / 3) i).1 (Lr.toT tr kp (most * 2 / 3) i).2 (most * 2 / 3) (n + 2) :: OwnE y (Sl.ro M :: rest)) (by (focus ((repeat ((with_reducible apply Imp.pick); (repeat (first | exact Pick.hd | apply Pick.tl)))); (repeat (first | exact Imp.refl _ | exact Imp.nil _ | apply Imp.drop)); done))) ?_
    refine (SRep.shut (lb := lb) hk2).trans ?_
    (focus ((repeat ((with_reducible apply Imp.pick); (repeat (first | exact Pick.hd | apply Pick.tl)))); (repeat (first | exact Imp.refl _ | exact Imp.nil _ | apply Imp.drop)); done))
where
  toT_mem {tr kp : List Int} {most : Nat} {i : Int} (hi : i ∈ tr ++ kp) (y : Int) : y ∈ tr ++ kp ↔ y ∈ (Lr.toT tr kp most i).1 ++ (Lr.toT tr kp most i).2 := by
    unfold Lr.toT
    split
    · have hm : (i :: Lr.out kp i).getLast (by simp) ∈ i :: Lr.out kp i := List.getLast_mem _
      generalize (i :: Lr.out kp i).getLast (by simp) = z at hm
      have hm2 := hm
      rw [List.mem_cons, Lr.mem_out] at hm2
      simp only [List.mem_append, List.mem_cons, Lr.mem_out] at *
      by_cases e1 : y = z <;> by_cases e2 : y = i <;> simp_all
    · simp only [List.mem_append, List.mem_cons, Lr.mem_out] at *
      by_cases e2 : y = i <;> simp_all
end
end Go.Proofs.YtfofnagocedlgaaGreatDoor.Tx
end
section
/-
  THE STORE (layer 21): all entries.
-/
set_option maxRecDepth 100000
set_option linter.unusedVariables false
set_option linter.unusedSectionVars false
set_option linter.unusedSimpArgs false
set_option maxHeartbeats 0
namespace Go.Proofs.YtfofnagocedlgaaGreatDoor.Tx
open Go Sh Sl
open Go.RowKit
attribute [local irreducible] condK ArK NilK OpK FnK StK joinK loopK DrawK andK PuK NxK EnK vS uS bS callS invokeS
def ents (X : List (Option Et)) : List Et := X.filterMap id
theorem ents_take {X : List (Option Et)} {k : Nat} {o : Option Et} (h : X[k]? = some o) : ents (X.take (k + 1)) = ents (X.take k) ++ (match o with | some x => [x] | none => []) := by
  unfold ents
  rw [take_snoc h, List.filterMap_append]
  cases o <;> rfl
theorem ents_len {X : List (Option Et)} {k : Nat} (h : X.length = 64) : (ents (X.take k)).length ≤ 64 := by
  unfold ents
  refine Nat.le_trans (List.length_filterMap_le _ _) ?_
  simp; omega
theorem EB.of {x y : Et} (h : dE y = dE x) (hb : EB x) : EB y := by
  obtain ⟨h1, _, _, h4, h5⟩ := dE_iff.1 h
  have h6 := (Prod.mk.inj h5).2
  have h7 := (Prod.mk.inj h6).1
  have h8 := (Prod.mk.inj (Prod.mk.inj (Prod.mk.inj h6).2).2)
  exact ⟨h1 ▸ hb.u, h7 ▸ hb.r, h8.2 ▸ hb.b, h4 ▸ hb.w, h8.1 ▸ hb.f⟩
theorem SOk.mono {M M' : Hp} {X : List (Option Et)} {tr kp : List Int} {bytes most : Nat} (h : SOk M X tr kp bytes most) (hl : Hp.le M M') : SOk M' X tr kp bytes most :=
  { h with rd := fun x hx => ⟨(h.rd x hx).1.mono hl, (h.rd x hx).2⟩ }
/-- the cells of entries -/
def ecs (ys : List Et) : List Value := (ys.map fun y => ec y).flatten
@[simp] theorem ecs_len (ys : List Et) : (ecs ys).length = ys.length * 9 := flat_len (fun y => ec y) 9 (fun _ => rfl) ys
theorem ecs_app (a b : List Et) : ecs (a ++ b) = ecs a ++ ecs b := by simp [ecs]
section
variable {e : Env} {ctx ctx' rest R : List HProp} {M : Hp} {b : Nat} {X : List (Option Et)} {tr kp : List Int} {bytes most n : Nat}
theorem SRep.mono {M' : Hp} (hl : Hp.le M M') : Imp (SRep M b X tr kp bytes most n :: rest) (SRep M' b X tr kp bytes most n :: rest) := fun _ k =>
  sepL_cons (fun _ ⟨lb, hh⟩ => ⟨lb, sepL_cons (fun _ (hk : SOk M X tr kp bytes most) => hk.mono hl) (fun _ z => z) hh⟩) (fun _ z => z) k
theorem keepE {y : Et} {c : WP} (h : ∀ M', Hp.le M M' → RdEM M' y → Ent e (Sl.ro M' :: ctx) c) : Ent e (OwnE y (Sl.ro M :: ctx)) c := by
  refine Ent.imp (ctx' := SlO y.wa y.wl.length y.wc 2 (fc y.wl) :: Sl.ro M :: SlO y.fa y.fl.length y.fk 2 (fc y.fl) :: SlO y.ba_ y.bl.length y.bk 1 (u8 y.bl) :: ctx) (by (focus ((repeat ((with_reducible apply Imp.pick); (repeat (first | exact Pick.hd | apply Pick.tl)))); (repeat (first | exact Imp.refl _ | exact Imp.nil _ | apply Imp.drop)); done))) ?_
  refine Ent.keepS fun M1 l1 r1 _ _ _ => ?_
  refine Ent.imp (ctx' := SlO y.fa y.fl.length y.fk 2 (fc y.fl) :: Sl.ro M1 :: SlO y.ba_ y.bl.length y.bk 1 (u8 y.bl) :: ctx) (by (focus ((repeat ((with_reducible apply Imp.pick); (repeat (first | exact Pick.hd | apply Pick.tl)))); (repeat (first | exact Imp.refl _ | exact Imp.nil _ | apply Imp.drop)); done))) ?_
  refine Ent.keepS fun M2 l2 r2 _ _ _ => ?_
  refine Ent.imp (ctx' := SlO y.ba_ y.bl.length y.bk 1 (u8 y.bl) :: Sl.ro M2 :: ctx) (by (focus ((repeat ((with_reducible apply Imp.pick); (repeat (first | exact Pick.hd | apply Pick.tl)))); (repeat (first | exact Imp.refl _ | exact Imp.nil _ | apply Imp.drop)); done))) ?_
  refine Ent.keepS fun M3 l3 r3 _ _ _ => ?_
  exact h M3 (Hp.le_trans l1 (Hp.le_trans l2 l3)) ⟨r1.mono (Hp.le_trans l2 l3), r2.mono l3, r3⟩
theorem entries_spec {K : Value → WP} (h : ∀ M' ys a c, Hp.le M M' → ys.map dE = (ents X).map dE → (∀ y ∈ ys, RdEM M' y ∧ EB y) → Ent e (SlO a ys.length c 9 (ecs ys) :: SRep M' b X tr kp bytes most n :: Sl.ro M' :: rest) (K (.slice a ys.length c))) :
    Ent e (SRep M b X tr kp bytes most n :: Sl.ro M :: rest) (store_Store_Entries (ptr b) K) := by
  (refine Ent.fn store_Store_Entries_ok ?_; unfold store_Store_Entries_sh)
  refine Ent.alloc' fun lc => ?_
  refine Ent.bring (A := SRep M b X tr kp bytes most n) ?_
  refine SRep.open fun lb hk => ?_
  have hX := hk.len
  (refine Ent.fn store_Store_all_ok ?_; unfold store_Store_all_sh)
  refine Ent.box' fun sb => ?_
  refine Ent.rf callable_all (args := fun q => [.func (.yield (q + 1)) #[] #[], ptr sb]) (fun q => rfl) fun q r0 hr => ?_
  refine Ent.imp (ctx' := Sl.ob (q + 1) (lp r0 .ready none) :: pt sb [ptr b] :: pt lc [.slice none 0 0] :: pt b (SC X lb bytes most (used X)) :: Sl.ro M :: Lr.LRep lb tr kp (most * 2 / 3) n :: Sl.ob q (.deferred (some [])) :: rest) (by (focus ((repeat ((with_reducible apply Imp.pick); (repeat (first | exact Pick.hd | apply Pick.tl)))); (repeat (first | exact Imp.refl _ | exact Imp.nil _ | apply Imp.drop)); done))) ?_
  refine all_iter hX _ (fun k => exs (fun (y : Hp × List Et × Option Addr × Nat) => sepL [pur (Hp.le M y.1 ∧ y.2.1.map dE = (ents (X.take k)).map dE ∧ (∀ z ∈ y.2.1, RdEM y.1 z ∧ EB z)), pt lc [.slice y.2.2.1 y.2.1.length y.2.2.2], SlO y.2.2.1 y.2.1.length y.2.2.2 9 (ecs y.2.1), Sl.ro y.1]) :: pt b (SC X lb bytes most (used X)) :: Lr.LRep lb tr kp (most * 2 / 3) n :: Sl.ob q (.deferred (some [])) :: rest) (.tl .hd) ?_ (fun k x cc hx hk64 hnext => ?_) (fun k hkn => ?_) ?_
  · refine Imp.exs (M, [], none, 0) (Imp.g4 (Imp.pur ⟨Hp.le_refl _, by simp [ents], fun z hz => by cases hz⟩ ?_))
    refine Imp.trans (Imp.slN (sz := 9) (Imp.refl _)) ?_
    show Imp _ (pt lc [.slice none 0 0] :: SlO none 0 0 9 [] :: Sl.ro M :: _)
    (focus ((repeat ((with_reducible apply Imp.pick); (repeat (first | exact Pick.hd | apply Pick.tl)))); (repeat (first | exact Imp.refl _ | exact Imp.nil _ | apply Imp.drop)); done))
  · obtain ⟨hrx, hbx⟩ := hk.rd x (List.mem_of_getElem? hx)
    have hel := ents_len (k := k) hX
    refine Ent.imp (Imp.perm (.swap _ _ _)) ?_
    refine Ent.exs fun ⟨M1, ys, a, c⟩ => Ent.g4 (Ent.pur fun ⟨f1, f2, f3⟩ => ?_)
    dsimp only at f1 f2 f3
    dsimp only
    have hyl : ys.length ≤ 64 := by have := congrArg List.length f2; simp at this; omega
    refine Ent.imp (ctx' := Sl.ob (q + 1) (lp r0 .ready none) :: pt lc [.slice a ys.length c] :: SlO a ys.length c 9 (ecs ys) :: Sl.ro M1 :: pt b (SC X lb bytes most (used X)) :: Lr.LRep lb tr kp (most * 2 / 3) n :: Sl.ob q (.deferred (some [])) :: rest) (by (focus ((repeat ((with_reducible apply Imp.pick); (repeat (first | exact Pick.hd | apply Pick.tl)))); (repeat (first | exact Imp.refl _ | exact Imp.nil _ | apply Imp.drop)); done))) ?_
    refine Ent.yield hr (by (repeat (first | exact Has.hd | apply Has.tl))) ?_
    show Ent e _ (oR _ _)
    refine Ent.alloc' fun eb => ?_
    (refine Ent.go ?_)
    refine Ent.bg (by (repeat (first | exact Upd.hd | apply Upd.tl))) ?_
    refine Ent.draw [pt lc [.slice a ys.length c], pt eb (ec x)] (by (focus ((repeat ((with_reducible apply Imp.pick); (repeat (first | exact Pick.hd | apply Pick.tl)))); (repeat (first | exact Imp.refl _ | exact Imp.nil _ | apply Imp.drop)); done))) ?_
    (refine Ent.go ?_)
    refine Ent.stR (v := .agg (ec x).toArray) (st_loadA (n := 9) (.tl .hd) rfl rfl rfl) ?_
    refine copied_spec ((hrx.mono f1).rd (by (repeat (first | exact Has.hd | apply Has.tl)))) hbx fun y hy => ?_
    refine Ent.wand ?_
    refine Ent.imp (ctx' := OwnE y (Sl.ro M1 :: pt eb (ec x) :: Sl.ob (q + 1) (lp r0 .busy none) :: pt lc [.slice a ys.length c] :: SlO a ys.length c 9 (ecs ys) :: pt b (SC X lb bytes most (used X)) :: Lr.LRep lb tr kp (most * 2 / 3) n :: Sl.ob q (.deferred (some [])) :: rest)) (by (focus ((repeat ((with_reducible apply Imp.pick); (repeat (first | exact Pick.hd | apply Pick.tl)))); (repeat (first | exact Imp.refl _ | exact Imp.nil _ | apply Imp.drop)); done))) ?_
    refine keepE fun M2 hl2 hry => ?_
    refine Ent.app1a (sz := 9) (cs := ec y) (by (focus ((repeat ((with_reducible apply Imp.pick); (repeat (first | exact Pick.hd | apply Pick.tl)))); (repeat (first | exact Imp.refl _ | exact Imp.nil _ | apply Imp.drop)); done))) (fun a2 c2 => ?_)
    (refine Ent.go ?_)
    refine Ent.dn (by (repeat (first | exact Upd.hd | apply Upd.tl))) ?_
    refine Ent.imp ?_ hnext
    refine Imp.trans ?_ (Imp.perm (.swap _ _ _))
    refine Imp.exs (M2, ys ++ [y], a2, c2) (Imp.g4 (Imp.pur ⟨Hp.le_trans f1 hl2, ?_, fun z hz => ?_⟩ ?_))
    · rw [ents_take hx]
      simp [f2, hy]
    · rcases List.mem_append.1 hz with hz | hz
      · exact ⟨(f3 z hz).1.mono hl2, (f3 z hz).2⟩
      · rw [List.mem_singleton.1 hz]; exact ⟨hry, EB.of hy hbx⟩
    · have e1 : (ys ++ [y]).length = ys.length + 1 := by simp
      have e2 : ecs (ys ++ [y]) = ecs ys ++ ec y := by rw [ecs_app]; simp [ecs]
      rw [e1, e2]
      (focus ((repeat ((with_reducible apply Imp.pick); (repeat (first | exact Pick.hd | apply Pick.tl)))); (repeat (first | exact Imp.refl _ | exact Imp.nil _ | apply Imp.drop)); done))
  · rw [ents_take hkn, List.append_nil]
    exact Imp.refl _
  · refine Ent.imp (Imp.perm (.swap _ _ _)) ?_
    refine Ent.exs fun ⟨M1, ys, a, c⟩ => Ent.g4 (Ent.pur fun ⟨f1, f2, f3⟩ => ?_)
    dsimp only at f1 f2 f3
    dsimp only
    rw [List.take_of_length_le (by omega)] at f2
    refine Ent.ed (st := .ready) (fun h => by cases h) (by (repeat (first | exact Upd.hd | apply Upd.tl))) ?_
    show Ent e _ (JmK _ _ _ none)
    unfold JmK
    dsimp only
    (refine Ent.go ?_)
    refine Ent.tk (by (repeat (first | exact Upd.hd | apply Upd.tl))) ?_
    refine Ent.imp ?_ (h M1 ys a c f1 f2 f3)
    refine Imp.trans (b := pt b (SC X lb bytes most (used X)) :: Lr.LRep lb tr kp (most * 2 / 3) n :: SlO a ys.length c 9 (ecs ys) :: Sl.ro M1 :: rest) (by (focus ((repeat ((with_reducible apply Imp.pick); (repeat (first | exact Pick.hd | apply Pick.tl)))); (repeat (first | exact Imp.refl _ | exact Imp.nil _ | apply Imp.drop)); done))) ?_
    refine (SRep.shut (lb := lb) (hk.mono f1)).trans ?_
    (focus ((repeat ((with_reducible apply Imp.pick); (repeat (first | exact Pick.hd | apply Pick.tl)))); (repeat (first | exact Imp.refl _ | exact Imp.nil _ | apply Imp.drop)); done))
end
end Go.Proofs.YtfofnagocedlgaaGreatDoor.Tx
end
section
/-
  THE STORE (layer 21): Put.
-/
set_option maxRecDepth 100000
set_option linter.unusedVariables false
set_option linter.unusedSectionVars false
set_option linter.unusedSimpArgs false
set_option maxHeartbeats 0
namespace Go.Proofs.YtfofnagocedlgaaGreatDoor.Tx
open Go Sh Sl
open Go.RowKit
attribute [local irreducible] condK ArK NilK OpK FnK StK joinK loopK DrawK andK PuK NxK EnK vS uS bS callS invokeS
/-- slots, tried, kept -/
structure St3 where
  X : List (Option Et)
  tr : List Int
  kp : List Int
def full (most bytes sz : Nat) (s : St3) : Bool := decide (most ≤ cnt s.X) || decide (bytes < used s.X + sz)
def ev1 (s : St3) : St3 := ⟨s.X.set (Lr.vic s.tr s.kp).1.toNat none, Lr.out s.tr (Lr.vic s.tr s.kp).1, Lr.out s.kp (Lr.vic s.tr s.kp).1⟩
def evS (most bytes sz : Nat) : Nat → St3 → St3
  | 0, s => s
  | f + 1, s => if full most bytes sz s then evS most bytes sz f (ev1 s) else s
def gone3 (pd : Et → Bool) (s : St3) : St3 := ⟨gX pd s.X 64, gL pd s.X 64 s.tr, gL pd s.X 64 s.kp⟩
abbrev pdP (x : Et) (z : Et) : Bool := decide (z.url = x.url) && decide (z.wl = x.wl)
/-- the first slot that is free -/
def free (X : List (Option Et)) : Nat := X.findIdx (fun o => !o.isSome)
theorem vic_mem {tr kp : List Int} (h : tr ++ kp ≠ []) : (Lr.vic tr kp).2 = true ∧ (Lr.vic tr kp).1 ∈ tr ++ kp := by
  unfold Lr.vic
  cases h1 : tr.getLast? with
  | some x => exact ⟨rfl, List.mem_append_left _ (List.mem_of_getLast? h1)⟩
  | none =>
    have ht : tr = [] := List.getLast?_eq_none_iff.1 h1
    subst ht
    cases h2 : kp.getLast? with
    | some x => exact ⟨rfl, List.mem_append_right _ (List.mem_of_getLast? h2)⟩
    | none =>
      have := List.getLast?_eq_none_iff.1 h2
      subst this
      exact absurd rfl h
theorem out_len (l : List Int) (x : Int) : (Lr.out l x).length ≤ l.length := List.length_filter_le _ _
theorem out_lt {l : List Int} {x : Int} (h : x ∈ l) : (Lr.out l x).length < l.length := by
  unfold Lr.out
  exact List.length_filter_lt_length_iff_exists.2 ⟨x, h, by simp⟩
theorem used_none {X : List (Option Et)} (h : ∀ (i : Nat) x, X[i]? ≠ some (some x)) : used X = 0 ∧ cnt X = 0 := by
  induction X with
  | nil => exact ⟨rfl, rfl⟩
  | cons o X ih =>
    have ih' := ih fun i x hx => h (i + 1) x (by simpa using hx)
    cases o with
    | some x => exact absurd rfl (h 0 x)
    | none =>
      refine ⟨?_, ?_⟩
      · have := ih'.1; simp [used] at this ⊢; exact this
      · have := ih'.2; simp [cnt] at this ⊢; exact this
theorem cnt_lt {X : List (Option Et)} {most : Nat} (h : cnt X < most) (hm : most ≤ X.length) (hl : ∀ i : Nat, most ≤ i → ∀ x, X[i]? ≠ some (some x)) : free X < most ∧ X[free X]? = some none ∧ ∀ j, j < free X → ∃ x, X[j]? = some (some x) := by
  have hlt : free X < most := by
    rcases Nat.lt_or_ge (free X) most with h1 | h1
    · exact h1
    · exfalso
      have hall : ∀ j, j < most → ∃ x, X[j]? = some (some x) := fun j hj => by
        have hjl : j < X.length := by omega
        have := List.not_of_lt_findIdx (p := fun o : Option Et => !o.isSome) (xs := X) (i := j) (by unfold free at h1; omega)
        cases ho : X[j] with
        | none => rw [ho] at this; simp at this
        | some x => exact ⟨x, by rw [List.getElem?_eq_getElem hjl, ho]⟩
      have h2 : (X.take most).filter (·.isSome) = X.take most := by
        refine List.filter_eq_self.2 fun o ho => ?_
        obtain ⟨j, hj, hjo⟩ := List.mem_iff_getElem.1 ho
        have hjm : j < most := by simp at hj; omega
        obtain ⟨x, hx⟩ := hall j hjm
        rw [List.getElem_take] at hjo
        rw [List.getElem?_eq_getElem (by omega)] at hx
        rw [← hjo, Option.some.inj hx]; rfl
      have h3 : most ≤ cnt X := by
        unfold cnt
        have h4 : ((X.take most).filter (·.isSome)).length ≤ (X.filter (·.isSome)).length := ((List.take_sublist most X).filter _).length_le
        rw [h2, List.length_take] at h4
        omega
      omega
  have hfl : free X < X.length := by omega
  refine ⟨hlt, ?_, fun j hj => ?_⟩
  · have := List.findIdx_getElem (p := fun o : Option Et => !o.isSome) (xs := X) (w := hfl)
    cases ho : X[free X]'hfl with
    | none => rw [List.getElem?_eq_getElem hfl, ho]
    | some x =>
      have h9 : (!(X[free X]'hfl).isSome) = true := this
      rw [ho] at h9; simp at h9
  · have hjl : j < X.length := by omega
    have := List.not_of_lt_findIdx (p := fun o : Option Et => !o.isSome) (xs := X) (i := j) hj
    cases ho : X[j] with
    | none => rw [ho] at this; simp at this
    | some x => exact ⟨x, by rw [List.getElem?_eq_getElem hjl, ho]⟩
theorem used_put {X : List (Option Et)} {i : Nat} {x : Et} (h : X[i]? = some none) : used (X.set i (some x)) = used X + size x := by
  induction X generalizing i with
  | nil => simp at h
  | cons o X ih =>
    cases i with
    | zero =>
      simp only [List.getElem?_cons_zero, Option.some.injEq] at h
      subst h
      simp [used]; omega
    | succ i =>
      simp only [List.getElem?_cons_succ] at h
      have := ih h
      simp [used] at this ⊢
      omega
theorem size_of {x y : Et} (h : dE y = dE x) : size y = size x := by
  obtain ⟨h1, _, _, h4, h5⟩ := dE_iff.1 h
  have h6 := (Prod.mk.inj h5).2
  have h7 := (Prod.mk.inj h6).1
  have h8 := (Prod.mk.inj (Prod.mk.inj (Prod.mk.inj h6).2).2)
  unfold size
  rw [h1, h4, h7, h8.1, h8.2]
theorem SOk.put {M : Hp} {X : List (Option Et)} {tr kp : List Int} {bytes most i : Nat} {y : Et} (hk : SOk M X tr kp bytes most) (hi : X[i]? = some none) (him : i < most) (hy : RdEM M y) (hb : EB y) (hs : used X + size y ≤ bytes) : SOk M (X.set i (some y)) ((i : Int) :: tr) kp bytes most := by
  have hil := (List.getElem?_eq_some_iff.1 hi).1
  refine ⟨by rw [List.length_set]; exact hk.len, fun z hz => ?_, fun j => ?_, ?_, hk.by_, hk.ms, fun j hj z hz => ?_⟩
  · rcases List.mem_or_eq_of_mem_set hz with h | h
    · exact hk.rd z h
    · cases h; exact ⟨hy, hb⟩
  · have := hk.mem j
    rw [List.getElem?_set]
    by_cases hij : i = j
    · subst hij
      simp [hil]
    · rw [if_neg hij, this]
      have : ¬ (j : Int) = (i : Int) := by omega
      simp [this]
  · rw [used_put hi]; exact hs
  · rw [List.getElem?_set] at hz
    split at hz
    · omega
    · exact hk.lt j hj z hz
section
variable {e : Env} {ctx ctx' rest R : List HProp} {M : Hp} {b : Nat} {X : List (Option Et)} {tr kp : List Int} {bytes most n : Nat}
theorem st_slP {b : Nat} {h : Nat} (hh : h ≤ 64) : Pu (vS (Instr.sliceAt 70 (.pointer (some ⟨b, 0 + 0, none⟩)) none (some (.int .i64 (h : Int))) none)) (.slice (some ⟨b, 0, none⟩) h 64) := Still.of_run fun w => by
  have ha : P.underlying 70 = some (.array (P.arrayLen 70) (P.elem 70)) := by kernel_rfl
  have hl : P.arrayLen 70 = 64 := by kernel_rfl
  have he : P.elem 70 = 69 := by kernel_rfl
  obtain ⟨i', h2, h3, _⟩ := szof_spec (t := 69) (n := 10) (b := (szof 69).get!.2) (by rfl)
  rw [run_sliceAt_array_h w _ _ ha .i64 h (by omega) (by rw [hl]; omega), he, run_sizeOf' h2, hl]
  simp only [Result.andThen_ok, slicedAt, Int.toNat_natCast, Nat.zero_add, Nat.sub_zero, Nat.zero_mul]
  have : (if (64 : Nat) = 0 then (⟨b, 0, none⟩ : Addr) else Addr.add ⟨b, 0, none⟩ 0) = ⟨b, 0, none⟩ := by rw [if_neg (by decide), Addr.add_lit]
  rw [this]
theorem ixf_spec {K : Int → WP} {lb : Nat} {by_ ms us : Int} (hX : X.length = 64) (hh : Has rest (pt b (SC X lb by_ ms us))) (hm : most ≤ 64) (hf : free X < most) (hn : X[free X]? = some none) (hs : ∀ j, j < free X → ∃ x, X[j]? = some (some x)) (h : Ent e rest (K (free X : Int))) :
    Ent e rest (slices_IndexFunc_slot (.slice (some ⟨b, 0, none⟩) most 64) (.func (.func 43) #[] #[]) K) := by
  (refine Ent.fn slices_IndexFunc_slot_ok ?_; unfold slices_IndexFunc_slot_sh)
  (refine Ent.go ?_)
  refine Ent.rngL0 (free X) (fun k => rest) rfl (Imp.refl _) ?_
  intro k hk K' hK
  obtain ⟨o, ho⟩ : ∃ o, X[k]? = some o := ⟨_, List.getElem?_eq_getElem (by omega)⟩
  refine Ent.wT ?_ (decide_eq_true (by omega))
  refine Ent.opR (st_ix (sz := 10) (by_ := (szof 69).get!.2) rfl (by rfl) (by omega) (by omega)).still ?_
  refine Ent.opR (v := .agg (slC o).toArray) (st_loadA (n := 10) hh rfl (by rw [Int.toNat_natCast, Nat.zero_add]; exact SC_slot ho) rfl) ?_
  refine Ent.callF (cap := #[]) (by rfl) ?_
  refine Ent.fn (sh := store_Store_Put_c2_sh (.agg (slC o).toArray) _) (fun w h => store_Store_Put_c2_ok w h) ?_
  refine Ent.box' fun xb => ?_
  (refine Ent.go ?_)
  by_cases hkn : k < free X
  · obtain ⟨x, hx⟩ := hs k hkn
    rw [ho] at hx
    cases hx
    refine Ent.wF ?_ rfl
    (refine Ent.go ?_)
    exact Ent.imp (by (focus ((repeat ((with_reducible apply Imp.pick); (repeat (first | exact Pick.hd | apply Pick.tl)))); (repeat (first | exact Imp.refl _ | exact Imp.nil _ | apply Imp.drop)); done))) (hK hkn)
  · have hkf : k = free X := by omega
    subst hkf
    rw [ho] at hn
    cases hn
    refine Ent.wT ?_ rfl
    exact Ent.imp (by (focus ((repeat ((with_reducible apply Imp.pick); (repeat (first | exact Pick.hd | apply Pick.tl)))); (repeat (first | exact Imp.refl _ | exact Imp.nil _ | apply Imp.drop)); done))) h
end
end Go.Proofs.YtfofnagocedlgaaGreatDoor.Tx
end
section
/-
  THE STORE (layer 21): Put, whole.
-/
set_option maxRecDepth 100000
set_option linter.unusedVariables false
set_option linter.unusedSectionVars false
set_option linter.unusedSimpArgs false
set_option maxHeartbeats 0
namespace Go.Proofs.YtfofnagocedlgaaGreatDoor.Tx
open Go Sh Sl
open Go.RowKit
attribute [local irreducible] condK ArK NilK OpK FnK StK joinK loopK DrawK andK PuK NxK EnK vS uS bS callS invokeS
section
variable {e : Env} {ctx ctx' rest R : List HProp} {M : Hp} {b : Nat} {X : List (Option Et)} {tr kp : List Int} {bytes most n : Nat}
theorem put_c1 {R : List HProp} {x z : Et} {eb : Nat} {k : Bool → WP} (hx : RdE R x) (hz : RdE R z) (bx : EB x) (bz : EB z) (h : Ent e ([pt eb (ec x)] ++ R) (k (pdP x z))) :
    Ent e ([pt eb (ec x)] ++ R) (FnK P (.one .bool) 38 (#[.agg (ec z).toArray] ++ [ptr eb].toArray) k) := by
  have h5 := bx.w
  have g5 := bz.w
  have hfl := fsz_len x.wl
  have gfl := fsz_len z.wl
  refine Ent.fn (sh := store_Store_Put_c1_sh (.agg (ec z).toArray) (ptr eb) k) (fun w h => store_Store_Put_c1_ok w h) ?_
  show Ent e (pt eb (ec x) :: R) _
  refine Ent.box' fun zb => ?_
  (refine Ent.go ?_)
  by_cases h1 : z.url = x.url
  · refine Ent.wT ?_ (decide_eq_true (by rw [h1]))
    (refine Ent.go ?_)
    refine vary_same_spec hz.w.tl.tl hx.w.tl.tl (by omega) (by omega) ?_
    have : decide (z.wl = x.wl) = pdP x z := by unfold pdP; rw [decide_eq_true h1]; rfl
    rw [this]
    exact Ent.imp (by show Imp _ (_ :: R); (focus ((repeat ((with_reducible apply Imp.pick); (repeat (first | exact Pick.hd | apply Pick.tl)))); (repeat (first | exact Imp.refl _ | exact Imp.nil _ | apply Imp.drop)); done))) h
  · refine Ent.wF ?_ (decide_eq_false fun hh => h1 (ba_inj.1 hh))
    have : pdP x z = false := by unfold pdP; rw [decide_eq_false h1]; rfl
    rw [← this]
    exact Ent.imp (by show Imp _ (_ :: R); (focus ((repeat ((with_reducible apply Imp.pick); (repeat (first | exact Pick.hd | apply Pick.tl)))); (repeat (first | exact Imp.refl _ | exact Imp.nil _ | apply Imp.drop)); done))) h
theorem SRep.ok {p : WP} (h : SOk M X tr kp bytes most → (tr ++ kp).Nodup → (∀ x, x ∈ tr ++ kp → 0 ≤ x ∧ x < 64) → Ent e (SRep M b X tr kp bytes most n :: rest) p) : Ent e (SRep M b X tr kp bytes most n :: rest) p :=
  SRep.open fun lb hk => Ent.imp (Imp.perm (.swap _ _ _)) (Lr.LRep.ok fun ⟨m, t, hok⟩ _ => Ent.imp ((Imp.perm (.swap _ _ _)).trans (SRep.shut hk)) (h hk hok.nd (fun x hx => hok.ids x hx)))
theorem evS_step {bytes most sz f : Nat} {s : St3} (h : full most bytes sz s = true) : evS most bytes sz (f + 1) s = evS most bytes sz f (ev1 s) := by simp [evS, h]
theorem evS_stop {bytes most sz f : Nat} {s : St3} (h : full most bytes sz s = false) : evS most bytes sz (f + 1) s = s := by simp [evS, h]
theorem put_spec {K : Int → WP} {x : Et} (hr : RdE rest x) (hb : EB x) (hn : n < 4503599627370496)
    (h7 : (size x > bytes ∨ most = 0) → Ent e (SRep M b (gone3 (pdP x) ⟨X, tr, kp⟩).X (gone3 (pdP x) ⟨X, tr, kp⟩).tr (gone3 (pdP x) ⟨X, tr, kp⟩).kp bytes most n :: Sl.ro M :: rest) (K 7))
    (h0 : ∀ M' y, Hp.le M M' → dE y = dE x → RdEM M' y → size x ≤ bytes → 0 < most → ∀ s2, s2 = evS most bytes (size x) 65 (gone3 (pdP x) ⟨X, tr, kp⟩) → full most bytes (size x) s2 = false →
      Ent e (SRep M' b (s2.X.set (free s2.X) (some y)) ((free s2.X : Int) :: s2.tr) s2.kp bytes most (n + 1) :: Sl.ro M' :: rest) (K 0)) :
    Ent e (SRep M b X tr kp bytes most n :: Sl.ro M :: rest) (store_Store_Put (ptr b) (.agg (ec x).toArray) K) := by
  have hsz := size_b hb
  (refine Ent.fn store_Store_Put_ok ?_; unfold store_Store_Put_sh)
  refine Ent.box' fun eb => ?_
  refine Ent.join ?_
  refine Ent.opB (by apply Pu.still; exact st_nilP rfl (.inr rfl)) ?_
  refine Ent.wF ?_ rfl
  refine Ent.bring (A := SRep M b X tr kp bytes most n) ?_
  refine SRep.open fun lb hk => ?_
  refine nRat (off := 640) rfl rfl .hd (SC_list hk.len) ?_
  refine Ent.opB (by apply Pu.still; exact st_nilP rfl (.inr rfl)) ?_
  refine Ent.wF ?_ rfl
  refine Ent.imp (SRep.shut hk) ?_
  refine Ent.imp (ctx' := SRep M b X tr kp bytes most n :: Sl.ro M :: ([pt eb (ec x)] ++ rest)) (by show Imp _ (_ :: _ :: _ :: rest); (focus ((repeat ((with_reducible apply Imp.pick); (repeat (first | exact Pick.hd | apply Pick.tl)))); (repeat (first | exact Imp.refl _ | exact Imp.nil _ | apply Imp.drop)); done))) ?_
  refine gone_spec (cap := [ptr eb]) (pdP x) (by rfl) (fun R z k hM hR hrz hbz hk => put_c1 (hr.mono hR) (hrz.rd hM) hb hbz hk) ?_
  show Ent e (_ :: _ :: pt eb (ec x) :: rest) _
  obtain ⟨s0, hs0⟩ : ∃ s0, s0 = gone3 (pdP x) ⟨X, tr, kp⟩ := ⟨_, rfl⟩
  have eX : gX (pdP x) X 64 = s0.X := by rw [hs0]; rfl
  have etr : gL (pdP x) X 64 tr = s0.tr := by rw [hs0]; rfl
  have ekp : gL (pdP x) X 64 kp = s0.kp := by rw [hs0]; rfl
  rw [eX, etr, ekp]
  rw [← hs0] at h7 h0
  clear eX etr ekp hk
  (refine Ent.go ?_)
  refine size_spec (hr.mono (by (focus (repeat (first | exact Imp.refl _ | exact Imp.nil _ | apply Imp.drop))))) hb ?_
  refine Ent.join1 (kd := .bool) (fun v => pur (v = (decide (bytes < size x) || decide (most = 0))) :: SRep M b s0.X s0.tr s0.kp bytes most n :: Sl.ro M :: pt eb (ec x) :: rest) ?_ ?_
  rotate_left
  · intro k' hk'
    refine SRep.open fun lb hk => ?_
    have hbb := hk.by_
    refine nIat (off := 641) rfl .hd (SC_bytes hk.len) ?_
    by_cases h1 : bytes < size x
    · refine Ent.wT ?_ (decide_eq_true (by omega))
      refine Ent.imp ((SRep.shut hk).trans (Imp.pur ?_ (Imp.refl _))) (hk' _)
      rw [decide_eq_true h1]; rfl
    · refine Ent.wF ?_ (decide_eq_false (by omega))
      refine nIat (off := 642) rfl .hd (SC_most hk.len) ?_
      refine Ent.imp ((SRep.shut hk).trans (Imp.pur ?_ (Imp.refl _))) (hk' _)
      rw [decide_eq_false h1, Bool.false_or]
      by_cases h2 : most = 0
      · subst h2; rfl
      · rw [decide_eq_false h2]
        exact beq_eq_false_iff_ne.2 (by omega)
  intro v
  refine Ent.pur fun hv => ?_
  subst hv
  by_cases hbad : size x > bytes ∨ most = 0
  · refine Ent.wT ?_ (by rcases hbad with h1 | h1 <;> simp [h1])
    exact Ent.imp (by (focus ((repeat ((with_reducible apply Imp.pick); (repeat (first | exact Pick.hd | apply Pick.tl)))); (repeat (first | exact Imp.refl _ | exact Imp.nil _ | apply Imp.drop)); done))) (h7 hbad)
  have hle : size x ≤ bytes := by omega
  have hmp : 0 < most := by omega
  refine Ent.wF ?_ (by rw [decide_eq_false (by omega), decide_eq_false (by omega)]; rfl)
  refine SRep.ok fun hk0 hnd0 hid0 => ?_
  have hl0 : (s0.tr ++ s0.kp).length ≤ 64 := Lr.len_le 64 _ hnd0 hid0
  refine Ent.loop0 (fun N => exs (fun (s : St3) => sepL [pur (evS most bytes (size x) 65 s0 = evS most bytes (size x) N s ∧ s.tr.length + s.kp.length < N), SRep M b s.X s.tr s.kp bytes most n]) :: Sl.ro M :: pt eb (ec x) :: rest) 65 ?_ ?_
  · refine Imp.exs s0 (Imp.g2 (Imp.pur ⟨rfl, ?_⟩ (Imp.refl _)))
    rw [List.length_append] at hl0
    omega
  intro N K' hK
  refine Ent.exs fun s => Ent.g2 (Ent.pur fun ⟨f1, f2⟩ => ?_)
  obtain ⟨N', rfl⟩ : ∃ N', N = N' + 1 := ⟨N - 1, by omega⟩
  refine SRep.ok fun hk hnd hid => ?_
  have hus := hk.us
  have hbb := hk.by_
  refine Ent.join1 (kd := .bool) (fun v => pur (v = full most bytes (size x) s) :: SRep M b s.X s.tr s.kp bytes most n :: Sl.ro M :: pt eb (ec x) :: rest) ?_ ?_
  rotate_left
  · intro k' hk'
    refine SRep.open fun lb hk => ?_
    refine Ent.draw [pt b (SC s.X lb bytes most (used s.X))] (by (focus ((repeat ((with_reducible apply Imp.pick); (repeat (first | exact Pick.hd | apply Pick.tl)))); (repeat (first | exact Imp.refl _ | exact Imp.nil _ | apply Imp.drop)); done))) ?_
    refine hIat (off := 642) rfl .hd (SC_most hk.len) ?_
    refine count_spec hk.len .hd ?_
    refine Ent.wand ?_
    by_cases h1 : most ≤ cnt s.X
    · refine Ent.wT ?_ (decide_eq_true (by omega))
      refine Ent.imp ((SRep.shut hk).trans (Imp.pur ?_ (Imp.refl _))) (hk' _)
      unfold full; rw [decide_eq_true h1]; rfl
    · refine Ent.wF ?_ (decide_eq_false (by omega))
      refine hIat (off := 641) rfl .hd (SC_bytes hk.len) ?_
      refine hIat (off := 643) rfl .hd (SC_used hk.len) ?_
      refine Ent.ar (in_i64 (by omega) (by omega)) ?_
      refine Ent.imp ((SRep.shut hk).trans (Imp.pur ?_ (Imp.refl _))) (hk' _)
      unfold full
      rw [decide_eq_false h1, Bool.false_or]
      exact decide_eq_decide.2 (by omega)
  intro v
  refine Ent.pur fun hv => ?_
  subst hv
  cases hfl : full most bytes (size x) s with
  | true =>
    refine Ent.wT ?_
    have hne : s.tr ++ s.kp ≠ [] := by
      intro hh
      have hno : ∀ (i : Nat) z, s.X[i]? ≠ some (some z) := fun i z hz => by
        have := (hk.mem i).1 ⟨z, hz⟩
        rw [hh] at this; cases this
      obtain ⟨u1, u2⟩ := used_none hno
      unfold full at hfl
      rw [u1, u2, decide_eq_false (by omega), decide_eq_false (by omega)] at hfl
      cases hfl
    obtain ⟨v1, v2⟩ := vic_mem hne
    obtain ⟨w1, w2⟩ := hid _ v2
    obtain ⟨vi, hvi⟩ := Int.eq_ofNat_of_zero_le w1
    have hmemv := (hk.mem vi).2 (by rw [← hvi]; exact v2)
    obtain ⟨z, hz⟩ := hmemv
    refine SRep.open fun lb hk => ?_
    refine nRat (off := 640) rfl rfl .hd (SC_list hk.len) ?_
    refine Ent.bring (A := Lr.LRep lb s.tr s.kp (most * 2 / 3) n) ?_
    refine Lr.victim_spec ?_
    rw [v1, hvi]
    refine Ent.wF ?_
    refine Ent.imp ((Imp.perm (.swap _ _ _)).trans (SRep.shut hk)) ?_
    refine out_spec hz ?_
    have e1 : ev1 s = ⟨s.X.set vi none, Lr.out s.tr vi, Lr.out s.kp vi⟩ := by unfold ev1; rw [hvi, Int.toNat_natCast]
    refine Ent.imp ?_ (hK N' (by omega))
    refine Imp.exs ⟨s.X.set vi none, Lr.out s.tr vi, Lr.out s.kp vi⟩ (Imp.g2 (Imp.pur ⟨?_, ?_⟩ (Imp.refl _)))
    · rw [f1, evS_step hfl, e1]
    · dsimp only
      have h1 := out_len s.tr vi
      have h2 := out_len s.kp vi
      rw [hvi] at v2
      rcases List.mem_append.1 v2 with h3 | h3
      · have := out_lt h3; omega
      · have := out_lt h3; omega
  | false =>
    refine Ent.wF ?_
    have hfin : evS most bytes (size x) 65 s0 = s := by rw [f1, evS_stop hfl]
    have hfl2 := hfl
    unfold full at hfl2
    rw [Bool.or_eq_false_iff, decide_eq_false_iff_not, decide_eq_false_iff_not] at hfl2
    obtain ⟨g1, g2⟩ := hfl2
    have hms := hk.ms
    obtain ⟨c1, c2, c3⟩ := cnt_lt (X := s.X) (most := most) (by omega) (by rw [hk.len]; omega) hk.lt
    refine SRep.open fun lb hk => ?_
    have hX := hk.len
    refine Ent.draw [pt b (SC s.X lb bytes most (used s.X))] (by (focus ((repeat ((with_reducible apply Imp.pick); (repeat (first | exact Pick.hd | apply Pick.tl)))); (repeat (first | exact Imp.refl _ | exact Imp.nil _ | apply Imp.drop)); done))) ?_
    refine Ent.nil ?_
    refine Ent.puR (st_field (off := 0) rfl) ?_
    refine hIat (off := 642) rfl .hd (SC_most hX) ?_
    refine Ent.puR (st_slP hms) ?_
    refine ixf_spec hX .hd hms c1 c2 c3 ?_
    refine Ent.wand ?_
    refine Ent.draw [pt eb (ec x)] (by (focus ((repeat ((with_reducible apply Imp.pick); (repeat (first | exact Pick.hd | apply Pick.tl)))); (repeat (first | exact Imp.refl _ | exact Imp.nil _ | apply Imp.drop)); done))) ?_
    refine Ent.stR (v := .agg (ec x).toArray) (st_loadA (n := 9) .hd rfl rfl rfl) ?_
    refine Ent.nil ?_
    refine Ent.puR (st_field (off := 0) rfl) ?_
    refine copied_spec (hr.mono (by (focus (repeat (first | exact Imp.refl _ | exact Imp.nil _ | apply Imp.drop))))) hb fun y hy => ?_
    refine Ent.puR (v := .agg (slC (some y)).toArray) (by apply st_build; exact rfl; exact rfl; exact rfl) ?_
    refine Ent.puR (st_ixA (m := 64) (sz := 10) rfl rfl (by omega) (by omega)) ?_
    refine Ent.storeA (l := SC s.X lb bytes most (used s.X)) (vs := slC (some y)) (n := 10) (by (repeat (first | exact Upd.hd | apply Upd.tl))) rfl rfl rfl (by rw [SC_len hX, Int.toNat_natCast]; omega) ?_
    rw [Int.toNat_natCast, SC_setSlot (by omega)]
    have hX2 : (s.X.set (free s.X) (some y)).length = 64 := by rw [List.length_set]; exact hX
    refine nIat (off := 643) rfl (by (repeat (first | exact Has.hd | apply Has.tl))) (SC_used hX2) ?_
    refine Ent.ar (in_i64 (by omega) (by omega)) ?_
    refine Ent.nil ?_
    refine Ent.opR (st_field (off := 643) rfl).still ?_
    refine Ent.store (l := SC (s.X.set (free s.X) (some y)) lb bytes most (used s.X)) (by (repeat (first | exact Upd.hd | apply Upd.tl))) rfl rfl (by rw [SC_len hX2]; omega) ?_
    rw [SC_setUsed hX2]
    refine nRat (off := 640) rfl rfl (by (repeat (first | exact Has.hd | apply Has.tl))) (SC_list hX2) ?_
    have hup := used_put (x := y) c2
    have hsy := size_of hy
    have eus : ((used s.X : Int) + (size x : Int)) = ((used (s.X.set (free s.X) (some y)) : Nat) : Int) := by omega
    rw [eus]
    refine Ent.bring (A := Lr.LRep lb s.tr s.kp (most * 2 / 3) n) ?_
    have hnm : (free s.X : Int) ∉ s.tr ++ s.kp := fun hh => by
      obtain ⟨z, hz⟩ := (hk.mem (free s.X)).2 hh
      rw [c2] at hz; cases hz
    refine Lr.add_spec hn (fun hh => absurd ?_ hh) fun _ _ _ => ?_
    · unfold Lr.addC
      rw [if_neg (by omega), if_neg hnm]
    refine Ent.imp (ctx' := OwnE y (Sl.ro M :: Lr.LRep lb ((free s.X : Int) :: s.tr) s.kp (most * 2 / 3) (n + 1) :: pt b (SC (s.X.set (free s.X) (some y)) lb bytes most (used (s.X.set (free s.X) (some y)) : Nat)) :: pt eb (ec x) :: rest)) (by (focus ((repeat ((with_reducible apply Imp.pick); (repeat (first | exact Pick.hd | apply Pick.tl)))); (repeat (first | exact Imp.refl _ | exact Imp.nil _ | apply Imp.drop)); done))) ?_
    refine keepE fun M' hl hry => ?_
    refine Ent.imp ?_ (h0 M' y hl hy hry hle hmp s hfin.symm hfl)
    refine Imp.trans ?_ (SRep.shut (lb := lb) ((hk.mono hl).put c2 c1 hry (EB.of hy hb) (by omega)))
    (focus ((repeat ((with_reducible apply Imp.pick); (repeat (first | exact Pick.hd | apply Pick.tl)))); (repeat (first | exact Imp.refl _ | exact Imp.nil _ | apply Imp.drop)); done))
end
end Go.Proofs.YtfofnagocedlgaaGreatDoor.Tx
end
section
/-
  THE STORE (layer 21): the awake test.
-/
set_option maxRecDepth 100000
set_option linter.unusedVariables false
set_option linter.unusedSectionVars false
set_option linter.unusedSimpArgs false
set_option maxHeartbeats 0
namespace Go.Proofs.YtfofnagocedlgaaGreatDoor.Tx
open Go Sh Sl
open Go.RowKit
attribute [local irreducible] condK ArK NilK OpK FnK StK joinK loopK DrawK andK PuK NxK EnK vS uS bS callS invokeS
theorem gX_none {pd : Et → Bool} {X : List (Option Et)} (h : ∀ x, some x ∈ X → pd x = false) : ∀ k, gX pd X k = X
  | 0 => gX_0
  | k + 1 => by
    cases ho : X[k]? with
    | none =>
      have hl : X.length ≤ k := by rcases Nat.lt_or_ge k X.length with h1 | h1; (rw [List.getElem?_eq_getElem h1] at ho; cases ho); exact h1
      have ih := gX_none h k
      unfold gX at ih ⊢
      rw [List.take_of_length_le (by omega), List.drop_eq_nil_of_le (by omega)] at ih ⊢
      exact ih
    | some o =>
      rw [gX_same ho ?_]
      · exact gX_none h k
      · cases o with
        | none => rfl
        | some x => simp [gq, h x (List.mem_of_getElem? ho)]
theorem gL_none {pd : Et → Bool} {X : List (Option Et)} {k : Nat} {l : List Int} (h : ∀ x, some x ∈ X → pd x = false) : gL pd X k l = l := by
  unfold gL
  refine List.filter_eq_self.2 fun y _ => ?_
  unfold gA
  have : qo pd (X[y.toNat]?).join = false := by
    cases ho : (X[y.toNat]?).join with
    | none => rfl
    | some x =>
      rw [Option.join_eq_some_iff] at ho
      exact h x (List.mem_of_getElem? ho)
  rw [this]; simp
theorem gone_none {pd : Et → Bool} {s : St3} (h : ∀ x, some x ∈ s.X → pd x = false) : gone3 pd s = s := by
  unfold gone3
  rw [gX_none h, gL_none h, gL_none h]
theorem fdk_more {url : Bs} {l : List Fd} {X : List (Option Et)} {k0 : Nat} (h : ∀ j, k0 ≤ j → (X[j]?).join = none) : ∀ d, fdk url l X (k0 + d) = fdk url l X k0
  | 0 => rfl
  | d + 1 => by
    show fdS url l X (fdk url l X (k0 + d)) (k0 + d) = _
    unfold fdS
    rw [h _ (by omega)]
    exact fdk_more h d
abbrev nn (k : Nat) : List (Option Et) := List.replicate k none
theorem nn_at {k j : Nat} : ((nn k)[j]?).join = none := by
  cases h : (nn k)[j]? with
  | none => rfl
  | some o => rw [List.eq_of_mem_replicate (List.mem_of_getElem? h)]; rfl
theorem used_1 {y : Et} {k : Nat} : used (some y :: nn k) = size y := by simp [used, nn]
theorem used_2 {y z : Et} {k : Nat} : used (some y :: some z :: nn k) = size y + size z := by simp [used, nn]
abbrev dA (u : UInt8) : Bs × Int × Int × List Fd × Int × Bs × Int × List Fd × Bs := ([u], 0, 0, [], 200, [], 1, [], List.replicate 35 0)
theorem dA_f {y : Et} {u : UInt8} (h : dE y = dA u) : y.url = [u] ∧ y.asked = 0 ∧ y.came = 0 ∧ y.wl = [] ∧ y.fl = [] ∧ y.rs = [] ∧ y.bl = List.replicate 35 0 := by
  simp only [dE, Prod.mk.injEq] at h
  exact ⟨h.1, h.2.1, h.2.2.1, h.2.2.2.1, h.2.2.2.2.2.2.2.1, h.2.2.2.2.2.1, h.2.2.2.2.2.2.2.2⟩
theorem dA_size {y : Et} {u : UInt8} (h : dE y = dA u) : size y = 100 := by
  obtain ⟨h1, _, _, h2, h3, h4, h5⟩ := dA_f h
  unfold size
  rw [h1, h2, h3, h4, h5]; rfl
theorem dA_EB {y : Et} {u : UInt8} (h : dE y = dA u) : EB y := by
  obtain ⟨h1, _, _, h2, h3, h4, h5⟩ := dA_f h
  refine ⟨?_, ?_, ?_, ?_, ?_⟩
  · rw [h1]; exact (by decide : 1 ≤ 268435456)
  · rw [h4]; decide
  · rw [h5]; decide
  · rw [h2]; decide
  · rw [h3]; decide
theorem dA_for {y : Et} {u : UInt8} (h : dE y = dA u) : forE y [] = true := by
  obtain ⟨h1, _, _, h2, h3, h4, h5⟩ := dA_f h
  unfold forE
  rw [h2, h3]
  rfl
section
variable {e : Env} {ctx ctx' rest R : List HProp} {M : Hp}
theorem OwnE.rd {y : Et} {p : WP} (h : (∀ ctx', Has ctx' (SlO y.wa y.wl.length y.wc 2 (fc y.wl)) → Has ctx' (SlO y.fa y.fl.length y.fk 2 (fc y.fl)) → Has ctx' (SlO y.ba_ y.bl.length y.bk 1 (u8 y.bl)) → RdE ctx' y) → Ent e (OwnE y rest) p) : Ent e (OwnE y rest) p := by
  refine Ent.rdS fun r1 _ => ?_
  refine Ent.imp (ctx' := SlO y.fa y.fl.length y.fk 2 (fc y.fl) :: SlO y.wa y.wl.length y.wc 2 (fc y.wl) :: SlO y.ba_ y.bl.length y.bk 1 (u8 y.bl) :: rest) (by (focus ((repeat ((with_reducible apply Imp.pick); (repeat (first | exact Pick.hd | apply Pick.tl)))); (repeat (first | exact Imp.refl _ | exact Imp.nil _ | apply Imp.drop)); done))) ?_
  refine Ent.rdS fun r2 _ => ?_
  refine Ent.imp (ctx' := SlO y.ba_ y.bl.length y.bk 1 (u8 y.bl) :: SlO y.wa y.wl.length y.wc 2 (fc y.wl) :: SlO y.fa y.fl.length y.fk 2 (fc y.fl) :: rest) (by (focus ((repeat ((with_reducible apply Imp.pick); (repeat (first | exact Pick.hd | apply Pick.tl)))); (repeat (first | exact Imp.refl _ | exact Imp.nil _ | apply Imp.drop)); done))) ?_
  refine Ent.rdS fun r3 _ => ?_
  refine Ent.imp ?_ (h fun ctx' h1 h2 h3 => ⟨r1 _ h1, r2 _ h2, r3 _ h3⟩)
  (focus ((repeat ((with_reducible apply Imp.pick); (repeat (first | exact Pick.hd | apply Pick.tl)))); (repeat (first | exact Imp.refl _ | exact Imp.nil _ | apply Imp.drop)); done))
theorem put_own {K : Int → WP} {b : Nat} {X : List (Option Et)} {tr kp : List Int} {bytes most n : Nat} {x : Et} (hb : EB x) (hn : n < 4503599627370496) (hs : size x ≤ bytes) (hm : 0 < most) (hg : ∀ z, some z ∈ X → pdP x z = false)
    (h0 : ∀ M' y, Hp.le M M' → dE y = dE x → ∀ s2, s2 = evS most bytes (size x) 65 ⟨X, tr, kp⟩ → 
      Ent e (SRep M' b (s2.X.set (free s2.X) (some y)) ((free s2.X : Int) :: s2.tr) s2.kp bytes most (n + 1) :: Sl.ro M' :: rest) (K 0)) :
    Ent e (OwnE x (SRep M b X tr kp bytes most n :: Sl.ro M :: rest)) (store_Store_Put (ptr b) (.agg (ec x).toArray) K) := by
  refine OwnE.rd fun hr => ?_
  refine Ent.imp (ctx' := SRep M b X tr kp bytes most n :: Sl.ro M :: OwnE x rest) (by (focus ((repeat ((with_reducible apply Imp.pick); (repeat (first | exact Pick.hd | apply Pick.tl)))); (repeat (first | exact Imp.refl _ | exact Imp.nil _ | apply Imp.drop)); done))) ?_
  have e0 : gone3 (pdP x) ⟨X, tr, kp⟩ = ⟨X, tr, kp⟩ := gone_none hg
  refine put_spec (hr _ .hd (.tl .hd) (.tl (.tl .hd))) hb hn (fun hh => by omega) fun M' y hl hy _ _ _ s2 hs2 _ => ?_
  rw [e0] at hs2
  refine Ent.imp ?_ (h0 M' y hl hy s2 hs2)
  (focus ((repeat ((with_reducible apply Imp.pick); (repeat (first | exact Pick.hd | apply Pick.tl)))); (repeat (first | exact Imp.refl _ | exact Imp.nil _ | apply Imp.drop)); done))
theorem nn_mem {k : Nat} {z : Et} (h : some z ∈ nn k) : False := by have := List.eq_of_mem_replicate h; cases this
theorem pd_ne {x z : Et} (h : z.url ≠ x.url) : pdP x z = false := by unfold pdP; rw [decide_eq_false h]; rfl
theorem awake_spec {K : Bool → WP} (h : ∀ M', Hp.le M M' → Ent e (Sl.ro M' :: rest) (K true)) : Ent e (Sl.ro M :: rest) (law21_awake K) := by
  (refine Ent.fn law21_awake_ok ?_; unfold law21_awake_sh)
  refine snew_spec (fun hh => absurd hh (by decide)) fun b bytes most hb hm _ _ => ?_
  obtain rfl : bytes = 1000 := by omega
  obtain rfl : most = 2 := by omega
  refine Ent.join ?_
  refine Ent.wF ?_
  refine e_spec (url := [97]) (n := 35) (by decide) fun x1 hx1 => ?_
  have z1 := dA_size hx1
  refine put_own (dA_EB hx1) (by decide) (by omega) (by decide) (fun z hz => (nn_mem hz).elim) fun M1 y1 l1 hy1 s2 hs2 => ?_
  have d1 := hy1.trans hx1
  obtain rfl : s2 = ⟨nn 64, [], []⟩ := by
    rw [hs2]
    exact evS_stop (by unfold full; rw [z1]; decide)
  refine Ent.wF ?_
  refine e_spec (url := [98]) (n := 35) (by decide) fun x2 hx2 => ?_
  have z2 := dA_size hx2
  have zy1 := dA_size d1
  refine Ent.imp (ctx' := OwnE x2 (SRep M1 b (some y1 :: nn 63) [0] [] 1000 2 1 :: Sl.ro M1 :: rest)) (Imp.refl _) ?_
  refine put_own (dA_EB hx2) (by decide) (by omega) (by decide) (fun z hz => ?_) fun M2 y2 l2 hy2 s2 hs2 => ?_
  · rcases List.mem_cons.1 hz with hz | hz
    · cases hz
      refine pd_ne ?_
      rw [(dA_f d1).1, (dA_f hx2).1]; decide
    · exact (nn_mem hz).elim
  have d2 := hy2.trans hx2
  have zy2 := dA_size d2
  obtain rfl : s2 = ⟨some y1 :: nn 63, [0], []⟩ := by
    rw [hs2]
    refine evS_stop ?_
    unfold full
    rw [z2, used_1, zy1]
    rfl
  refine Ent.imp (ctx' := SRep M2 b (some y1 :: some y2 :: nn 62) [1, 0] [] 1000 2 2 :: Sl.ro M2 :: rest) (Imp.refl _) ?_
  refine Ent.wF ?_
  have u1 := (dA_f d1).1
  have u2 := (dA_f d2).1
  have hjoin : ∀ j, 2 ≤ j → (((some y1 :: some y2 :: nn 62 : List (Option Et)))[j]?).join = none := fun j hj => by
    obtain ⟨j', rfl⟩ : ∃ j', j = j' + 2 := ⟨j - 2, by omega⟩
    simpa using (nn_at (k := 62) (j := j'))
  have fa : fdk [97] [] (some y1 :: some y2 :: nn 62) 64 = some 0 := by
    rw [fdk_more (k0 := 2) hjoin 62]
    have n1 : ([98] : Bs) ≠ [97] := by decide
    simp [fdk, fdS, better, u1, u2, dA_for d1, n1]
  refine get_s_spec (url := [97]) (l := []) (by decide) rfl (by decide) (fun hh => by rw [fa] at hh; cases hh) fun i x y hi hx hy hbx => ?_
  rw [fa] at hi
  cases hi
  simp only [List.getElem?_cons_zero, Option.some.injEq] at hx
  subst hx
  have dy := hy.trans d1
  refine Ent.alloc' fun xb => ?_
  refine Ent.imp (ctx' := OwnE y (SRep M2 b (some y1 :: some y2 :: nn 62) [1] [0] 1000 2 4 :: Sl.ro M2 :: pt xb (ec ez) :: rest)) (by show Imp (pt xb (ec ez) :: _) _; (focus ((repeat ((with_reducible apply Imp.pick); (repeat (first | exact Pick.hd | apply Pick.tl)))); (repeat (first | exact Imp.refl _ | exact Imp.nil _ | apply Imp.drop)); done))) ?_
  refine Ent.wstoA (l' := ec y) ?_ (vs := ec y) (hl := rfl) (hu := by (repeat (first | exact Upd.hd | apply Upd.tl)))
  refine Ent.join ?_
  refine Ent.draw [pt xb (ec y)] (by (focus ((repeat ((with_reducible apply Imp.pick); (repeat (first | exact Pick.hd | apply Pick.tl)))); (repeat (first | exact Imp.refl _ | exact Imp.nil _ | apply Imp.drop)); done))) ?_
  refine Ent.wF ?_
  refine Ent.stR (v := .agg (ec y).toArray) (st_loadA (n := 9) (cs := ec y) .hd rfl rfl rfl) ?_
  refine e_spec (url := [97]) (n := 35) (by decide) fun z hz => ?_
  refine Ent.wand ?_
  refine OwnE.rd fun rz => ?_
  refine Ent.imp (ctx' := OwnE y (OwnE z (SRep M2 b (some y1 :: some y2 :: nn 62) [1] [0] 1000 2 4 :: Sl.ro M2 :: pt xb (ec y) :: rest))) (by (focus ((repeat ((with_reducible apply Imp.pick); (repeat (first | exact Pick.hd | apply Pick.tl)))); (repeat (first | exact Imp.refl _ | exact Imp.nil _ | apply Imp.drop)); done))) ?_
  refine OwnE.rd fun ry => ?_
  refine same_e_spec (ry _ .hd (.tl .hd) (.tl (.tl .hd))) (rz _ (.tl (.tl (.tl .hd))) (.tl (.tl (.tl (.tl .hd)))) (.tl (.tl (.tl (.tl (.tl .hd)))))) (dA_EB dy) (dA_EB hz) ?_
  rw [decide_eq_true (dy.trans hz.symm)]
  refine Ent.wF ?_
  refine Ent.imp (ctx' := SRep M2 b (some y1 :: some y2 :: nn 62) [1] [0] 1000 2 4 :: Sl.ro M2 :: pt xb (ec y) :: rest) (by (focus ((repeat ((with_reducible apply Imp.pick); (repeat (first | exact Pick.hd | apply Pick.tl)))); (repeat (first | exact Imp.refl _ | exact Imp.nil _ | apply Imp.drop)); done))) ?_
  refine used_spec ?_
  refine Ent.wand ?_
  rw [used_2, zy1, zy2]
  refine Ent.wF ?_
  refine e_spec (url := [99]) (n := 35) (by decide) fun x3 hx3 => ?_
  refine Ent.wand ?_
  have z3 := dA_size hx3
  refine put_own (dA_EB hx3) (by decide) (by omega) (by decide) (fun z hz => ?_) fun M3 y3 l3 hy3 s3 hs3 => ?_
  · rcases List.mem_cons.1 hz with hz | hz
    · cases hz
      refine pd_ne ?_
      rw [u1, (dA_f hx3).1]; decide
    · rcases List.mem_cons.1 hz with hz | hz
      · cases hz
        refine pd_ne ?_
        rw [u2, (dA_f hx3).1]; decide
      · exact (nn_mem hz).elim
  have d3 := hy3.trans hx3
  obtain rfl : s3 = ⟨some y1 :: nn 63, [], [0]⟩ := by
    rw [hs3]
    refine (evS_step ?_).trans ?_
    · unfold full
      rw [z3]
      rfl
    · refine (evS_stop (s := ⟨some y1 :: nn 63, [], [0]⟩) ?_)
      unfold full
      rw [z3, used_1, zy1]
      rfl
  refine Ent.wand ?_
  refine Ent.wF ?_
  refine Ent.imp (ctx' := SRep M3 b (some y1 :: some y3 :: nn 62) [1] [0] 1000 2 5 :: Sl.ro M3 :: rest) (by show Imp (_ :: _ :: pt xb _ :: rest) _; exact .pick .hd (.pick .hd (Imp.drop (Imp.refl _)))) ?_
  have u3 := (dA_f d3).1
  have hjoin3 : ∀ j, 2 ≤ j → (((some y1 :: some y3 :: nn 62 : List (Option Et)))[j]?).join = none := fun j hj => by
    obtain ⟨j', rfl⟩ : ∃ j', j = j' + 2 := ⟨j - 2, by omega⟩
    simpa using (nn_at (k := 62) (j := j'))
  have fa3 : fdk [97] [] (some y1 :: some y3 :: nn 62) 64 = some 0 := by
    rw [fdk_more (k0 := 2) hjoin3 62]
    have n1 : ([99] : Bs) ≠ [97] := by decide
    simp [fdk, fdS, better, u1, u3, dA_for d1, n1]
  have fb3 : fdk [98] [] (some y1 :: some y3 :: nn 62) 64 = none := by
    rw [fdk_more (k0 := 2) hjoin3 62]
    have n1 : ([99] : Bs) ≠ [98] := by decide
    have n2 : ([97] : Bs) ≠ [98] := by decide
    simp [fdk, fdS, better, u1, u3, n1, n2]
  refine look_spec (url := [97]) (l := []) rfl (by decide) (fun hh => by rw [fa3] at hh; cases hh) fun i x ya hi hx hya hbx => ?_
  refine Ent.alloc' fun yb => ?_
  refine Ent.wstoA (l' := ec ya) ?_ (vs := ec ya) (hl := rfl) (hu := by (repeat (first | exact Upd.hd | apply Upd.tl)))
  refine Ent.imp (ctx' := SRep M3 b (some y1 :: some y3 :: nn 62) [1] [0] 1000 2 5 :: Sl.ro M3 :: rest) (by (focus ((repeat ((with_reducible apply Imp.pick); (repeat (first | exact Pick.hd | apply Pick.tl)))); (repeat (first | exact Imp.refl _ | exact Imp.nil _ | apply Imp.drop)); done))) ?_
  refine look_spec (url := [98]) (l := []) rfl (by decide) (fun _ => ?_) fun i x ya hi hx hya hbx => by rw [fb3] at hi; cases hi
  refine Ent.alloc' fun yb => ?_
  refine Ent.wstoA (l' := ec ez) ?_ (vs := ec ez) (hl := rfl) (hu := by (repeat (first | exact Upd.hd | apply Upd.tl)))
  refine Ent.wT ?_
  refine Ent.wT ?_
  refine Ent.imp (ctx' := SRep M3 b (some y1 :: some y3 :: nn 62) [1] [0] 1000 2 5 :: Sl.ro M3 :: rest) (by (focus ((repeat ((with_reducible apply Imp.pick); (repeat (first | exact Pick.hd | apply Pick.tl)))); (repeat (first | exact Imp.refl _ | exact Imp.nil _ | apply Imp.drop)); done))) ?_
  refine entries_spec fun M4 ys a c l4 hys _ => ?_
  have hl2 : ys.length = 2 := by
    have := congrArg List.length hys
    simpa [ents, nn] using this
  refine Ent.wlen ?_
  rw [hl2]
  refine Ent.imp (ctx' := Sl.ro M4 :: rest) (by (focus ((repeat ((with_reducible apply Imp.pick); (repeat (first | exact Pick.hd | apply Pick.tl)))); (repeat (first | exact Imp.refl _ | exact Imp.nil _ | apply Imp.drop)); done))) ?_
  exact h M4 fun i o hi => l4 i o (l3 i o (l2 i o (l1 i o hi)))
end
end Go.Proofs.YtfofnagocedlgaaGreatDoor.Tx
end
section
/-
  FROM WHAT IS PROVED OF A LAW's CALL TO THE LAW's STATEMENT: how the arguments are read; what is left of them.
-/
set_option maxRecDepth 100000
set_option linter.unusedVariables false
set_option linter.unusedSimpArgs false
namespace Go.Proofs.YtfofnagocedlgaaGreatDoor.Lift
open Go Sh Sl
open Go.ChangeShapes Go.WideShapes Go.ChangeAt Go.RowKit

/-- all that lay there when the call began -/
def wh (W : World) : HProp := fun h => ∀ i o, W.heap[i]? = some o → h i = some o
def envOf (W : World) : Env := ⟨W.os, W.tape, W.output⟩
theorem start (W : World) : Sat (envOf W) (sepL [wh W]) W := ⟨rfl, rfl, rfl, hpOf W, fun _ => none, fun _ => .inr rfl, Hp.le_refl _, fun _ _ e => (by cases e), fun _ _ h => h, trivial⟩
theorem below_of {W W' : World} (h : Sat (envOf W) (sepL [wh W]) W') : Below W.heap.size W W' := by
  obtain ⟨h1, h2, _, l1, _, a, _⟩ := h.heap
  have hb : ∀ k, k < W.heap.size → W'.heap[k]? = W.heap[k]? := by
    intro k hk
    have := l1 k W.heap[k] (a k _ (by simp [hk]))
    have e : W'.heap[k]? = some W.heap[k] := this
    rw [e]; simp [hk]
  refine ⟨h.os, h.tape, h.output, ?_, hb⟩
  rcases Nat.eq_zero_or_pos W.heap.size with h0 | h0
  · omega
  · have := hb (W.heap.size - 1) (by omega)
    have hlt : W.heap.size - 1 < W.heap.size := by omega
    rw [show W.heap[W.heap.size - 1]? = some W.heap[W.heap.size - 1] by simp [hlt]] at this
    have := (Array.getElem?_eq_some_iff.1 this).1
    omega
/-- a call that is proved from the start's memory -/
theorem calls_of {f : FuncId} {args : Array Value} {W : World} (h : ∀ K : Bool → WP, (Ent (envOf W) [wh W] (K true)) → Ent (envOf W) [wh W] (FnK P (.one .bool) f args K)) :
    Calls P f args W fun e W' => e = .returned (.bool true) ∧ Below W.heap.size W W' := by
  have := h (fun b w => b = true ∧ Sat (envOf W) (sepL [wh W]) w) (fun w hw => ⟨rfl, hw⟩) W (start W)
  refine Calls.mono this fun e W' ⟨v, he, b, hb, ht, hs⟩ => ?_
  subst he; subst hb; subst ht
  exact ⟨rfl, below_of hs⟩
/-- cells of the arguments may be read -/
theorem rd_of {W : World} {a : Addr} {l : List Value} (h : ∀ j v, l[j]? = some v → W.cell? (a.add j) = some v) : Rd [wh W] (some a) l := by
  cases l with
  | nil => exact .inl rfl
  | cons v0 r =>
    have h0 := h 0 v0 rfl
    have e0 : a.add 0 = a := rfl
    rw [e0] at h0
    unfold World.cell? at h0
    cases hb : W.heap[a.block]? with
    | none => rw [hb] at h0; cases h0
    | some o =>
      rw [hb] at h0
      cases o <;> simp only at h0 <;> try (cases h0)
      rename_i c T fr
      cases hs : a.spot with
      | some s => rw [hs] at h0; simp at h0
      | none =>
        refine .inr ⟨hs, fun x k => ?_⟩
        obtain ⟨h1, h2, _, l1, _, hw, _⟩ := k
        refine ⟨T, fr, c, l1 _ _ (hw _ _ hb), fun j v hj => ?_⟩
        have hc := h j v hj
        obtain ⟨b, off, s⟩ := a
        simp only at hs hb
        subst hs
        rw [Addr.add_lit] at hc
        simpa [World.cell?, hb] using hc

/-! reading -/
section
variable {H : Type} {enc : TypeId × Value → H} {W : World}
/-- 'cs' of type t read as 'd' -/
def Tr (enc : TypeId × Value → H) (W : World) (t : TypeId) (cs : List Value) (d : DataW H) : Prop := ∃ n ps, DataW.trod enc P W 0 (fun _ => true) true n t cs = some (d, ps)
theorem tr_int {t : TypeId} {k : IntKind} {cs : List Value} {d : DataW H} (ht : dd t = some (.int k)) (h : Tr enc W t cs d) : ∃ m, cs = [.int k m] ∧ inR k m := by
  obtain ⟨n, ps, h⟩ := h
  cases n with
  | zero => simp [DataW.trod] at h
  | succ n =>
    unfold DataW.trod at h
    rw [dd_int ht] at h
    split at h <;> try (first | (rename_i e _; cases e; done) | (rename_i e; cases e; done) | (cases h; done))
    rename_i k1 k2 m hk
    cases hk
    split at h
    · rename_i hw
      obtain ⟨rfl, hw⟩ := hw
      simp only [Lit.wf, Bool.and_eq_true, decide_eq_true_eq] at hw
      exact ⟨m, rfl, hw⟩
    · cases h
theorem tr_bool {t : TypeId} {cs : List Value} {d : DataW H} (ht : dd t = some .bool) (h : Tr enc W t cs d) : ∃ b, cs = [.bool b] := by
  obtain ⟨n, ps, h⟩ := h
  cases n with
  | zero => simp [DataW.trod] at h
  | succ n =>
    unfold DataW.trod at h
    rw [dd_bool ht] at h
    split at h <;> try (first | (rename_i e _; cases e; done) | (rename_i e; cases e; done) | (cases h; done))
    exact ⟨_, rfl⟩
theorem tr_str {t : TypeId} {cs : List Value} {d : DataW H} (ht : dd t = some .str) (h : Tr enc W t cs d) : ∃ l : List UInt8, cs = [.string (ba l)] ∧ l.length ≤ Rows.uptoBulk d := by
  obtain ⟨n, ps, h⟩ := h
  cases n with
  | zero => simp [DataW.trod] at h
  | succ n =>
    unfold DataW.trod at h
    rw [dd_str ht] at h
    split at h <;> try (first | (rename_i e _; cases e; done) | (rename_i e; cases e; done) | (cases h; done))
    rename_i s _
    split at h
    · simp only [Option.some.injEq, Prod.mk.injEq] at h
      obtain ⟨rfl, _⟩ := h
      exact ⟨s.data.toList, by simp [ba], by simp [Rows.uptoBulk]⟩
    · cases h
theorem bulk_pos (d : DataW H) : 1 ≤ Rows.uptoBulk d := by
  cases d with
  | lit l => cases l <;> simp [Rows.uptoBulk]
  | _ => simp [Rows.uptoBulk]
theorem bulk_len (l : List (DataW H)) : l.length ≤ Rows.uptoBulkAll l := by
  induction l with
  | nil => simp [Rows.uptoBulkAll]
  | cons x r ih => have := bulk_pos x; simp only [Rows.uptoBulkAll, List.length_cons]; omega
theorem bulk_mem {d : DataW H} {l : List (DataW H)} (h : d ∈ l) : Rows.uptoBulk d ≤ Rows.uptoBulkAll l := by
  induction l with
  | nil => cases h
  | cons x r ih =>
    simp only [Rows.uptoBulkAll]
    rcases List.mem_cons.1 h with rfl | h
    · omega
    · have := ih h; omega
theorem list_choose {X : Type} {n : Nat} {R : Nat → X → Prop} (h : ∀ i, i < n → ∃ x, R i x) : ∃ xs : List X, xs.length = n ∧ ∀ i x, xs[i]? = some x → R i x := by
  induction n with
  | zero => exact ⟨[], rfl, fun i x hx => by simp at hx⟩
  | succ n ih =>
    obtain ⟨xs, h1, h2⟩ := ih fun i hi => h i (by omega)
    obtain ⟨x, hx⟩ := h n (by omega)
    refine ⟨xs ++ [x], by simp [h1], fun i y hy => ?_⟩
    rw [List.getElem?_append] at hy
    split at hy
    · exact h2 i y hy
    · rename_i hlt
      have : i = n := by
        have := (List.getElem?_eq_some_iff.1 hy).1
        simp at this
        omega
      subst this
      simp [h1] at hy
      subst hy; exact hx
theorem sum_le {X Y : Type} {f : X → Nat} {g : Y → Nat} : ∀ (xs : List X) (ys : List Y), xs.length = ys.length → (∀ (i : Nat) x y, xs[i]? = some x → ys[i]? = some y → f x ≤ g y) → (xs.map f).sum ≤ (ys.map g).sum
  | [], [], _, _ => by simp
  | x :: xs, y :: ys, hl, h => by
    have h0 := h 0 x y rfl rfl
    have := sum_le xs ys (by simpa using hl) fun i x' y' hx hy => h (i + 1) x' y' (by simpa using hx) (by simpa using hy)
    simp only [List.map_cons, List.sum_cons]; omega
theorem bulk_sum (l : List (DataW H)) : (l.map Rows.uptoBulk).sum = Rows.uptoBulkAll l := by
  induction l with
  | nil => simp [Rows.uptoBulkAll]
  | cons x r ih => simp only [List.map_cons, List.sum_cons, Rows.uptoBulkAll, ih]
theorem flat_get {sz : Nat} : ∀ (ls : List (List Value)) (_ : ∀ l ∈ ls, l.length = sz) (j : Nat) (v : Value), ls.flatten[j]? = some v → ∃ l, ls[j / sz]? = some l ∧ l[j % sz]? = some v
  | [], _, j, v, h => by simp at h
  | l :: ls, hl, j, v, h => by
    have h1 := hl l (by simp)
    rw [List.flatten_cons] at h
    by_cases hj : j < sz
    · rw [List.getElem?_append_left (by omega)] at h
      exact ⟨l, by rw [Nat.div_eq_of_lt hj]; rfl, by rw [Nat.mod_eq_of_lt hj]; exact h⟩
    · rw [List.getElem?_append_right (by omega), h1] at h
      obtain ⟨l', e1, e2⟩ := flat_get ls (fun l hm => hl l (by simp [hm])) _ v h
      rcases Nat.eq_zero_or_pos sz with h0 | h0
      · subst h0
        have := (List.getElem?_eq_some_iff.1 e2).1
        have hh := hl l' (List.mem_cons_of_mem _ (List.mem_of_getElem? e1))
        omega
      · refine ⟨l', ?_, ?_⟩
        · rw [Nat.div_eq_sub_div h0 (by omega), List.getElem?_cons_succ]; exact e1
        · rw [Nat.mod_eq_sub_mod (by omega)]; exact e2
theorem tr_slice {X : Type} (cellsOf : X → List Value) (N : X → Prop) (bulk : X → Nat) {t x sz by_ : Nat} {cs : List Value} {d : DataW H} (ht : dd t = some (.sl x)) (hs : szof x = some (sz, by_))
    (hE : ∀ cs d, Tr enc W x cs d → ∃ y, cs = cellsOf y ∧ N y ∧ bulk y ≤ Rows.uptoBulk d) (h : Tr enc W t cs d) :
    ∃ (a : Option Addr) (n c : Nat) (xs : List X), cs = [.slice a n c] ∧ xs.length = n ∧ n ≤ c ∧ Rd [wh W] a ((xs.map cellsOf).flatten) ∧ (∀ y ∈ xs, N y) ∧ c ≤ Rows.uptoBulk d ∧ (xs.map bulk).sum ≤ Rows.uptoBulk d := by
  obtain ⟨n, ps, h⟩ := h
  obtain ⟨i, g1, g2, g3⟩ := szof_spec hs
  have hcell : P.cellsOf x = sz := by simp [Program.cellsOf, g1, g2]
  rcases DataW.trod_slice (dd_sl ht) h with ⟨rfl, h2⟩ | ⟨a, len, cap, elems, rest, n', rfl, rfl, h2, _, h4, h5, h6, h7, h8, _⟩
  · refine ⟨none, 0, 0, [], rfl, rfl, Nat.le_refl _, rfl, by simp, by omega, by simp⟩
  · simp only [Prod.mk.injEq] at h2
    obtain ⟨rfl, _⟩ := h2
    rw [hcell] at h7
    have each : ∀ i, i < len → ∃ y : X × DataW H, W.cells? 0 (a.add (i * sz)) sz = some (cellsOf y.1) ∧ N y.1 ∧ bulk y.1 ≤ Rows.uptoBulk y.2 ∧ (elems[i]?).map (·.1) = some y.2 := by
      intro i hi
      have hb := h7 i hi
      have he : i < elems.length := by omega
      rw [List.getElem?_eq_getElem he] at hb ⊢
      cases hc : W.cells? 0 (a.add (i * sz)) sz with
      | none => rw [hc] at hb; cases hb
      | some cs =>
        rw [hc] at hb
        simp only [Option.bind_some] at hb
        obtain ⟨y, rfl, hy2, hy3⟩ := hE cs elems[i].1 ⟨n', elems[i].2, hb⟩
        exact ⟨(y, elems[i].1), rfl, hy2, hy3, rfl⟩
    obtain ⟨ys, hl, hy⟩ := list_choose each
    refine ⟨some a, len, cap, ys.map (·.1), rfl, by simp [hl], h4, rd_of fun j v hj => ?_, ?_, ?_, ?_⟩
    · have hlen : ∀ l ∈ (ys.map (·.1)).map cellsOf, l.length = sz := by
        intro l hm
        simp only [List.map_map, List.mem_map, Function.comp] at hm
        obtain ⟨y, hym, rfl⟩ := hm
        obtain ⟨k, hk⟩ := List.getElem?_of_mem hym
        exact (World.cells?_some (hy k y hk).1).2.1
      obtain ⟨l, e1, e2⟩ := flat_get _ hlen j v hj
      simp only [List.map_map, List.getElem?_map, Option.map_eq_some_iff, Function.comp] at e1
      obtain ⟨y, hy1, rfl⟩ := e1
      obtain ⟨_, hcl, hcc⟩ := World.cells?_some (hy _ y hy1).1
      have hlt := (List.getElem?_eq_some_iff.1 e2).1
      have := hcc (j % sz) (by omega)
      rw [e2] at this
      rw [← this]
      congr 1
      have hj2 : j / sz * sz + j % sz = j := Nat.div_add_mod' j sz
      unfold Addr.add
      split <;> split <;> (try split) <;> simp_all <;> omega
    · intro y hm
      simp only [List.mem_map] at hm
      obtain ⟨z, hz, rfl⟩ := hm
      obtain ⟨k, hk⟩ := List.getElem?_of_mem hz
      exact (hy k z hk).2.1
    · have e1 := bulk_len (elems.map (·.1))
      have e2 := bulk_len (rest.map (·.1))
      have e3 := (h8 rfl).1
      simp only [List.length_map] at e1 e2
      simp only [Rows.uptoBulk]; omega
    · have e1 : ((ys.map (·.1)).map bulk).sum ≤ ((elems.map (·.1)).map Rows.uptoBulk).sum := by
        rw [List.map_map]
        refine sum_le ys (elems.map (·.1)) (by simp [hl, h6]) fun i y z hyi hz => ?_
        obtain ⟨_, _, hb, he⟩ := hy i y hyi
        simp only [List.getElem?_map] at hz
        rw [he] at hz
        cases hz
        exact hb
      rw [bulk_sum] at e1
      simp only [Rows.uptoBulk]; omega
theorem tr_max {t x c : Nat} {a : Option Addr} {n : Nat} {cs : List Value} {d : DataW H} (ht : dd t = some (.sl x)) (h : Tr enc W t cs d) (hc : cs = [.slice a n c]) : n ≤ 9223372036854775807 := by
  obtain ⟨m, ps, h⟩ := h
  subst hc
  rcases DataW.trod_slice (dd_sl ht) h with ⟨h1, h2⟩ | ⟨a', len, cap, elems, rest, n', h0, h1, h2, _, h4, h5, _⟩
  · cases h1; omega
  · cases h1
    unfold maxLen at h5
    omega
theorem le_sum {X : Type} (f : X → Nat) {y : X} : ∀ {xs : List X}, y ∈ xs → f y ≤ (xs.map f).sum
  | [], h => by cases h
  | x :: xs, h => by
    simp only [List.map_cons, List.sum_cons]
    rcases List.mem_cons.1 h with rfl | h
    · omega
    · have := le_sum f h; omega
theorem tr_struct {t : TypeId} {fs : List (Nat × Nat)} {sz by_ : Nat} {cs : List Value} {d : DataW H} (ht : dd t = some (.struct fs)) (hs : szof t = some (sz, by_)) (h : Tr enc W t cs d) :
    ∃ ds : List (DataW H), ds.length = fs.length ∧ cs.length = sz ∧ Rows.uptoBulk d = Rows.uptoBulkAll ds + 1 ∧
      ∀ (i off ft z b : Nat), fs[i]? = some (off, ft) → szof ft = some (z, b) → ∃ y, ds[i]? = some y ∧ Tr enc W ft ((cs.drop off).take z) y := by
  obtain ⟨n, ps, h⟩ := h
  unfold dd at ht
  cases hti : ti t with
  | none => rw [hti] at ht; cases ht
  | some x =>
    rw [hti] at ht
    obtain ⟨i, de, h1, h2, h3, h4, h5⟩ := ti_spec hti
    cases x with
    | mk s b dx =>
      simp only [Option.map_some, Option.some.injEq] at ht
      simp only at h3 h4 h5
      subst ht
      cases de <;> simp only [dOf] at h5 <;> try (cases h5; done)
      rename_i gs
      simp only [D.struct.injEq] at h5
      obtain ⟨xs, n', rfl, hx, hl, hlen, hf⟩ := DataW.trod_struct h2 h
      obtain ⟨i', g1, g2, g3⟩ := szof_spec hs
      have hcell : P.cellsOf t = sz := by simp [Program.cellsOf, g1, g2]
      simp only [Prod.mk.injEq] at hx
      obtain ⟨rfl, _⟩ := hx
      refine ⟨xs.map (·.1), by simp [hlen, ← h5], by rw [hl, hcell], by simp [Rows.uptoBulk], fun j off ft z bb hj hz => ?_⟩
      rw [← h5, List.getElem?_map] at hj
      obtain ⟨f, hf1, hf2⟩ := Option.map_eq_some_iff.1 hj
      simp only [Prod.mk.injEq] at hf2
      obtain ⟨rfl, rfl⟩ := hf2
      have hff := hf j f (by simpa using hf1)
      obtain ⟨i2, k1, k2, k3⟩ := szof_spec hz
      have hcell2 : P.cellsOf f.type = z := by simp [Program.cellsOf, k1, k2]
      rw [hcell2] at hff
      have hjl : j < xs.length := by
        have := (List.getElem?_eq_some_iff.1 hf1).1
        simp at this; omega
      rw [List.getElem?_eq_getElem hjl] at hff
      exact ⟨xs[j].1, by simp [hjl], n', xs[j].2, hff⟩
theorem tr_bytes {t x by_ : Nat} {cs : List Value} {d : DataW H} (ht : dd t = some (.sl x)) (hx : dd x = some (.int .u8)) (hs : szof x = some (1, by_)) (h : Tr enc W t cs d) :
    ∃ (a : Option Addr) (c : Nat) (l : List UInt8), cs = [.slice a l.length c] ∧ l.length ≤ c ∧ RdB [wh W] a l ∧ c ≤ Rows.uptoBulk d := by
  obtain ⟨a, n, c, xs, rfl, h1, h2, h3, h4, h5, h6⟩ := tr_slice (X := Int) (fun m => [.int .u8 m]) (fun m => inR .u8 m) (fun _ => 0) ht hs (fun cs d h => by
    obtain ⟨m, h1, h2⟩ := tr_int hx h
    exact ⟨m, h1, h2, Nat.zero_le _⟩) h
  have e1 : (xs.map fun m => [Value.int .u8 m]).flatten = u8 (xs.map fun m => UInt8.ofNat m.toNat) := by
    clear h1 h3 h6
    induction xs with
    | nil => rfl
    | cons m r ih =>
      have hm := h4 m (by simp)
      obtain ⟨p, q⟩ := hm
      simp only [IntKind.min, IntKind.max, IntKind.signed, IntKind.bits] at p q
      simp at p q
      have e2 : ((UInt8.ofNat m.toNat).toNat : Int) = m := by
        rw [UInt8.toNat_ofNat']; omega
      simp only [List.map_cons, List.flatten_cons, List.singleton_append, u8, e2]
      have := ih (fun y hy => h4 y (by simp [hy]))
      simp only [u8] at this
      rw [this]
  rw [e1] at h3
  exact ⟨a, c, _, by simp [h1], by simpa [h1] using h2, h3, h5⟩
/-- the arguments one by one -/
theorem tr_cons {t : TypeId} {ts : List TypeId} {vs : List Value} {ds : List (DataW H)} {ps : List MemPlace} (h : DataW.TrodAll enc P W 0 (fun _ => true) true (t :: ts) vs ds ps) :
    ∃ v vs' d ds' q, vs = v :: vs' ∧ ds = d :: ds' ∧ Tr enc W t v.cells.toList d ∧ DataW.TrodAll enc P W 0 (fun _ => true) true ts vs' ds' q := by
  obtain ⟨v, vs', d, ds', p, q, h1, h2, _, ⟨n, h3⟩, h4⟩ := trodAll_cons h
  exact ⟨v, vs', d, ds', q, h1, h2, ⟨n, p, h3⟩, h4⟩
theorem tr_nil {vs : List Value} {ds : List (DataW H)} {ps : List MemPlace} (h : DataW.TrodAll enc P W 0 (fun _ => true) true [] vs ds ps) : vs = [] ∧ ds = [] := by
  cases vs <;> cases ds <;> simp_all [DataW.TrodAll]
theorem args_stay {W' : World} (hl : laidOutB P = true) (hb : Below W.heap.size W W') {sp : Nat → Bool} : ∀ (ts : List TypeId) (vs : List Value) (ds : List (DataW H)) (ps : List MemPlace), (∀ t ∈ ts, P.readableRec t = true ∧ t < P.types.size) →
    (∀ x ∈ ps, x.block < W.heap.size) → (∀ x ∈ ps, sp x.block = true) → DataW.TrodAll enc P W 0 (fun _ => true) true ts vs ds ps → DataW.TrodAll enc P W' 0 sp true ts vs ds ps
  | [], vs, ds, ps, _, _, _, h => by
    cases vs <;> cases ds <;> simp_all [DataW.TrodAll]
  | t :: ts, vs, ds, ps, hr, hlt, hsp, h => by
    obtain ⟨v, vs', d, ds', p, q, rfl, rfl, rfl, h3, h4⟩ := trodAll_cons h
    have r := hr t (by simp)
    refine ⟨p, q, ?_, args_stay hl hb ts vs' ds' q (fun t ht => hr t (by simp [ht])) (fun x hx => hlt x (by simp [hx])) (fun x hx => hsp x (by simp [hx])) h4, rfl⟩
    exact WideElems.Trod_stays hl r.1 r.2 h3 (fun x hx => hb.same (hlt x (by simp [hx]))) (fun x hx => hsp x (by simp [hx]))
/-- what the law's row asks behind the call -/
theorem law_post {f : Func} {s : ChangeSpec} {tb : TypeId} (hl : laidOutB P = true) (hv : s.vars = []) (hres : f.resultTypes = #[tb]) (htb : dd tb = some .bool)
    (hfn : ∀ ds : List (DataW H), ds.length = f.params.size → s.fn H ds = { results := [.lit (.bool true)], args := ds }) (hread : ∀ t ∈ f.params.toList, P.readableRec t = true ∧ t < P.types.size)
    {args : Array Value} {ds gs : List (DataW H)} {before : List MemPlace} (hW : DataW.Whole enc P f.params.toList s.vars false W args.toList ds gs before) {W' : World} (hb : Below W.heap.size W W') :
    s.post enc P f false true false false W args (.bool true) W' := by
  have hW0 := hW
  have hlt : ∀ p ∈ before, p.block < W.heap.size := fun p hp => hW.lt p hp
  obtain ⟨p, q, hA, hV, rfl, hz, hn⟩ := hW
  rw [hv] at hV
  have hV' : gs = [] ∧ q = [] := by cases gs <;> simp_all [DataW.TrodVars]
  obtain ⟨rfl, rfl⟩ := hV'
  simp only [List.append_nil] at hlt hz hn
  have hlen : ds.length = f.params.size := by
    have : ∀ (ts : List TypeId) (vs : List Value) (ds : List (DataW H)) (ps : List MemPlace), DataW.TrodAll enc P W 0 (fun _ => true) true ts vs ds ps → ds.length = ts.length := by
      intro ts
      induction ts with
      | nil => intro vs ds ps h; rw [(tr_nil h).2]; rfl
      | cons t ts ih =>
        intro vs ds ps h
        obtain ⟨v, vs', d, ds', q, rfl, rfl, _, h4⟩ := tr_cons h
        simp [ih _ _ _ h4]
    have := this _ _ _ _ hA
    simpa using this
  have hfn' := hfn ds hlen
  have hold : ∀ x ∈ p, (fun b => decide (b < W.heap.size)) x.block = true := fun x hx => by simpa using hlt x hx
  have hstay : ∀ sp : Nat → Bool, (∀ x ∈ p, sp x.block = true) → DataW.TrodAll enc P W' 0 sp true f.params.toList args.toList ds p := fun sp hsp => args_stay hl hb _ _ _ _ hread hlt hsp hA
  have hr : ∀ (b : Nat) (sp : Nat → Bool) (hd : Bool), DataW.TrodAll enc P W' b sp hd f.resultTypes.toList ((Value.bool true).resultList f.resultTypes.size) [.lit (.bool true)] [] := by
    intro b sp hd
    rw [hres]
    exact trodAll_cons_mk (shut_bool (dd_bool htb) _) trodAll_mk0
  refine ⟨ds, [], p ++ [], [], p, [], hW0, ?_, ?_, ?_, World.keptBut_mono (fun x hx => ⟨hx, ?_⟩) (hb.frame (· ∈ p ++ [])), fun _ => ?_⟩
  · rw [List.append_nil, hfn']; exact hr _ _ _
  · rw [List.append_nil, hfn']; exact hstay _ hold
  · rw [List.append_nil, hfn', hv]; rfl
  · simpa using hx
  · refine ⟨?_, [.lit (.bool true)] ++ ds, [], ([] ++ p) ++ [], ⟨[] ++ p, [], trodAll_append (hstay (fun _ => true) (fun _ _ => rfl)) (hr 0 (fun _ => true) true), ?_, rfl, ?_, ?_⟩, ?_⟩
    · exact ok_one hres rfl (okWide_bool_mk (dd_bool htb) _)
    · rw [hv]; rfl
    · intro b off hp
      have hin : MemPlace.cell b off ∈ p := by simpa using hp
      rw [hb.frozen (hlt _ hin)]
      exact hz b off hin
    · intro ha; simpa using hn ha
    · intro x hx _; simpa using hx
theorem law_post' {f : Func} {s : ChangeSpec} {tb : TypeId} (hl : laidOutB P = true) (hv : s.vars = []) (hres : f.resultTypes = #[tb]) (htb : dd tb = some .bool)
    (hfn : ∀ ds : List (DataW H), ds.length = f.params.size → s.fn H ds = { results := [.lit (.bool true)], args := ds }) (hread : (f.params.toList.all fun t => P.readableRec t && decide (t < P.types.size)) = true)
    {args : Array Value} {ds gs : List (DataW H)} {before : List MemPlace} (hW : DataW.Whole enc P f.params.toList s.vars false W args.toList ds gs before) {W' : World} (hb : Below W.heap.size W W') :
    s.post enc P f false true false false W args (.bool true) W' :=
  law_post hl hv hres htb hfn (fun t ht => by simpa using (List.all_eq_true.1 hread) t ht) hW hb
theorem val_int {base : Nat} {t : TypeId} {k : IntKind} {v x : Value} (ht : dd t = some (.int k)) (ho : Value.okWide P W .any base t v) (h : v.cells.toList = [x]) : v = x := by
  obtain ⟨n, rfl⟩ := okWide_int (dd_int ht) ho
  simpa [Value.cells] using h
theorem val_slice {base : Nat} {t y : TypeId} {v x : Value} (ht : dd t = some (.sl y)) (ho : Value.okWide P W .any base t v) (h : v.cells.toList = [x]) : v = x := by
  obtain ⟨a, l, c, rfl⟩ := okWide_slice (dd_sl ht) ho
  simpa [Value.cells] using h
theorem val_str {base : Nat} {t : TypeId} {v x : Value} (ht : dd t = some .str) (ho : Value.okWide P W .any base t v) (h : v.cells.toList = [x]) : v = x := by
  obtain ⟨s, rfl⟩ := okWide_string (dd_str ht) ho
  simpa [Value.cells] using h
theorem val_bool {base : Nat} {t : TypeId} {v x : Value} (ht : dd t = some .bool) (ho : Value.okWide P W .any base t v) (h : v.cells.toList = [x]) : v = x := by
  simp only [Value.okWide, dd_bool ht, Cell.okWide] at ho
  cases v <;> simp_all [Cell.ok, Value.cells]
theorem val_struct {base : Nat} {t : TypeId} {fs : List (Nat × Nat)} {v : Value} {l : List Value} (ht : dd t = some (.struct fs)) (ho : Value.okWide P W .any base t v) (h : v.cells.toList = l) : v = .agg l.toArray := by
  unfold dd at ht
  cases hti : ti t with
  | none => rw [hti] at ht; cases ht
  | some x =>
    rw [hti] at ht
    obtain ⟨i, de, h1, h2, h3, h4, h5⟩ := ti_spec hti
    cases x with
    | mk s b dx =>
      simp only [Option.map_some, Option.some.injEq] at ht
      subst ht
      cases de <;> simp only [dOf] at h5 <;> try (cases h5; done)
      simp only [Value.okWide, h2] at ho
      obtain ⟨cs, rfl, _⟩ := ho
      simp only [Value.cells] at h
      subst h
      simp
end
end Go.Proofs.YtfofnagocedlgaaGreatDoor.Lift
end
section
/- READING A STORE'S ACTS: slices, lines, acts, with their bulk. -/
set_option linter.unusedVariables false
set_option linter.unusedSimpArgs false
set_option maxRecDepth 100000
set_option maxHeartbeats 0
namespace Go.Proofs.YtfofnagocedlgaaGreatDoor.Tx
open Go Sh Sl
attribute [local irreducible] condK ArK NilK OpK FnK StK joinK loopK DrawK andK PuK NxK EnK vS uS bS callS invokeS
/-- an act as it is given -/
structure Act where
  w : Int
  x : Et
  url : Bs
  a : Option Addr
  c : Nat
  l : List Tx.Fd
abbrev acC (y : Act) : List Value := [.int .i64 y.w, .string (ba y.x.url), .int .u64 y.x.asked, .int .u64 y.x.came, .slice y.x.wa y.x.wl.length y.x.wc, .int .i64 y.x.st, .string (ba y.x.rs), .int .i64 y.x.mi, .slice y.x.fa y.x.fl.length y.x.fk, .slice y.x.ba_ y.x.bl.length y.x.bk, .string (ba y.url), .slice y.a y.l.length y.c]
/-- bounds of a slice's parts -/
structure EK (x : Et) (n : Nat) : Prop where
  u : x.url.length ≤ n
  r : x.rs.length ≤ n
  b : x.bl.length ≤ n
  w : fsz x.wl ≤ 3 * n
  f : fsz x.fl ≤ 3 * n
theorem EK.eb {x : Et} {n : Nat} (h : EK x n) (hn : n ≤ 1048576) : EB x := by
  obtain ⟨h1, h2, h3, h4, h5⟩ := h
  exact ⟨by omega, by omega, by omega, by omega, by omega⟩
theorem EK.mono {x : Et} {n m : Nat} (h : EK x n) (hn : n ≤ m) : EK x m := by
  obtain ⟨h1, h2, h3, h4, h5⟩ := h
  exact ⟨by omega, by omega, by omega, by omega, by omega⟩
def ebk (x : Et) : Nat := max (max x.url.length x.rs.length) (max x.bl.length (max ((fsz x.wl + 2) / 3) ((fsz x.fl + 2) / 3)))
theorem ebk_le {x : Et} {n : Nat} : ebk x ≤ n ↔ EK x n := by
  unfold ebk
  constructor
  · intro h; exact ⟨by omega, by omega, by omega, by omega, by omega⟩
  · intro ⟨h1, h2, h3, h4, h5⟩; omega
theorem sum_mem {α : Type} {f : α → Nat} {l : List α} {y : α} (h : y ∈ l) : f y ≤ (l.map f).sum := by
  induction l with
  | nil => cases h
  | cons x r ih =>
    rw [List.map_cons, List.sum_cons]
    rcases List.mem_cons.1 h with rfl | h
    · omega
    · have := ih h; omega
def abk (y : Act) : Nat := max (ebk y.x) (max y.url.length ((fsz y.l + 2) / 3))
section
variable {H : Type} {enc : TypeId × Value → H} {W : World}
theorem tr_fds {t : TypeId} {cs : List Value} {d : DataW H} (ht : dd t = some (.sl 55)) (h : Lift.Tr enc W t cs d) : ∃ a c l, cs = [.slice a (l : List Tx.Fd).length c] ∧ Rd [Lift.wh W] a (fc l) ∧ fsz l ≤ 3 * Rows.uptoBulk d := by
  obtain ⟨a, m, c, xs, h1, hn, hcc, hr, hN, hcb, hsum⟩ := Lift.tr_slice (X := Tx.Fd) fdC (fun _ => True) (fun f => f.1.length + f.2.length) (x := 55) ht rfl (fun cs d h => by
    obtain ⟨gs, hl, hc, hb, hf⟩ := Lift.tr_struct rfl rfl h
    obtain ⟨y0, i0, u0⟩ := hf 0 _ _ _ _ rfl rfl
    obtain ⟨y1, i1, u1⟩ := hf 1 _ _ _ _ rfl rfl
    match cs, hc with
    | [c0, c1], _ =>
      obtain ⟨n0, h0, b0⟩ := Lift.tr_str rfl u0
      obtain ⟨n1, h1, b1⟩ := Lift.tr_str rfl u1
      simp only [List.drop_zero, List.take_succ_cons, List.take_zero, List.drop_succ_cons, List.cons.injEq, and_true] at h0 h1
      subst h0 h1
      refine ⟨(n0, n1), rfl, trivial, ?_⟩
      match gs, hl, i0, i1, hb with
      | [g0, g1], _, i0, i1, hb =>
        cases i0
        cases i1
        rw [hb]
        simp only [Rows.uptoBulkAll]
        omega) h
  subst hn
  refine ⟨a, c, xs, h1, hr, ?_⟩
  have e : fsz xs = (xs.map fun f => f.1.length + f.2.length).sum + 2 * xs.length := by
    clear h1 hcc hr hN hcb hsum
    induction xs with
    | nil => rfl
    | cons f r ih =>
      simp only [fsz, List.map_cons, List.sum_cons, List.length_cons] at ih ⊢
      omega
  omega
theorem tr_rc {cs : List Value} {d : DataW H} (h : Lift.Tr enc W 26 cs d) : ∃ x : Et, cs = rc x ∧ Rd [Lift.wh W] x.fa (fc x.fl) ∧ Rd [Lift.wh W] x.ba_ (u8 x.bl) ∧ x.rs.length ≤ Rows.uptoBulk d ∧ fsz x.fl ≤ 3 * Rows.uptoBulk d ∧ x.bl.length ≤ Rows.uptoBulk d := by
  obtain ⟨gs, hl, hc, hb, hf⟩ := Lift.tr_struct rfl rfl h
  obtain ⟨y0, i0, u0⟩ := hf 0 _ _ _ _ rfl rfl
  obtain ⟨y1, i1, u1⟩ := hf 1 _ _ _ _ rfl rfl
  obtain ⟨y2, i2, u2⟩ := hf 2 _ _ _ _ rfl rfl
  obtain ⟨y3, i3, u3⟩ := hf 3 _ _ _ _ rfl rfl
  obtain ⟨y4, i4, u4⟩ := hf 4 _ _ _ _ rfl rfl
  match cs, hc with
  | [c0, c1, c2, c3, c4], _ =>
    obtain ⟨n0, h0, _⟩ := Lift.tr_int (k := .i64) rfl u0
    obtain ⟨n1, h1, b1⟩ := Lift.tr_str rfl u1
    obtain ⟨n2, h2, _⟩ := Lift.tr_int (k := .i64) rfl u2
    obtain ⟨a3, k3, l3, h3, r3, b3⟩ := tr_fds rfl u3
    obtain ⟨a4, k4, l4, h4, q4, r4, b4⟩ := Lift.tr_bytes rfl rfl rfl u4
    simp only [List.drop_zero, List.take_succ_cons, List.take_zero, List.drop_succ_cons, List.cons.injEq, and_true] at h0 h1 h2 h3 h4
    subst h0 h1 h2 h3 h4
    have g1 := Lift.bulk_mem (List.mem_of_getElem? i1)
    have g3 := Lift.bulk_mem (List.mem_of_getElem? i3)
    have g4 := Lift.bulk_mem (List.mem_of_getElem? i4)
    exact ⟨⟨[], 0, 0, none, 0, [], n0, n1, n2, a3, k3, l3, a4, k4, l4⟩, rfl, r3, r4, by show n1.length ≤ _; omega, by show fsz l3 ≤ _; omega, by show l4.length ≤ _; omega⟩
theorem tr_et {cs : List Value} {d : DataW H} (h : Lift.Tr enc W 28 cs d) : ∃ x : Et, cs = ec x ∧ RdE [Lift.wh W] x ∧ EK x (Rows.uptoBulk d) := by
  obtain ⟨gs, hl, hc, hb, hf⟩ := Lift.tr_struct rfl rfl h
  obtain ⟨y0, i0, u0⟩ := hf 0 _ _ _ _ rfl rfl
  obtain ⟨y1, i1, u1⟩ := hf 1 _ _ _ _ rfl rfl
  obtain ⟨y2, i2, u2⟩ := hf 2 _ _ _ _ rfl rfl
  obtain ⟨y3, i3, u3⟩ := hf 3 _ _ _ _ rfl rfl
  obtain ⟨y4, i4, u4⟩ := hf 4 _ _ _ _ rfl rfl
  match cs, hc with
  | [c0, c1, c2, c3, c4, c5, c6, c7, c8], _ =>
    obtain ⟨n0, h0, b0⟩ := Lift.tr_str rfl u0
    obtain ⟨n1, h1, _⟩ := Lift.tr_int (k := .u64) rfl u1
    obtain ⟨n2, h2, _⟩ := Lift.tr_int (k := .u64) rfl u2
    obtain ⟨a3, k3, l3, h3, r3, b3⟩ := tr_fds rfl u3
    obtain ⟨x, h4, r4, r5, b4, b5, b6⟩ := tr_rc u4
    simp only [List.drop_zero, List.take_succ_cons, List.take_zero, List.drop_succ_cons, List.cons.injEq, and_true] at h0 h1 h2 h3 h4
    obtain ⟨rfl, rfl, rfl, rfl, rfl⟩ := h4
    subst h0 h1 h2 h3
    have g0 := Lift.bulk_mem (List.mem_of_getElem? i0)
    have g3 := Lift.bulk_mem (List.mem_of_getElem? i3)
    have g4 := Lift.bulk_mem (List.mem_of_getElem? i4)
    refine ⟨⟨n0, n1, n2, a3, k3, l3, x.st, x.rs, x.mi, x.fa, x.fk, x.fl, x.ba_, x.bk, x.bl⟩, rfl, ⟨r3, r4, r5⟩, ⟨?_, ?_, ?_, ?_, ?_⟩⟩
    · show n0.length ≤ _; omega
    · show x.rs.length ≤ _; omega
    · show x.bl.length ≤ _; omega
    · show fsz l3 ≤ _; omega
    · show fsz x.fl ≤ _; omega
theorem tr_act {cs : List Value} {d : DataW H} (h : Lift.Tr enc W 40 cs d) : ∃ y : Act, cs = acC y ∧ (RdE [Lift.wh W] y.x ∧ Rd [Lift.wh W] y.a (fc y.l)) ∧ abk y ≤ Rows.uptoBulk d := by
  obtain ⟨gs, hl, hc, hb, hf⟩ := Lift.tr_struct rfl rfl h
  obtain ⟨y0, i0, u0⟩ := hf 0 _ _ _ _ rfl rfl
  obtain ⟨y1, i1, u1⟩ := hf 1 _ _ _ _ rfl rfl
  obtain ⟨y2, i2, u2⟩ := hf 2 _ _ _ _ rfl rfl
  obtain ⟨y3, i3, u3⟩ := hf 3 _ _ _ _ rfl rfl
  match cs, hc with
  | [c0, c1, c2, c3, c4, c5, c6, c7, c8, c9, c10, c11], _ =>
    obtain ⟨n0, h0, _⟩ := Lift.tr_int (k := .i64) rfl u0
    obtain ⟨x, h1, r1, k1⟩ := tr_et u1
    obtain ⟨n2, h2, b2⟩ := Lift.tr_str rfl u2
    obtain ⟨a3, k3, l3, h3, r3, b3⟩ := tr_fds rfl u3
    simp only [List.drop_zero, List.take_succ_cons, List.take_zero, List.drop_succ_cons, List.cons.injEq, and_true] at h0 h1 h2 h3
    obtain ⟨rfl, rfl, rfl, rfl, rfl, rfl, rfl, rfl, rfl⟩ := h1
    subst h0 h2 h3
    have g1 := Lift.bulk_mem (List.mem_of_getElem? i1)
    have g2 := Lift.bulk_mem (List.mem_of_getElem? i2)
    have g3 := Lift.bulk_mem (List.mem_of_getElem? i3)
    have e1 := ebk_le.2 (k1.mono (by omega : Rows.uptoBulk y1 ≤ Rows.uptoBulk d))
    refine ⟨⟨n0, x, n2, a3, k3, l3⟩, rfl, ⟨r1, r3⟩, ?_⟩
    unfold abk
    dsimp only
    omega
theorem tr_acts {t : TypeId} {cs : List Value} {d : DataW H} (ht : dd t = some (.sl 40)) (h : Lift.Tr enc W t cs d) (hk : Rows.uptoBulk d ≤ 1048576) :
    ∃ a c xs, cs = [.slice a (xs : List Act).length c] ∧ Rd [Lift.wh W] a ((xs.map acC).flatten) ∧ ∀ y ∈ xs, (RdE [Lift.wh W] y.x ∧ Rd [Lift.wh W] y.a (fc y.l)) ∧ EB y.x ∧ fsz y.l ≤ 268435456 := by
  obtain ⟨a, m, c, xs, h1, hn, hcc, hr, hN, hcb, hsum⟩ := Lift.tr_slice (X := Act) acC (fun y => RdE [Lift.wh W] y.x ∧ Rd [Lift.wh W] y.a (fc y.l)) abk (x := 40) ht rfl (fun cs d h => tr_act h) h
  subst hn
  refine ⟨a, c, xs, h1, hr, fun y hy => ?_⟩
  have hs : abk y ≤ (xs.map abk).sum := sum_mem hy
  have h2 : ebk y.x ≤ abk y := by unfold abk; omega
  have h3 : (fsz y.l + 2) / 3 ≤ abk y := by unfold abk; omega
  exact ⟨hN y hy, (ebk_le.1 h2).eb (by omega), by omega⟩
end
end Go.Proofs.YtfofnagocedlgaaGreatDoor.Tx
end
section
/- A STORE THAT IS NONE; slices with a body of n noughts. -/
set_option linter.unusedVariables false
set_option linter.unusedSimpArgs false
set_option maxRecDepth 100000
set_option maxHeartbeats 0
namespace Go.Proofs.YtfofnagocedlgaaGreatDoor.Tx
open Go Sh Sl
attribute [local irreducible] condK ArK NilK OpK FnK StK joinK loopK DrawK andK PuK NxK EnK vS uS bS callS invokeS
abbrev dU (url : Bs) (n : Nat) : Bs × Int × Int × List Fd × Int × Bs × Int × List Fd × Bs := (url, 0, 0, [], 200, [], 1, [], List.replicate n 0)
theorem dU_f {y : Et} {u : Bs} {n : Nat} (h : dE y = dU u n) : y.url = u ∧ y.asked = 0 ∧ y.came = 0 ∧ y.wl = [] ∧ y.fl = [] ∧ y.rs = [] ∧ y.bl = List.replicate n 0 := by
  simp only [dE, Prod.mk.injEq] at h
  exact ⟨h.1, h.2.1, h.2.2.1, h.2.2.2.1, h.2.2.2.2.2.2.2.1, h.2.2.2.2.2.1, h.2.2.2.2.2.2.2.2⟩
theorem dU_size {y : Et} {u : Bs} {n : Nat} (h : dE y = dU u n) : size y = 64 + u.length + n := by
  obtain ⟨h1, _, _, h2, h3, h4, h5⟩ := dU_f h
  unfold size
  rw [h1, h2, h3, h4, h5, List.length_replicate]; simp [fzn]
theorem dU_EB {y : Et} {u : Bs} {n : Nat} (h : dE y = dU u n) (hu : u.length ≤ 1048576) (hn : n ≤ 1048576) : EB y := by
  obtain ⟨h1, _, _, h2, h3, h4, h5⟩ := dU_f h
  refine ⟨?_, ?_, ?_, ?_, ?_⟩
  · rw [h1]; omega
  · rw [h4]; decide
  · rw [h5, List.length_replicate]; omega
  · rw [h2]; decide
  · rw [h3]; decide
section
variable {e : Env} {ctx rest J : List HProp}
abbrev np : Value := .pointer none
theorem nil_iter {K : Value → WP} {q sb : Nat} {r0 : Loop} (h : Ent e (Sl.ob (q + 1) (lp r0 .ready none) :: pt sb [np] :: J) (K (.tuple #[]))) :
    Ent e (Sl.ob (q + 1) (lp r0 .ready none) :: pt sb [np] :: J) (store_Store_all_c1 (.func (.yield (q + 1)) #[] #[]) (ptr sb) K) := by
  (refine Ent.fn store_Store_all_c1_ok ?_; unfold store_Store_all_c1_sh)
  (refine Ent.go ?_)
  exact h
theorem used_nil {K : Int → WP} (h : Ent e rest (K 0)) : Ent e rest (store_Store_Used np K) := by
  (refine Ent.fn store_Store_Used_ok ?_; unfold store_Store_Used_sh)
  (refine Ent.go ?_)
  exact h
theorem copy_nil {K : Value → WP} (h : Ent e rest (K np)) : Ent e rest (store_Store_Copy np K) := by
  (refine Ent.fn store_Store_Copy_ok ?_; unfold store_Store_Copy_sh)
  (refine Ent.go ?_)
  exact h
theorem put_nil {K : Int → WP} {v : List Value} (h : Ent e rest (K 2)) : Ent e rest (store_Store_Put np (.agg v.toArray) K) := by
  (refine Ent.fn store_Store_Put_ok ?_; unfold store_Store_Put_sh)
  refine Ent.box' fun eb => ?_
  refine Ent.join ?_
  (refine Ent.go ?_)
  exact h.drop
theorem find_nil {K : Int → Bool → WP} {url : Bs} {a : Option Addr} {m c : Nat} (h : Ent e rest (K 0 false)) : Ent e rest (store_Store_find np (ba url) (.slice a m c) K) := by
  (refine Ent.fn store_Store_find_ok ?_; unfold store_Store_find_sh)
  refine Ent.box' fun s1 => ?_
  refine Ent.box' fun u1 => ?_
  refine Ent.box' fun l1 => ?_
  refine Ent.alloc' fun bb => ?_
  refine Ent.alloc' fun ib => ?_
  (refine Ent.go ?_)
  (refine Ent.fn store_Store_all_ok ?_; unfold store_Store_all_sh)
  refine Ent.box' fun sb => ?_
  refine Ent.rf callable_all (args := fun q => [.func (.yield (q + 1)) #[] #[], ptr sb]) (fun q => rfl) fun q r0 hr => ?_
  refine Ent.imp (ctx' := Sl.ob (q + 1) (lp r0 .ready none) :: pt sb [np] :: pt bb [.int .i64 0] :: pt ib [.bool false] :: Sl.ob q (.deferred (some [])) :: rest) (by (focus ((repeat ((with_reducible apply Imp.pick); (repeat (first | exact Pick.hd | apply Pick.tl)))); (repeat (first | exact Imp.refl _ | exact Imp.nil _ | apply Imp.drop)); done))) ?_
  refine nil_iter ?_
  refine Ent.ed (st := .ready) (fun h => by cases h) (by (repeat (first | exact Upd.hd | apply Upd.tl))) ?_
  show Ent e _ (JmK _ _ _ none)
  unfold JmK
  dsimp only
  (refine Ent.go ?_)
  refine Ent.tk (by (repeat (first | exact Upd.hd | apply Upd.tl))) ?_
  refine Ent.imp ?_ h
  (focus ((repeat ((with_reducible apply Imp.pick); (repeat (first | exact Pick.hd | apply Pick.tl)))); (repeat (first | exact Imp.refl _ | exact Imp.nil _ | apply Imp.drop)); done))
theorem gone_nil {K : Int → WP} {f : Value} (hf : f.cells.toList = [f]) (h : Ent e rest (K 0)) : Ent e rest (store_Store_gone np f K) := by
  (refine Ent.fn store_Store_gone_ok ?_; unfold store_Store_gone_sh)
  refine Ent.box' fun s1 => ?_
  refine Ent.box' (l := [f]) (fun i1 => ?_) hf
  refine Ent.alloc' fun nb => ?_
  (refine Ent.go ?_)
  (refine Ent.fn store_Store_all_ok ?_; unfold store_Store_all_sh)
  refine Ent.box' fun sb => ?_
  refine Ent.rf callable_all (args := fun q => [.func (.yield (q + 1)) #[] #[], ptr sb]) (fun q => rfl) fun q r0 hr => ?_
  refine Ent.imp (ctx' := Sl.ob (q + 1) (lp r0 .ready none) :: pt sb [np] :: pt nb [.int .i64 0] :: Sl.ob q (.deferred (some [])) :: rest) (by (focus ((repeat ((with_reducible apply Imp.pick); (repeat (first | exact Pick.hd | apply Pick.tl)))); (repeat (first | exact Imp.refl _ | exact Imp.nil _ | apply Imp.drop)); done))) ?_
  refine nil_iter ?_
  refine Ent.ed (st := .ready) (fun h => by cases h) (by (repeat (first | exact Upd.hd | apply Upd.tl))) ?_
  show Ent e _ (JmK _ _ _ none)
  unfold JmK
  dsimp only
  (refine Ent.go ?_)
  refine Ent.tk (by (repeat (first | exact Upd.hd | apply Upd.tl))) ?_
  refine Ent.imp ?_ h
  (focus ((repeat ((with_reducible apply Imp.pick); (repeat (first | exact Pick.hd | apply Pick.tl)))); (repeat (first | exact Imp.refl _ | exact Imp.nil _ | apply Imp.drop)); done))
theorem drop_nil {K : Int → WP} {url : Bs} (h : Ent e rest (K 0)) : Ent e rest (store_Store_Drop np (ba url) K) := by
  (refine Ent.fn store_Store_Drop_ok ?_; unfold store_Store_Drop_sh)
  refine Ent.box' fun ub => ?_
  refine gone_nil rfl ?_
  exact h.drop
theorem look_nil {K : Value → Bool → WP} {url : Bs} {a : Option Addr} {m c : Nat} (h : Ent e rest (K (.agg (ec ez).toArray) false)) : Ent e rest (store_Store_Look np (ba url) (.slice a m c) K) := by
  (refine Ent.fn store_Store_Look_ok ?_; unfold store_Store_Look_sh)
  refine Ent.alloc' fun tb => ?_
  refine find_nil ?_
  refine Ent.wT ?_
  (refine Ent.go ?_)
  refine Ent.wrA ?_
  refine Ent.imp ?_ h
  (focus ((repeat ((with_reducible apply Imp.pick); (repeat (first | exact Pick.hd | apply Pick.tl)))); (repeat (first | exact Imp.refl _ | exact Imp.nil _ | apply Imp.drop)); done))
theorem get_nil {K : Value → Bool → WP} {url : Bs} {a : Option Addr} {m c : Nat} (h : Ent e rest (K (.agg (ec ez).toArray) false)) : Ent e rest (store_Store_Get np (ba url) (.slice a m c) K) := by
  (refine Ent.fn store_Store_Get_ok ?_; unfold store_Store_Get_sh)
  refine Ent.alloc' fun tb => ?_
  refine find_nil ?_
  refine Ent.wT ?_
  (refine Ent.go ?_)
  refine Ent.wrA ?_
  refine Ent.imp ?_ h
  (focus ((repeat ((with_reducible apply Imp.pick); (repeat (first | exact Pick.hd | apply Pick.tl)))); (repeat (first | exact Imp.refl _ | exact Imp.nil _ | apply Imp.drop)); done))
theorem entries_nil {K : Value → WP} (h : Ent e rest (K (.slice none 0 0))) : Ent e rest (store_Store_Entries np K) := by
  (refine Ent.fn store_Store_Entries_ok ?_; unfold store_Store_Entries_sh)
  refine Ent.alloc' fun lc => ?_
  (refine Ent.fn store_Store_all_ok ?_; unfold store_Store_all_sh)
  refine Ent.box' fun sb => ?_
  refine Ent.rf callable_all (args := fun q => [.func (.yield (q + 1)) #[] #[], ptr sb]) (fun q => rfl) fun q r0 hr => ?_
  refine Ent.imp (ctx' := Sl.ob (q + 1) (lp r0 .ready none) :: pt sb [np] :: pt lc [.slice none 0 0] :: Sl.ob q (.deferred (some [])) :: rest) (by (focus ((repeat ((with_reducible apply Imp.pick); (repeat (first | exact Pick.hd | apply Pick.tl)))); (repeat (first | exact Imp.refl _ | exact Imp.nil _ | apply Imp.drop)); done))) ?_
  refine nil_iter ?_
  refine Ent.ed (st := .ready) (fun h => by cases h) (by (repeat (first | exact Upd.hd | apply Upd.tl))) ?_
  show Ent e _ (JmK _ _ _ none)
  unfold JmK
  dsimp only
  (refine Ent.go ?_)
  refine Ent.tk (by (repeat (first | exact Upd.hd | apply Upd.tl))) ?_
  refine Ent.imp ?_ h
  (focus ((repeat ((with_reducible apply Imp.pick); (repeat (first | exact Pick.hd | apply Pick.tl)))); (repeat (first | exact Imp.refl _ | exact Imp.nil _ | apply Imp.drop)); done))
end
end Go.Proofs.YtfofnagocedlgaaGreatDoor.Tx
end
section
/- WHAT StoreKnown's STORE HOLDS, step by step: plain facts of X, tr, kp. -/
set_option linter.unusedVariables false
set_option linter.unusedSimpArgs false
set_option maxRecDepth 100000
set_option maxHeartbeats 0
namespace Go.Proofs.YtfofnagocedlgaaGreatDoor.Tx
open Go Sh Sl
attribute [local irreducible] condK ArK NilK OpK FnK StK joinK loopK DrawK andK PuK NxK EnK vS uS bS callS invokeS
theorem gX_map {pd : Et → Bool} {X : List (Option Et)} {k : Nat} (h : X.length ≤ k) : gX pd X k = X.map (gq pd) := by
  unfold gX
  rw [List.take_of_length_le h, List.drop_eq_nil_of_le h, List.append_nil]
theorem map_nn {pd : Et → Bool} {k : Nat} : (nn k).map (gq pd) = nn k := by simp [nn, gq]
theorem fdS_no {url : Bs} {l : List Fd} {X : List (Option Et)} {best : Option Nat} {k : Nat} {x : Et} (h : X[k]? = some (some x)) (hx : (decide (x.url = url) && forE x l) = false) : fdS url l X best k = best := by
  unfold fdS
  rw [h]
  have e : (decide (x.url = url) && (forE x l && better X best x)) = false := by rw [← Bool.and_assoc, hx, Bool.false_and]
  simp only [Option.join_some]
  exact if_neg (by rw [e]; decide)
theorem fdS_yes {url : Bs} {l : List Fd} {X : List (Option Et)} {k : Nat} {x : Et} (h : X[k]? = some (some x)) (hx : (decide (x.url = url) && forE x l) = true) : fdS url l X none k = some k := by
  unfold fdS
  rw [h]
  have e : (decide (x.url = url) && (forE x l && better X none x)) = true := by rw [← Bool.and_assoc, hx]; rfl
  simp only [Option.join_some]
  exact if_pos e
theorem fdk_first {url : Bs} {l : List Fd} {x y : Et} (hx : (decide (x.url = url) && forE x l) = true) (hy : (decide (y.url = url) && forE y l) = false) : fdk url l (some x :: some y :: nn 62) 64 = some 0 := by
  have hjoin : ∀ j, 2 ≤ j → (((some x :: some y :: nn 62 : List (Option Et)))[j]?).join = none := fun j hj => by
    obtain ⟨j', rfl⟩ : ∃ j', j = j' + 2 := ⟨j - 2, by omega⟩
    simpa using (nn_at (k := 62) (j := j'))
  rw [fdk_more (k0 := 2) hjoin 62]
  show fdS url l _ (fdS url l _ none 0) 1 = some 0
  rw [fdS_yes (x := x) rfl hx, fdS_no (x := y) rfl hy]
theorem fdk_two {url : Bs} {l : List Fd} {x y : Et} (hx : (decide (x.url = url) && forE x l) = false) (hy : (decide (y.url = url) && forE y l) = false) : fdk url l (some x :: some y :: nn 62) 64 = none := by
  have hjoin : ∀ j, 2 ≤ j → (((some x :: some y :: nn 62 : List (Option Et)))[j]?).join = none := fun j hj => by
    obtain ⟨j', rfl⟩ : ∃ j', j = j' + 2 := ⟨j - 2, by omega⟩
    simpa using (nn_at (k := 62) (j := j'))
  rw [fdk_more (k0 := 2) hjoin 62]
  show fdS url l _ (fdS url l _ none 0) 1 = none
  rw [fdS_no (x := y) rfl hy, fdS_no (x := x) rfl hx]
theorem fdk_one {url : Bs} {l : List Fd} {x : Et} (hx : (decide (x.url = url) && forE x l) = false) : fdk url l (some x :: nn 63) 64 = none := by
  have hjoin : ∀ j, 1 ≤ j → (((some x :: nn 63 : List (Option Et)))[j]?).join = none := fun j hj => by
    obtain ⟨j', rfl⟩ : ∃ j', j = j' + 1 := ⟨j - 1, by omega⟩
    simpa using (nn_at (k := 63) (j := j'))
  rw [fdk_more (k0 := 1) hjoin 63]
  show fdS url l _ none 0 = none
  rw [fdS_no (x := x) rfl hx]
theorem gone_two {x y z : Et} (hy : pdP x y = false) (hz : pdP x z = true) : gone3 (pdP x) ⟨some y :: some z :: nn 62, [0, 1], []⟩ = ⟨some y :: nn 63, [0], []⟩ := by
  unfold gone3
  rw [gX_map (by simp [nn])]
  have e1 : gL (pdP x) (some y :: some z :: nn 62) 64 [0, 1] = [0] := by
    simp [gL, gA, qo, hy, hz]
  have e2 : gL (pdP x) (some y :: some z :: nn 62) 64 [] = [] := rfl
  dsimp only
  rw [e1, e2, List.map_cons, List.map_cons, map_nn]
  simp only [gq, hy, hz]
  rfl
theorem filt_nn {f : Option Et → Bool} (h : f none = false) {k : Nat} : (nn k).filter f = [] := by
  refine List.filter_eq_nil_iff.2 fun o ho => ?_
  rw [List.eq_of_mem_replicate ho, h]; decide
theorem gN_one {pd : Et → Bool} {y : Et} (h : pd y = true) : gN pd (some y :: nn 63) 64 = 1 := by
  unfold gN
  rw [List.take_of_length_le (by simp [nn]), List.filter_cons_of_pos (show qo pd (some y) = true from h), filt_nn rfl]; rfl
theorem gN_nn {pd : Et → Bool} : gN pd (nn 64) 64 = 0 := by
  unfold gN
  rw [List.take_of_length_le (by simp [nn]), filt_nn rfl]; rfl
theorem gX_one {pd : Et → Bool} {y : Et} (h : pd y = true) : gX pd (some y :: nn 63) 64 = nn 64 := by
  rw [gX_map (by simp [nn]), List.map_cons, map_nn]
  simp only [gq, h]
  rfl
theorem gX_nn {pd : Et → Bool} : gX pd (nn 64) 64 = nn 64 := by rw [gX_map (by simp [nn]), map_nn]
theorem gL_one {pd : Et → Bool} {y : Et} (h : pd y = true) : gL pd (some y :: nn 63) 64 [0] = [] := by simp [gL, gA, qo, h]
end Go.Proofs.YtfofnagocedlgaaGreatDoor.Tx
end
