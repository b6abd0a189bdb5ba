/-
  THE STORE (layer 21): all entries.
-/
import Derived.Test.YtfofnagocedlgaaGreatDoorSh2
set_option maxRecDepth 100000
set_option linter.unusedVariables false
set_option linter.unusedSectionVars false
set_option linter.unusedSimpArgs false
set_option maxHeartbeats 0
namespace Go.Proofs.YtfofnagocedlgaaGreatDoor.Tx
open Go Sh Sl
open Go.RowKit
attribute [local irreducible] condK ArK NilK OpK FnK StK joinK loopK DrawK andK PuK NxK EnK vS uS bS callS invokeS
def ents (X : List (Option Et)) : List Et := X.filterMap id
theorem ents_take {X : List (Option Et)} {k : Nat} {o : Option Et} (h : X[k]? = some o) : ents (X.take (k + 1)) = ents (X.take k) ++ (match o with | some x => [x] | none => []) := by
  unfold ents
  rw [take_snoc h, List.filterMap_append]
  cases o <;> rfl
theorem ents_len {X : List (Option Et)} {k : Nat} (h : X.length = 64) : (ents (X.take k)).length ≤ 64 := by
  unfold ents
  refine Nat.le_trans (List.length_filterMap_le _ _) ?_
  simp; omega
theorem EB.of {x y : Et} (h : dE y = dE x) (hb : EB x) : EB y := by
  obtain ⟨h1, _, _, h4, h5⟩ := dE_iff.1 h
  have h6 := (Prod.mk.inj h5).2
  have h7 := (Prod.mk.inj h6).1
  have h8 := (Prod.mk.inj (Prod.mk.inj (Prod.mk.inj h6).2).2)
  exact ⟨h1 ▸ hb.u, h7 ▸ hb.r, h8.2 ▸ hb.b, h4 ▸ hb.w, h8.1 ▸ hb.f⟩
theorem SOk.mono {M M' : Hp} {X : List (Option Et)} {tr kp : List Int} {bytes most : Nat} (h : SOk M X tr kp bytes most) (hl : Hp.le M M') : SOk M' X tr kp bytes most :=
  { h with rd := fun x hx => ⟨(h.rd x hx).1.mono hl, (h.rd x hx).2⟩ }
/-- the cells of entries -/
def ecs (ys : List Et) : List Value := (ys.map fun y => ec y).flatten
@[simp] theorem ecs_len (ys : List Et) : (ecs ys).length = ys.length * 9 := flat_len (fun y => ec y) 9 (fun _ => rfl) ys
theorem ecs_app (a b : List Et) : ecs (a ++ b) = ecs a ++ ecs b := by simp [ecs]
section
variable {e : Env} {ctx ctx' rest R : List HProp} {M : Hp} {b : Nat} {X : List (Option Et)} {tr kp : List Int} {bytes most n : Nat}
theorem SRep.mono {M' : Hp} (hl : Hp.le M M') : Imp (SRep M b X tr kp bytes most n :: rest) (SRep M' b X tr kp bytes most n :: rest) := fun _ k =>
  sepL_cons (fun _ ⟨lb, hh⟩ => ⟨lb, sepL_cons (fun _ (hk : SOk M X tr kp bytes most) => hk.mono hl) (fun _ z => z) hh⟩) (fun _ z => z) k
theorem keepE {y : Et} {c : WP} (h : ∀ M', Hp.le M M' → RdEM M' y → Ent e (Sl.ro M' :: ctx) c) : Ent e (OwnE y (Sl.ro M :: ctx)) c := by
  refine Ent.imp (ctx' := SlO y.wa y.wl.length y.wc 2 (fc y.wl) :: Sl.ro M :: SlO y.fa y.fl.length y.fk 2 (fc y.fl) :: SlO y.ba_ y.bl.length y.bk 1 (u8 y.bl) :: ctx) (by (focus ((repeat ((with_reducible apply Imp.pick); (repeat (first | exact Pick.hd | apply Pick.tl)))); (repeat (first | exact Imp.refl _ | exact Imp.nil _ | apply Imp.drop)); done))) ?_
  refine Ent.keepS fun M1 l1 r1 _ _ _ => ?_
  refine Ent.imp (ctx' := SlO y.fa y.fl.length y.fk 2 (fc y.fl) :: Sl.ro M1 :: SlO y.ba_ y.bl.length y.bk 1 (u8 y.bl) :: ctx) (by (focus ((repeat ((with_reducible apply Imp.pick); (repeat (first | exact Pick.hd | apply Pick.tl)))); (repeat (first | exact Imp.refl _ | exact Imp.nil _ | apply Imp.drop)); done))) ?_
  refine Ent.keepS fun M2 l2 r2 _ _ _ => ?_
  refine Ent.imp (ctx' := SlO y.ba_ y.bl.length y.bk 1 (u8 y.bl) :: Sl.ro M2 :: ctx) (by (focus ((repeat ((with_reducible apply Imp.pick); (repeat (first | exact Pick.hd | apply Pick.tl)))); (repeat (first | exact Imp.refl _ | exact Imp.nil _ | apply Imp.drop)); done))) ?_
  refine Ent.keepS fun M3 l3 r3 _ _ _ => ?_
  exact h M3 (Hp.le_trans l1 (Hp.le_trans l2 l3)) ⟨r1.mono (Hp.le_trans l2 l3), r2.mono l3, r3⟩
theorem entries_spec {K : Value → WP} (h : ∀ M' ys a c, Hp.le M M' → ys.map dE = (ents X).map dE → (∀ y ∈ ys, RdEM M' y ∧ EB y) → Ent e (SlO a ys.length c 9 (ecs ys) :: SRep M' b X tr kp bytes most n :: Sl.ro M' :: rest) (K (.slice a ys.length c))) :
    Ent e (SRep M b X tr kp bytes most n :: Sl.ro M :: rest) (store_Store_Entries (ptr b) K) := by
  (refine Ent.fn store_Store_Entries_ok ?_; unfold store_Store_Entries_sh)
  refine Ent.alloc' fun lc => ?_
  refine Ent.bring (A := SRep M b X tr kp bytes most n) ?_
  refine SRep.open fun lb hk => ?_
  have hX := hk.len
  (refine Ent.fn store_Store_all_ok ?_; unfold store_Store_all_sh)
  refine Ent.box' fun sb => ?_
  refine Ent.rf callable_all (args := fun q => [.func (.yield (q + 1)) #[] #[], ptr sb]) (fun q => rfl) fun q r0 hr => ?_
  refine Ent.imp (ctx' := Sl.ob (q + 1) (lp r0 .ready none) :: pt sb [ptr b] :: pt lc [.slice none 0 0] :: pt b (SC X lb bytes most (used X)) :: Sl.ro M :: Lr.LRep lb tr kp (most * 2 / 3) n :: Sl.ob q (.deferred (some [])) :: rest) (by (focus ((repeat ((with_reducible apply Imp.pick); (repeat (first | exact Pick.hd | apply Pick.tl)))); (repeat (first | exact Imp.refl _ | exact Imp.nil _ | apply Imp.drop)); done))) ?_
  refine all_iter hX _ (fun k => exs (fun (y : Hp × List Et × Option Addr × Nat) => sepL [pur (Hp.le M y.1 ∧ y.2.1.map dE = (ents (X.take k)).map dE ∧ (∀ z ∈ y.2.1, RdEM y.1 z ∧ EB z)), pt lc [.slice y.2.2.1 y.2.1.length y.2.2.2], SlO y.2.2.1 y.2.1.length y.2.2.2 9 (ecs y.2.1), Sl.ro y.1]) :: pt b (SC X lb bytes most (used X)) :: Lr.LRep lb tr kp (most * 2 / 3) n :: Sl.ob q (.deferred (some [])) :: rest) (.tl .hd) ?_ (fun k x cc hx hk64 hnext => ?_) (fun k hkn => ?_) ?_
  · refine Imp.exs (M, [], none, 0) (Imp.g4 (Imp.pur ⟨Hp.le_refl _, by simp [ents], fun z hz => by cases hz⟩ ?_))
    refine Imp.trans (Imp.slN (sz := 9) (Imp.refl _)) ?_
    show Imp _ (pt lc [.slice none 0 0] :: SlO none 0 0 9 [] :: Sl.ro M :: _)
    (focus ((repeat ((with_reducible apply Imp.pick); (repeat (first | exact Pick.hd | apply Pick.tl)))); (repeat (first | exact Imp.refl _ | exact Imp.nil _ | apply Imp.drop)); done))
  · obtain ⟨hrx, hbx⟩ := hk.rd x (List.mem_of_getElem? hx)
    have hel := ents_len (k := k) hX
    refine Ent.imp (Imp.perm (.swap _ _ _)) ?_
    refine Ent.exs fun ⟨M1, ys, a, c⟩ => Ent.g4 (Ent.pur fun ⟨f1, f2, f3⟩ => ?_)
    dsimp only at f1 f2 f3
    dsimp only
    have hyl : ys.length ≤ 64 := by have := congrArg List.length f2; simp at this; omega
    refine Ent.imp (ctx' := Sl.ob (q + 1) (lp r0 .ready none) :: pt lc [.slice a ys.length c] :: SlO a ys.length c 9 (ecs ys) :: Sl.ro M1 :: pt b (SC X lb bytes most (used X)) :: Lr.LRep lb tr kp (most * 2 / 3) n :: Sl.ob q (.deferred (some [])) :: rest) (by (focus ((repeat ((with_reducible apply Imp.pick); (repeat (first | exact Pick.hd | apply Pick.tl)))); (repeat (first | exact Imp.refl _ | exact Imp.nil _ | apply Imp.drop)); done))) ?_
    refine Ent.yield hr (by (repeat (first | exact Has.hd | apply Has.tl))) ?_
    show Ent e _ (oR _ _)
    refine Ent.alloc' fun eb => ?_
    (refine Ent.go ?_)
    refine Ent.bg (by (repeat (first | exact Upd.hd | apply Upd.tl))) ?_
    refine Ent.draw [pt lc [.slice a ys.length c], pt eb (ec x)] (by (focus ((repeat ((with_reducible apply Imp.pick); (repeat (first | exact Pick.hd | apply Pick.tl)))); (repeat (first | exact Imp.refl _ | exact Imp.nil _ | apply Imp.drop)); done))) ?_
    (refine Ent.go ?_)
    refine Ent.stR (v := .agg (ec x).toArray) (st_loadA (n := 9) (.tl .hd) rfl rfl rfl) ?_
    refine copied_spec ((hrx.mono f1).rd (by (repeat (first | exact Has.hd | apply Has.tl)))) hbx fun y hy => ?_
    refine Ent.wand ?_
    refine Ent.imp (ctx' := OwnE y (Sl.ro M1 :: pt eb (ec x) :: Sl.ob (q + 1) (lp r0 .busy none) :: pt lc [.slice a ys.length c] :: SlO a ys.length c 9 (ecs ys) :: pt b (SC X lb bytes most (used X)) :: Lr.LRep lb tr kp (most * 2 / 3) n :: Sl.ob q (.deferred (some [])) :: rest)) (by (focus ((repeat ((with_reducible apply Imp.pick); (repeat (first | exact Pick.hd | apply Pick.tl)))); (repeat (first | exact Imp.refl _ | exact Imp.nil _ | apply Imp.drop)); done))) ?_
    refine keepE fun M2 hl2 hry => ?_
    refine Ent.app1a (sz := 9) (cs := ec y) (by (focus ((repeat ((with_reducible apply Imp.pick); (repeat (first | exact Pick.hd | apply Pick.tl)))); (repeat (first | exact Imp.refl _ | exact Imp.nil _ | apply Imp.drop)); done))) (fun a2 c2 => ?_)
    (refine Ent.go ?_)
    refine Ent.dn (by (repeat (first | exact Upd.hd | apply Upd.tl))) ?_
    refine Ent.imp ?_ hnext
    refine Imp.trans ?_ (Imp.perm (.swap _ _ _))
    refine Imp.exs (M2, ys ++ [y], a2, c2) (Imp.g4 (Imp.pur ⟨Hp.le_trans f1 hl2, ?_, fun z hz => ?_⟩ ?_))
    · rw [ents_take hx]
      simp [f2, hy]
    · rcases List.mem_append.1 hz with hz | hz
      · exact ⟨(f3 z hz).1.mono hl2, (f3 z hz).2⟩
      · rw [List.mem_singleton.1 hz]; exact ⟨hry, EB.of hy hbx⟩
    · have e1 : (ys ++ [y]).length = ys.length + 1 := by simp
      have e2 : ecs (ys ++ [y]) = ecs ys ++ ec y := by rw [ecs_app]; simp [ecs]
      rw [e1, e2]
      (focus ((repeat ((with_reducible apply Imp.pick); (repeat (first | exact Pick.hd | apply Pick.tl)))); (repeat (first | exact Imp.refl _ | exact Imp.nil _ | apply Imp.drop)); done))
  · rw [ents_take hkn, List.append_nil]
    exact Imp.refl _
  · refine Ent.imp (Imp.perm (.swap _ _ _)) ?_
    refine Ent.exs fun ⟨M1, ys, a, c⟩ => Ent.g4 (Ent.pur fun ⟨f1, f2, f3⟩ => ?_)
    dsimp only at f1 f2 f3
    dsimp only
    rw [List.take_of_length_le (by omega)] at f2
    refine Ent.ed (st := .ready) (fun h => by cases h) (by (repeat (first | exact Upd.hd | apply Upd.tl))) ?_
    show Ent e _ (JmK _ _ _ none)
    unfold JmK
    dsimp only
    (refine Ent.go ?_)
    refine Ent.tk (by (repeat (first | exact Upd.hd | apply Upd.tl))) ?_
    refine Ent.imp ?_ (h M1 ys a c f1 f2 f3)
    refine Imp.trans (b := pt b (SC X lb bytes most (used X)) :: Lr.LRep lb tr kp (most * 2 / 3) n :: SlO a ys.length c 9 (ecs ys) :: Sl.ro M1 :: rest) (by (focus ((repeat ((with_reducible apply Imp.pick); (repeat (first | exact Pick.hd | apply Pick.tl)))); (repeat (first | exact Imp.refl _ | exact Imp.nil _ | apply Imp.drop)); done))) ?_
    refine (SRep.shut (lb := lb) (hk.mono f1)).trans ?_
    (focus ((repeat ((with_reducible apply Imp.pick); (repeat (first | exact Pick.hd | apply Pick.tl)))); (repeat (first | exact Imp.refl _ | exact Imp.nil _ | apply Imp.drop)); done))
end
end Go.Proofs.YtfofnagocedlgaaGreatDoor.Tx
