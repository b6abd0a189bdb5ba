/-
  THE STORE (layer 21): the awake test.
-/
import Derived.Test.YtfofnagocedlgaaGreatDoorSq
set_option maxRecDepth 100000
set_option linter.unusedVariables false
set_option linter.unusedSectionVars false
set_option linter.unusedSimpArgs false
set_option maxHeartbeats 0
namespace Go.Proofs.YtfofnagocedlgaaGreatDoor.Tx
open Go Sh Sl
open Go.RowKit
attribute [local irreducible] condK ArK NilK OpK FnK StK joinK loopK DrawK andK PuK NxK EnK vS uS bS callS invokeS
theorem gX_none {pd : Et → Bool} {X : List (Option Et)} (h : ∀ x, some x ∈ X → pd x = false) : ∀ k, gX pd X k = X
  | 0 => gX_0
  | k + 1 => by
    cases ho : X[k]? with
    | none =>
      have hl : X.length ≤ k := by rcases Nat.lt_or_ge k X.length with h1 | h1; (rw [List.getElem?_eq_getElem h1] at ho; cases ho); exact h1
      have ih := gX_none h k
      unfold gX at ih ⊢
      rw [List.take_of_length_le (by omega), List.drop_eq_nil_of_le (by omega)] at ih ⊢
      exact ih
    | some o =>
      rw [gX_same ho ?_]
      · exact gX_none h k
      · cases o with
        | none => rfl
        | some x => simp [gq, h x (List.mem_of_getElem? ho)]
theorem gL_none {pd : Et → Bool} {X : List (Option Et)} {k : Nat} {l : List Int} (h : ∀ x, some x ∈ X → pd x = false) : gL pd X k l = l := by
  unfold gL
  refine List.filter_eq_self.2 fun y _ => ?_
  unfold gA
  have : qo pd (X[y.toNat]?).join = false := by
    cases ho : (X[y.toNat]?).join with
    | none => rfl
    | some x =>
      rw [Option.join_eq_some_iff] at ho
      exact h x (List.mem_of_getElem? ho)
  rw [this]; simp
theorem gone_none {pd : Et → Bool} {s : St3} (h : ∀ x, some x ∈ s.X → pd x = false) : gone3 pd s = s := by
  unfold gone3
  rw [gX_none h, gL_none h, gL_none h]
theorem fdk_more {url : Bs} {l : List Fd} {X : List (Option Et)} {k0 : Nat} (h : ∀ j, k0 ≤ j → (X[j]?).join = none) : ∀ d, fdk url l X (k0 + d) = fdk url l X k0
  | 0 => rfl
  | d + 1 => by
    show fdS url l X (fdk url l X (k0 + d)) (k0 + d) = _
    unfold fdS
    rw [h _ (by omega)]
    exact fdk_more h d
abbrev nn (k : Nat) : List (Option Et) := List.replicate k none
theorem nn_at {k j : Nat} : ((nn k)[j]?).join = none := by
  cases h : (nn k)[j]? with
  | none => rfl
  | some o => rw [List.eq_of_mem_replicate (List.mem_of_getElem? h)]; rfl
theorem used_1 {y : Et} {k : Nat} : used (some y :: nn k) = size y := by simp [used, nn]
theorem used_2 {y z : Et} {k : Nat} : used (some y :: some z :: nn k) = size y + size z := by simp [used, nn]
abbrev dA (u : UInt8) : Bs × Int × Int × List Fd × Int × Bs × Int × List Fd × Bs := ([u], 0, 0, [], 200, [], 1, [], List.replicate 35 0)
theorem dA_f {y : Et} {u : UInt8} (h : dE y = dA u) : y.url = [u] ∧ y.asked = 0 ∧ y.came = 0 ∧ y.wl = [] ∧ y.fl = [] ∧ y.rs = [] ∧ y.bl = List.replicate 35 0 := by
  simp only [dE, Prod.mk.injEq] at h
  exact ⟨h.1, h.2.1, h.2.2.1, h.2.2.2.1, h.2.2.2.2.2.2.2.1, h.2.2.2.2.2.1, h.2.2.2.2.2.2.2.2⟩
theorem dA_size {y : Et} {u : UInt8} (h : dE y = dA u) : size y = 100 := by
  obtain ⟨h1, _, _, h2, h3, h4, h5⟩ := dA_f h
  unfold size
  rw [h1, h2, h3, h4, h5]; rfl
theorem dA_EB {y : Et} {u : UInt8} (h : dE y = dA u) : EB y := by
  obtain ⟨h1, _, _, h2, h3, h4, h5⟩ := dA_f h
  refine ⟨?_, ?_, ?_, ?_, ?_⟩
  · rw [h1]; exact (by decide : 1 ≤ 268435456)
  · rw [h4]; decide
  · rw [h5]; decide
  · rw [h2]; decide
  · rw [h3]; decide
theorem dA_for {y : Et} {u : UInt8} (h : dE y = dA u) : forE y [] = true := by
  obtain ⟨h1, _, _, h2, h3, h4, h5⟩ := dA_f h
  unfold forE
  rw [h2, h3]
  rfl
section
variable {e : Env} {ctx ctx' rest R : List HProp} {M : Hp}
theorem OwnE.rd {y : Et} {p : WP} (h : (∀ ctx', Has ctx' (SlO y.wa y.wl.length y.wc 2 (fc y.wl)) → Has ctx' (SlO y.fa y.fl.length y.fk 2 (fc y.fl)) → Has ctx' (SlO y.ba_ y.bl.length y.bk 1 (u8 y.bl)) → RdE ctx' y) → Ent e (OwnE y rest) p) : Ent e (OwnE y rest) p := by
  refine Ent.rdS fun r1 _ => ?_
  refine Ent.imp (ctx' := SlO y.fa y.fl.length y.fk 2 (fc y.fl) :: SlO y.wa y.wl.length y.wc 2 (fc y.wl) :: SlO y.ba_ y.bl.length y.bk 1 (u8 y.bl) :: rest) (by (focus ((repeat ((with_reducible apply Imp.pick); (repeat (first | exact Pick.hd | apply Pick.tl)))); (repeat (first | exact Imp.refl _ | exact Imp.nil _ | apply Imp.drop)); done))) ?_
  refine Ent.rdS fun r2 _ => ?_
  refine Ent.imp (ctx' := SlO y.ba_ y.bl.length y.bk 1 (u8 y.bl) :: SlO y.wa y.wl.length y.wc 2 (fc y.wl) :: SlO y.fa y.fl.length y.fk 2 (fc y.fl) :: rest) (by (focus ((repeat ((with_reducible apply Imp.pick); (repeat (first | exact Pick.hd | apply Pick.tl)))); (repeat (first | exact Imp.refl _ | exact Imp.nil _ | apply Imp.drop)); done))) ?_
  refine Ent.rdS fun r3 _ => ?_
  refine Ent.imp ?_ (h fun ctx' h1 h2 h3 => ⟨r1 _ h1, r2 _ h2, r3 _ h3⟩)
  (focus ((repeat ((with_reducible apply Imp.pick); (repeat (first | exact Pick.hd | apply Pick.tl)))); (repeat (first | exact Imp.refl _ | exact Imp.nil _ | apply Imp.drop)); done))
theorem put_own {K : Int → WP} {b : Nat} {X : List (Option Et)} {tr kp : List Int} {bytes most n : Nat} {x : Et} (hb : EB x) (hn : n < 4503599627370496) (hs : size x ≤ bytes) (hm : 0 < most) (hg : ∀ z, some z ∈ X → pdP x z = false)
    (h0 : ∀ M' y, Hp.le M M' → dE y = dE x → ∀ s2, s2 = evS most bytes (size x) 65 ⟨X, tr, kp⟩ → 
      Ent e (SRep M' b (s2.X.set (free s2.X) (some y)) ((free s2.X : Int) :: s2.tr) s2.kp bytes most (n + 1) :: Sl.ro M' :: rest) (K 0)) :
    Ent e (OwnE x (SRep M b X tr kp bytes most n :: Sl.ro M :: rest)) (store_Store_Put (ptr b) (.agg (ec x).toArray) K) := by
  refine OwnE.rd fun hr => ?_
  refine Ent.imp (ctx' := SRep M b X tr kp bytes most n :: Sl.ro M :: OwnE x rest) (by (focus ((repeat ((with_reducible apply Imp.pick); (repeat (first | exact Pick.hd | apply Pick.tl)))); (repeat (first | exact Imp.refl _ | exact Imp.nil _ | apply Imp.drop)); done))) ?_
  have e0 : gone3 (pdP x) ⟨X, tr, kp⟩ = ⟨X, tr, kp⟩ := gone_none hg
  refine put_spec (hr _ .hd (.tl .hd) (.tl (.tl .hd))) hb hn (fun hh => by omega) fun M' y hl hy _ _ _ s2 hs2 _ => ?_
  rw [e0] at hs2
  refine Ent.imp ?_ (h0 M' y hl hy s2 hs2)
  (focus ((repeat ((with_reducible apply Imp.pick); (repeat (first | exact Pick.hd | apply Pick.tl)))); (repeat (first | exact Imp.refl _ | exact Imp.nil _ | apply Imp.drop)); done))
theorem nn_mem {k : Nat} {z : Et} (h : some z ∈ nn k) : False := by have := List.eq_of_mem_replicate h; cases this
theorem pd_ne {x z : Et} (h : z.url ≠ x.url) : pdP x z = false := by unfold pdP; rw [decide_eq_false h]; rfl
theorem awake_spec {K : Bool → WP} (h : ∀ M', Hp.le M M' → Ent e (Sl.ro M' :: rest) (K true)) : Ent e (Sl.ro M :: rest) (law21_awake K) := by
  (refine Ent.fn law21_awake_ok ?_; unfold law21_awake_sh)
  refine snew_spec (fun hh => absurd hh (by decide)) fun b bytes most hb hm _ _ => ?_
  obtain rfl : bytes = 1000 := by omega
  obtain rfl : most = 2 := by omega
  refine Ent.join ?_
  refine Ent.wF ?_
  refine e_spec (url := [97]) (n := 35) (by decide) fun x1 hx1 => ?_
  have z1 := dA_size hx1
  refine put_own (dA_EB hx1) (by decide) (by omega) (by decide) (fun z hz => (nn_mem hz).elim) fun M1 y1 l1 hy1 s2 hs2 => ?_
  have d1 := hy1.trans hx1
  obtain rfl : s2 = ⟨nn 64, [], []⟩ := by
    rw [hs2]
    exact evS_stop (by unfold full; rw [z1]; decide)
  refine Ent.wF ?_
  refine e_spec (url := [98]) (n := 35) (by decide) fun x2 hx2 => ?_
  have z2 := dA_size hx2
  have zy1 := dA_size d1
  refine Ent.imp (ctx' := OwnE x2 (SRep M1 b (some y1 :: nn 63) [0] [] 1000 2 1 :: Sl.ro M1 :: rest)) (Imp.refl _) ?_
  refine put_own (dA_EB hx2) (by decide) (by omega) (by decide) (fun z hz => ?_) fun M2 y2 l2 hy2 s2 hs2 => ?_
  · rcases List.mem_cons.1 hz with hz | hz
    · cases hz
      refine pd_ne ?_
      rw [(dA_f d1).1, (dA_f hx2).1]; decide
    · exact (nn_mem hz).elim
  have d2 := hy2.trans hx2
  have zy2 := dA_size d2
  obtain rfl : s2 = ⟨some y1 :: nn 63, [0], []⟩ := by
    rw [hs2]
    refine evS_stop ?_
    unfold full
    rw [z2, used_1, zy1]
    rfl
  refine Ent.imp (ctx' := SRep M2 b (some y1 :: some y2 :: nn 62) [1, 0] [] 1000 2 2 :: Sl.ro M2 :: rest) (Imp.refl _) ?_
  refine Ent.wF ?_
  have u1 := (dA_f d1).1
  have u2 := (dA_f d2).1
  have hjoin : ∀ j, 2 ≤ j → (((some y1 :: some y2 :: nn 62 : List (Option Et)))[j]?).join = none := fun j hj => by
    obtain ⟨j', rfl⟩ : ∃ j', j = j' + 2 := ⟨j - 2, by omega⟩
    simpa using (nn_at (k := 62) (j := j'))
  have fa : fdk [97] [] (some y1 :: some y2 :: nn 62) 64 = some 0 := by
    rw [fdk_more (k0 := 2) hjoin 62]
    have n1 : ([98] : Bs) ≠ [97] := by decide
    simp [fdk, fdS, better, u1, u2, dA_for d1, n1]
  refine get_s_spec (url := [97]) (l := []) (by decide) rfl (by decide) (fun hh => by rw [fa] at hh; cases hh) fun i x y hi hx hy hbx => ?_
  rw [fa] at hi
  cases hi
  simp only [List.getElem?_cons_zero, Option.some.injEq] at hx
  subst hx
  have dy := hy.trans d1
  refine Ent.alloc' fun xb => ?_
  refine Ent.imp (ctx' := OwnE y (SRep M2 b (some y1 :: some y2 :: nn 62) [1] [0] 1000 2 4 :: Sl.ro M2 :: pt xb (ec ez) :: rest)) (by show Imp (pt xb (ec ez) :: _) _; (focus ((repeat ((with_reducible apply Imp.pick); (repeat (first | exact Pick.hd | apply Pick.tl)))); (repeat (first | exact Imp.refl _ | exact Imp.nil _ | apply Imp.drop)); done))) ?_
  refine Ent.wstoA (l' := ec y) ?_ (vs := ec y) (hl := rfl) (hu := by (repeat (first | exact Upd.hd | apply Upd.tl)))
  refine Ent.join ?_
  refine Ent.draw [pt xb (ec y)] (by (focus ((repeat ((with_reducible apply Imp.pick); (repeat (first | exact Pick.hd | apply Pick.tl)))); (repeat (first | exact Imp.refl _ | exact Imp.nil _ | apply Imp.drop)); done))) ?_
  refine Ent.wF ?_
  refine Ent.stR (v := .agg (ec y).toArray) (st_loadA (n := 9) (cs := ec y) .hd rfl rfl rfl) ?_
  refine e_spec (url := [97]) (n := 35) (by decide) fun z hz => ?_
  refine Ent.wand ?_
  refine OwnE.rd fun rz => ?_
  refine Ent.imp (ctx' := OwnE y (OwnE z (SRep M2 b (some y1 :: some y2 :: nn 62) [1] [0] 1000 2 4 :: Sl.ro M2 :: pt xb (ec y) :: rest))) (by (focus ((repeat ((with_reducible apply Imp.pick); (repeat (first | exact Pick.hd | apply Pick.tl)))); (repeat (first | exact Imp.refl _ | exact Imp.nil _ | apply Imp.drop)); done))) ?_
  refine OwnE.rd fun ry => ?_
  refine same_e_spec (ry _ .hd (.tl .hd) (.tl (.tl .hd))) (rz _ (.tl (.tl (.tl .hd))) (.tl (.tl (.tl (.tl .hd)))) (.tl (.tl (.tl (.tl (.tl .hd)))))) (dA_EB dy) (dA_EB hz) ?_
  rw [decide_eq_true (dy.trans hz.symm)]
  refine Ent.wF ?_
  refine Ent.imp (ctx' := SRep M2 b (some y1 :: some y2 :: nn 62) [1] [0] 1000 2 4 :: Sl.ro M2 :: pt xb (ec y) :: rest) (by (focus ((repeat ((with_reducible apply Imp.pick); (repeat (first | exact Pick.hd | apply Pick.tl)))); (repeat (first | exact Imp.refl _ | exact Imp.nil _ | apply Imp.drop)); done))) ?_
  refine used_spec ?_
  refine Ent.wand ?_
  rw [used_2, zy1, zy2]
  refine Ent.wF ?_
  refine e_spec (url := [99]) (n := 35) (by decide) fun x3 hx3 => ?_
  refine Ent.wand ?_
  have z3 := dA_size hx3
  refine put_own (dA_EB hx3) (by decide) (by omega) (by decide) (fun z hz => ?_) fun M3 y3 l3 hy3 s3 hs3 => ?_
  · rcases List.mem_cons.1 hz with hz | hz
    · cases hz
      refine pd_ne ?_
      rw [u1, (dA_f hx3).1]; decide
    · rcases List.mem_cons.1 hz with hz | hz
      · cases hz
        refine pd_ne ?_
        rw [u2, (dA_f hx3).1]; decide
      · exact (nn_mem hz).elim
  have d3 := hy3.trans hx3
  obtain rfl : s3 = ⟨some y1 :: nn 63, [], [0]⟩ := by
    rw [hs3]
    refine (evS_step ?_).trans ?_
    · unfold full
      rw [z3]
      rfl
    · refine (evS_stop (s := ⟨some y1 :: nn 63, [], [0]⟩) ?_)
      unfold full
      rw [z3, used_1, zy1]
      rfl
  refine Ent.wand ?_
  refine Ent.wF ?_
  refine Ent.imp (ctx' := SRep M3 b (some y1 :: some y3 :: nn 62) [1] [0] 1000 2 5 :: Sl.ro M3 :: rest) (by show Imp (_ :: _ :: pt xb _ :: rest) _; exact .pick .hd (.pick .hd (Imp.drop (Imp.refl _)))) ?_
  have u3 := (dA_f d3).1
  have hjoin3 : ∀ j, 2 ≤ j → (((some y1 :: some y3 :: nn 62 : List (Option Et)))[j]?).join = none := fun j hj => by
    obtain ⟨j', rfl⟩ : ∃ j', j = j' + 2 := ⟨j - 2, by omega⟩
    simpa using (nn_at (k := 62) (j := j'))
  have fa3 : fdk [97] [] (some y1 :: some y3 :: nn 62) 64 = some 0 := by
    rw [fdk_more (k0 := 2) hjoin3 62]
    have n1 : ([99] : Bs) ≠ [97] := by decide
    simp [fdk, fdS, better, u1, u3, dA_for d1, n1]
  have fb3 : fdk [98] [] (some y1 :: some y3 :: nn 62) 64 = none := by
    rw [fdk_more (k0 := 2) hjoin3 62]
    have n1 : ([99] : Bs) ≠ [98] := by decide
    have n2 : ([97] : Bs) ≠ [98] := by decide
    simp [fdk, fdS, better, u1, u3, n1, n2]
  refine look_spec (url := [97]) (l := []) rfl (by decide) (fun hh => by rw [fa3] at hh; cases hh) fun i x ya hi hx hya hbx => ?_
  refine Ent.alloc' fun yb => ?_
  refine Ent.wstoA (l' := ec ya) ?_ (vs := ec ya) (hl := rfl) (hu := by (repeat (first | exact Upd.hd | apply Upd.tl)))
  refine Ent.imp (ctx' := SRep M3 b (some y1 :: some y3 :: nn 62) [1] [0] 1000 2 5 :: Sl.ro M3 :: rest) (by (focus ((repeat ((with_reducible apply Imp.pick); (repeat (first | exact Pick.hd | apply Pick.tl)))); (repeat (first | exact Imp.refl _ | exact Imp.nil _ | apply Imp.drop)); done))) ?_
  refine look_spec (url := [98]) (l := []) rfl (by decide) (fun _ => ?_) fun i x ya hi hx hya hbx => by rw [fb3] at hi; cases hi
  refine Ent.alloc' fun yb => ?_
  refine Ent.wstoA (l' := ec ez) ?_ (vs := ec ez) (hl := rfl) (hu := by (repeat (first | exact Upd.hd | apply Upd.tl)))
  refine Ent.wT ?_
  refine Ent.wT ?_
  refine Ent.imp (ctx' := SRep M3 b (some y1 :: some y3 :: nn 62) [1] [0] 1000 2 5 :: Sl.ro M3 :: rest) (by (focus ((repeat ((with_reducible apply Imp.pick); (repeat (first | exact Pick.hd | apply Pick.tl)))); (repeat (first | exact Imp.refl _ | exact Imp.nil _ | apply Imp.drop)); done))) ?_
  refine entries_spec fun M4 ys a c l4 hys _ => ?_
  have hl2 : ys.length = 2 := by
    have := congrArg List.length hys
    simpa [ents, nn] using this
  refine Ent.wlen ?_
  rw [hl2]
  refine Ent.imp (ctx' := Sl.ro M4 :: rest) (by (focus ((repeat ((with_reducible apply Imp.pick); (repeat (first | exact Pick.hd | apply Pick.tl)))); (repeat (first | exact Imp.refl _ | exact Imp.nil _ | apply Imp.drop)); done))) ?_
  exact h M4 fun i o hi => l4 i o (l3 i o (l2 i o (l1 i o hi)))
end
end Go.Proofs.YtfofnagocedlgaaGreatDoor.Tx
