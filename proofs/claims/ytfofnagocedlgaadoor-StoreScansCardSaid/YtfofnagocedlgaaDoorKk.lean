/- The texts Sw Sy Px Sy2, laid together. -/
import Derived.Test.YtfofnagocedlgaaDoorKf
import Derived.Test.YtfofnagocedlgaaDoorKj
section
/-
  THE STORE (layer 21): the awake test.
-/
set_option maxRecDepth 100000
set_option linter.unusedVariables false
set_option linter.unusedSectionVars false
set_option linter.unusedSimpArgs false
set_option maxHeartbeats 0
namespace Go.Proofs.YtfofnagocedlgaaDoor.Tx
open Go Sh Sl
open Go.RowKit
attribute [local irreducible] condK ArK NilK OpK FnK StK joinK loopK DrawK andK PuK NxK EnK vS uS bS callS invokeS
theorem gX_none {pd : Et → Bool} {X : List (Option Et)} (h : ∀ x, some x ∈ X → pd x = false) : ∀ k, gX pd X k = X
  | 0 => gX_0
  | k + 1 => by
    cases ho : X[k]? with
    | none =>
      have hl : X.length ≤ k := by rcases Nat.lt_or_ge k X.length with h1 | h1; (rw [List.getElem?_eq_getElem h1] at ho; cases ho); exact h1
      have ih := gX_none h k
      unfold gX at ih ⊢
      rw [List.take_of_length_le (by omega), List.drop_eq_nil_of_le (by omega)] at ih ⊢
      exact ih
    | some o =>
      rw [gX_same ho ?_]
      · exact gX_none h k
      · cases o with
        | none => rfl
        | some x => simp [gq, h x (List.mem_of_getElem? ho)]
theorem gL_none {pd : Et → Bool} {X : List (Option Et)} {k : Nat} {l : List Int} (h : ∀ x, some x ∈ X → pd x = false) : gL pd X k l = l := by
  unfold gL
  refine List.filter_eq_self.2 fun y _ => ?_
  unfold gA
  have : qo pd (X[y.toNat]?).join = false := by
    cases ho : (X[y.toNat]?).join with
    | none => rfl
    | some x =>
      rw [Option.join_eq_some_iff] at ho
      exact h x (List.mem_of_getElem? ho)
  rw [this]; simp
theorem gone_none {pd : Et → Bool} {s : St3} (h : ∀ x, some x ∈ s.X → pd x = false) : gone3 pd s = s := by
  unfold gone3
  rw [gX_none h, gL_none h, gL_none h]
theorem fdk_more {url : Bs} {l : List Fd} {X : List (Option Et)} {k0 : Nat} (h : ∀ j, k0 ≤ j → (X[j]?).join = none) : ∀ d, fdk url l X (k0 + d) = fdk url l X k0
  | 0 => rfl
  | d + 1 => by
    show fdS url l X (fdk url l X (k0 + d)) (k0 + d) = _
    unfold fdS
    rw [h _ (by omega)]
    exact fdk_more h d
abbrev nn (k : Nat) : List (Option Et) := List.replicate k none
theorem nn_at {k j : Nat} : ((nn k)[j]?).join = none := by
  cases h : (nn k)[j]? with
  | none => rfl
  | some o => rw [List.eq_of_mem_replicate (List.mem_of_getElem? h)]; rfl
theorem used_1 {y : Et} {k : Nat} : used (some y :: nn k) = size y := by simp [used, nn]
theorem used_2 {y z : Et} {k : Nat} : used (some y :: some z :: nn k) = size y + size z := by simp [used, nn]
abbrev dA (u : UInt8) : Bs × Int × Int × List Fd × Int × Bs × Int × List Fd × Bs := ([u], 0, 0, [], 200, [], 1, [], List.replicate 35 0)
theorem dA_f {y : Et} {u : UInt8} (h : dE y = dA u) : y.url = [u] ∧ y.asked = 0 ∧ y.came = 0 ∧ y.wl = [] ∧ y.fl = [] ∧ y.rs = [] ∧ y.bl = List.replicate 35 0 := by
  simp only [dE, Prod.mk.injEq] at h
  exact ⟨h.1, h.2.1, h.2.2.1, h.2.2.2.1, h.2.2.2.2.2.2.2.1, h.2.2.2.2.2.1, h.2.2.2.2.2.2.2.2⟩
theorem dA_size {y : Et} {u : UInt8} (h : dE y = dA u) : size y = 100 := by
  obtain ⟨h1, _, _, h2, h3, h4, h5⟩ := dA_f h
  unfold size
  rw [h1, h2, h3, h4, h5]; rfl
theorem dA_EB {y : Et} {u : UInt8} (h : dE y = dA u) : EB y := by
  obtain ⟨h1, _, _, h2, h3, h4, h5⟩ := dA_f h
  refine ⟨?_, ?_, ?_, ?_, ?_⟩
  · rw [h1]; exact (by decide : 1 ≤ 268435456)
  · rw [h4]; decide
  · rw [h5]; decide
  · rw [h2]; decide
  · rw [h3]; decide
theorem dA_for {y : Et} {u : UInt8} (h : dE y = dA u) : forE y [] = true := by
  obtain ⟨h1, _, _, h2, h3, h4, h5⟩ := dA_f h
  unfold forE
  rw [h2, h3]
  rfl
section
variable {e : Env} {ctx ctx' rest R : List HProp} {M : Hp}
theorem OwnE.rd {y : Et} {p : WP} (h : (∀ ctx', Has ctx' (SlO y.wa y.wl.length y.wc 2 (fc y.wl)) → Has ctx' (SlO y.fa y.fl.length y.fk 2 (fc y.fl)) → Has ctx' (SlO y.ba_ y.bl.length y.bk 1 (u8 y.bl)) → RdE ctx' y) → Ent e (OwnE y rest) p) : Ent e (OwnE y rest) p := by
  refine Ent.rdS fun r1 _ => ?_
  refine Ent.imp (ctx' := SlO y.fa y.fl.length y.fk 2 (fc y.fl) :: SlO y.wa y.wl.length y.wc 2 (fc y.wl) :: SlO y.ba_ y.bl.length y.bk 1 (u8 y.bl) :: rest) (by (focus ((repeat ((with_reducible apply Imp.pick); (repeat (first | exact Pick.hd | apply Pick.tl)))); (repeat (first | exact Imp.refl _ | exact Imp.nil _ | apply Imp.drop)); done))) ?_
  refine Ent.rdS fun r2 _ => ?_
  refine Ent.imp (ctx' := SlO y.ba_ y.bl.length y.bk 1 (u8 y.bl) :: SlO y.wa y.wl.length y.wc 2 (fc y.wl) :: SlO y.fa y.fl.length y.fk 2 (fc y.fl) :: rest) (by (focus ((repeat ((with_reducible apply Imp.pick); (repeat (first | exact Pick.hd | apply Pick.tl)))); (repeat (first | exact Imp.refl _ | exact Imp.nil _ | apply Imp.drop)); done))) ?_
  refine Ent.rdS fun r3 _ => ?_
  refine Ent.imp ?_ (h fun ctx' h1 h2 h3 => ⟨r1 _ h1, r2 _ h2, r3 _ h3⟩)
  (focus ((repeat ((with_reducible apply Imp.pick); (repeat (first | exact Pick.hd | apply Pick.tl)))); (repeat (first | exact Imp.refl _ | exact Imp.nil _ | apply Imp.drop)); done))
theorem put_own {K : Int → WP} {b : Nat} {X : List (Option Et)} {tr kp : List Int} {bytes most n : Nat} {x : Et} (hb : EB x) (hn : n < 4503599627370496) (hs : size x ≤ bytes) (hm : 0 < most) (hg : ∀ z, some z ∈ X → pdP x z = false)
    (h0 : ∀ M' y, Hp.le M M' → dE y = dE x → ∀ s2, s2 = evS most bytes (size x) 65 ⟨X, tr, kp⟩ → 
      Ent e (SRep M' b (s2.X.set (free s2.X) (some y)) ((free s2.X : Int) :: s2.tr) s2.kp bytes most (n + 1) :: Sl.ro M' :: rest) (K 0)) :
    Ent e (OwnE x (SRep M b X tr kp bytes most n :: Sl.ro M :: rest)) (store_Store_Put (ptr b) (.agg (ec x).toArray) K) := by
  refine OwnE.rd fun hr => ?_
  refine Ent.imp (ctx' := SRep M b X tr kp bytes most n :: Sl.ro M :: OwnE x rest) (by (focus ((repeat ((with_reducible apply Imp.pick); (repeat (first | exact Pick.hd | apply Pick.tl)))); (repeat (first | exact Imp.refl _ | exact Imp.nil _ | apply Imp.drop)); done))) ?_
  have e0 : gone3 (pdP x) ⟨X, tr, kp⟩ = ⟨X, tr, kp⟩ := gone_none hg
  refine put_spec (hr _ .hd (.tl .hd) (.tl (.tl .hd))) hb hn (fun hh => by omega) fun M' y hl hy _ _ _ s2 hs2 _ => ?_
  rw [e0] at hs2
  refine Ent.imp ?_ (h0 M' y hl hy s2 hs2)
  (focus ((repeat ((with_reducible apply Imp.pick); (repeat (first | exact Pick.hd | apply Pick.tl)))); (repeat (first | exact Imp.refl _ | exact Imp.nil _ | apply Imp.drop)); done))
theorem nn_mem {k : Nat} {z : Et} (h : some z ∈ nn k) : False := by have := List.eq_of_mem_replicate h; cases this
theorem pd_ne {x z : Et} (h : z.url ≠ x.url) : pdP x z = false := by unfold pdP; rw [decide_eq_false h]; rfl
theorem awake_spec {K : Bool → WP} (h : ∀ M', Hp.le M M' → Ent e (Sl.ro M' :: rest) (K true)) : Ent e (Sl.ro M :: rest) (law21_awake K) := by
  (refine Ent.fn law21_awake_ok ?_; unfold law21_awake_sh)
  refine snew_spec (fun hh => absurd hh (by decide)) fun b bytes most hb hm _ _ => ?_
  obtain rfl : bytes = 1000 := by omega
  obtain rfl : most = 2 := by omega
  refine Ent.join ?_
  refine Ent.wF ?_
  refine e_spec (url := [97]) (n := 35) (by decide) fun x1 hx1 => ?_
  have z1 := dA_size hx1
  refine put_own (dA_EB hx1) (by decide) (by omega) (by decide) (fun z hz => (nn_mem hz).elim) fun M1 y1 l1 hy1 s2 hs2 => ?_
  have d1 := hy1.trans hx1
  obtain rfl : s2 = ⟨nn 64, [], []⟩ := by
    rw [hs2]
    exact evS_stop (by unfold full; rw [z1]; decide)
  refine Ent.wF ?_
  refine e_spec (url := [98]) (n := 35) (by decide) fun x2 hx2 => ?_
  have z2 := dA_size hx2
  have zy1 := dA_size d1
  refine Ent.imp (ctx' := OwnE x2 (SRep M1 b (some y1 :: nn 63) [0] [] 1000 2 1 :: Sl.ro M1 :: rest)) (Imp.refl _) ?_
  refine put_own (dA_EB hx2) (by decide) (by omega) (by decide) (fun z hz => ?_) fun M2 y2 l2 hy2 s2 hs2 => ?_
  · rcases List.mem_cons.1 hz with hz | hz
    · cases hz
      refine pd_ne ?_
      rw [(dA_f d1).1, (dA_f hx2).1]; decide
    · exact (nn_mem hz).elim
  have d2 := hy2.trans hx2
  have zy2 := dA_size d2
  obtain rfl : s2 = ⟨some y1 :: nn 63, [0], []⟩ := by
    rw [hs2]
    refine evS_stop ?_
    unfold full
    rw [z2, used_1, zy1]
    rfl
  refine Ent.imp (ctx' := SRep M2 b (some y1 :: some y2 :: nn 62) [1, 0] [] 1000 2 2 :: Sl.ro M2 :: rest) (Imp.refl _) ?_
  refine Ent.wF ?_
  have u1 := (dA_f d1).1
  have u2 := (dA_f d2).1
  have hjoin : ∀ j, 2 ≤ j → (((some y1 :: some y2 :: nn 62 : List (Option Et)))[j]?).join = none := fun j hj => by
    obtain ⟨j', rfl⟩ : ∃ j', j = j' + 2 := ⟨j - 2, by omega⟩
    simpa using (nn_at (k := 62) (j := j'))
  have fa : fdk [97] [] (some y1 :: some y2 :: nn 62) 64 = some 0 := by
    rw [fdk_more (k0 := 2) hjoin 62]
    have n1 : ([98] : Bs) ≠ [97] := by decide
    simp [fdk, fdS, better, u1, u2, dA_for d1, n1]
  refine get_s_spec (url := [97]) (l := []) (by decide) rfl (by decide) (fun hh => by rw [fa] at hh; cases hh) fun i x y hi hx hy hbx => ?_
  rw [fa] at hi
  cases hi
  simp only [List.getElem?_cons_zero, Option.some.injEq] at hx
  subst hx
  have dy := hy.trans d1
  refine Ent.alloc' fun xb => ?_
  refine Ent.imp (ctx' := OwnE y (SRep M2 b (some y1 :: some y2 :: nn 62) [1] [0] 1000 2 4 :: Sl.ro M2 :: pt xb (ec ez) :: rest)) (by show Imp (pt xb (ec ez) :: _) _; (focus ((repeat ((with_reducible apply Imp.pick); (repeat (first | exact Pick.hd | apply Pick.tl)))); (repeat (first | exact Imp.refl _ | exact Imp.nil _ | apply Imp.drop)); done))) ?_
  refine Ent.wstoA (l' := ec y) ?_ (vs := ec y) (hl := rfl) (hu := by (repeat (first | exact Upd.hd | apply Upd.tl)))
  refine Ent.join ?_
  refine Ent.draw [pt xb (ec y)] (by (focus ((repeat ((with_reducible apply Imp.pick); (repeat (first | exact Pick.hd | apply Pick.tl)))); (repeat (first | exact Imp.refl _ | exact Imp.nil _ | apply Imp.drop)); done))) ?_
  refine Ent.wF ?_
  refine Ent.stR (v := .agg (ec y).toArray) (st_loadA (n := 9) (cs := ec y) .hd rfl rfl rfl) ?_
  refine e_spec (url := [97]) (n := 35) (by decide) fun z hz => ?_
  refine Ent.wand ?_
  refine OwnE.rd fun rz => ?_
  refine Ent.imp (ctx' := OwnE y (OwnE z (SRep M2 b (some y1 :: some y2 :: nn 62) [1] [0] 1000 2 4 :: Sl.ro M2 :: pt xb (ec y) :: rest))) (by (focus ((repeat ((with_reducible apply Imp.pick); (repeat (first | exact Pick.hd | apply Pick.tl)))); (repeat (first | exact Imp.refl _ | exact Imp.nil _ | apply Imp.drop)); done))) ?_
  refine OwnE.rd fun ry => ?_
  refine same_e_spec (ry _ .hd (.tl .hd) (.tl (.tl .hd))) (rz _ (.tl (.tl (.tl .hd))) (.tl (.tl (.tl (.tl .hd)))) (.tl (.tl (.tl (.tl (.tl .hd)))))) (dA_EB dy) (dA_EB hz) ?_
  rw [decide_eq_true (dy.trans hz.symm)]
  refine Ent.wF ?_
  refine Ent.imp (ctx' := SRep M2 b (some y1 :: some y2 :: nn 62) [1] [0] 1000 2 4 :: Sl.ro M2 :: pt xb (ec y) :: rest) (by (focus ((repeat ((with_reducible apply Imp.pick); (repeat (first | exact Pick.hd | apply Pick.tl)))); (repeat (first | exact Imp.refl _ | exact Imp.nil _ | apply Imp.drop)); done))) ?_
  refine used_spec ?_
  refine Ent.wand ?_
  rw [used_2, zy1, zy2]
  refine Ent.wF ?_
  refine e_spec (url := [99]) (n := 35) (by decide) fun x3 hx3 => ?_
  refine Ent.wand ?_
  have z3 := dA_size hx3
  refine put_own (dA_EB hx3) (by decide) (by omega) (by decide) (fun z hz => ?_) fun M3 y3 l3 hy3 s3 hs3 => ?_
  · rcases List.mem_cons.1 hz with hz | hz
    · cases hz
      refine pd_ne ?_
      rw [u1, (dA_f hx3).1]; decide
    · rcases List.mem_cons.1 hz with hz | hz
      · cases hz
        refine pd_ne ?_
        rw [u2, (dA_f hx3).1]; decide
      · exact (nn_mem hz).elim
  have d3 := hy3.trans hx3
  obtain rfl : s3 = ⟨some y1 :: nn 63, [], [0]⟩ := by
    rw [hs3]
    refine (evS_step ?_).trans ?_
    · unfold full
      rw [z3]
      rfl
    · refine (evS_stop (s := ⟨some y1 :: nn 63, [], [0]⟩) ?_)
      unfold full
      rw [z3, used_1, zy1]
      rfl
  refine Ent.wand ?_
  refine Ent.wF ?_
  refine Ent.imp (ctx' := SRep M3 b (some y1 :: some y3 :: nn 62) [1] [0] 1000 2 5 :: Sl.ro M3 :: rest) (by show Imp (_ :: _ :: pt xb _ :: rest) _; exact .pick .hd (.pick .hd (Imp.drop (Imp.refl _)))) ?_
  have u3 := (dA_f d3).1
  have hjoin3 : ∀ j, 2 ≤ j → (((some y1 :: some y3 :: nn 62 : List (Option Et)))[j]?).join = none := fun j hj => by
    obtain ⟨j', rfl⟩ : ∃ j', j = j' + 2 := ⟨j - 2, by omega⟩
    simpa using (nn_at (k := 62) (j := j'))
  have fa3 : fdk [97] [] (some y1 :: some y3 :: nn 62) 64 = some 0 := by
    rw [fdk_more (k0 := 2) hjoin3 62]
    have n1 : ([99] : Bs) ≠ [97] := by decide
    simp [fdk, fdS, better, u1, u3, dA_for d1, n1]
  have fb3 : fdk [98] [] (some y1 :: some y3 :: nn 62) 64 = none := by
    rw [fdk_more (k0 := 2) hjoin3 62]
    have n1 : ([99] : Bs) ≠ [98] := by decide
    have n2 : ([97] : Bs) ≠ [98] := by decide
    simp [fdk, fdS, better, u1, u3, n1, n2]
  refine look_spec (url := [97]) (l := []) rfl (by decide) (fun hh => by rw [fa3] at hh; cases hh) fun i x ya hi hx hya hbx => ?_
  refine Ent.alloc' fun yb => ?_
  refine Ent.wstoA (l' := ec ya) ?_ (vs := ec ya) (hl := rfl) (hu := by (repeat (first | exact Upd.hd | apply Upd.tl)))
  refine Ent.imp (ctx' := SRep M3 b (some y1 :: some y3 :: nn 62) [1] [0] 1000 2 5 :: Sl.ro M3 :: rest) (by (focus ((repeat ((with_reducible apply Imp.pick); (repeat (first | exact Pick.hd | apply Pick.tl)))); (repeat (first | exact Imp.refl _ | exact Imp.nil _ | apply Imp.drop)); done))) ?_
  refine look_spec (url := [98]) (l := []) rfl (by decide) (fun _ => ?_) fun i x ya hi hx hya hbx => by rw [fb3] at hi; cases hi
  refine Ent.alloc' fun yb => ?_
  refine Ent.wstoA (l' := ec ez) ?_ (vs := ec ez) (hl := rfl) (hu := by (repeat (first | exact Upd.hd | apply Upd.tl)))
  refine Ent.wT ?_
  refine Ent.wT ?_
  refine Ent.imp (ctx' := SRep M3 b (some y1 :: some y3 :: nn 62) [1] [0] 1000 2 5 :: Sl.ro M3 :: rest) (by (focus ((repeat ((with_reducible apply Imp.pick); (repeat (first | exact Pick.hd | apply Pick.tl)))); (repeat (first | exact Imp.refl _ | exact Imp.nil _ | apply Imp.drop)); done))) ?_
  refine entries_spec fun M4 ys a c l4 hys _ => ?_
  have hl2 : ys.length = 2 := by
    have := congrArg List.length hys
    simpa [ents, nn] using this
  refine Ent.wlen ?_
  rw [hl2]
  refine Ent.imp (ctx' := Sl.ro M4 :: rest) (by (focus ((repeat ((with_reducible apply Imp.pick); (repeat (first | exact Pick.hd | apply Pick.tl)))); (repeat (first | exact Imp.refl _ | exact Imp.nil _ | apply Imp.drop)); done))) ?_
  exact h M4 fun i o hi => l4 i o (l3 i o (l2 i o (l1 i o hi)))
end
end Go.Proofs.YtfofnagocedlgaaDoor.Tx
end
section
/- A STORE THAT IS NONE; slices with a body of n noughts. -/
set_option linter.unusedVariables false
set_option linter.unusedSimpArgs false
set_option maxRecDepth 100000
set_option maxHeartbeats 0
namespace Go.Proofs.YtfofnagocedlgaaDoor.Tx
open Go Sh Sl
attribute [local irreducible] condK ArK NilK OpK FnK StK joinK loopK DrawK andK PuK NxK EnK vS uS bS callS invokeS
abbrev dU (url : Bs) (n : Nat) : Bs × Int × Int × List Fd × Int × Bs × Int × List Fd × Bs := (url, 0, 0, [], 200, [], 1, [], List.replicate n 0)
theorem dU_f {y : Et} {u : Bs} {n : Nat} (h : dE y = dU u n) : y.url = u ∧ y.asked = 0 ∧ y.came = 0 ∧ y.wl = [] ∧ y.fl = [] ∧ y.rs = [] ∧ y.bl = List.replicate n 0 := by
  simp only [dE, Prod.mk.injEq] at h
  exact ⟨h.1, h.2.1, h.2.2.1, h.2.2.2.1, h.2.2.2.2.2.2.2.1, h.2.2.2.2.2.1, h.2.2.2.2.2.2.2.2⟩
theorem dU_size {y : Et} {u : Bs} {n : Nat} (h : dE y = dU u n) : size y = 64 + u.length + n := by
  obtain ⟨h1, _, _, h2, h3, h4, h5⟩ := dU_f h
  unfold size
  rw [h1, h2, h3, h4, h5, List.length_replicate]; simp [fzn]
theorem dU_EB {y : Et} {u : Bs} {n : Nat} (h : dE y = dU u n) (hu : u.length ≤ 1048576) (hn : n ≤ 1048576) : EB y := by
  obtain ⟨h1, _, _, h2, h3, h4, h5⟩ := dU_f h
  refine ⟨?_, ?_, ?_, ?_, ?_⟩
  · rw [h1]; omega
  · rw [h4]; decide
  · rw [h5, List.length_replicate]; omega
  · rw [h2]; decide
  · rw [h3]; decide
section
variable {e : Env} {ctx rest J : List HProp}
abbrev np : Value := .pointer none
theorem nil_iter {K : Value → WP} {q sb : Nat} {r0 : Loop} (h : Ent e (Sl.ob (q + 1) (lp r0 .ready none) :: pt sb [np] :: J) (K (.tuple #[]))) :
    Ent e (Sl.ob (q + 1) (lp r0 .ready none) :: pt sb [np] :: J) (store_Store_all_c1 (.func (.yield (q + 1)) #[] #[]) (ptr sb) K) := by
  (refine Ent.fn store_Store_all_c1_ok ?_; unfold store_Store_all_c1_sh)
  (refine Ent.go ?_)
  exact h
theorem used_nil {K : Int → WP} (h : Ent e rest (K 0)) : Ent e rest (store_Store_Used np K) := by
  (refine Ent.fn store_Store_Used_ok ?_; unfold store_Store_Used_sh)
  (refine Ent.go ?_)
  exact h
theorem put_nil {K : Int → WP} {v : List Value} (h : Ent e rest (K 2)) : Ent e rest (store_Store_Put np (.agg v.toArray) K) := by
  (refine Ent.fn store_Store_Put_ok ?_; unfold store_Store_Put_sh)
  refine Ent.box' fun eb => ?_
  refine Ent.join ?_
  (refine Ent.go ?_)
  exact h.drop
theorem find_nil {K : Int → Bool → WP} {url : Bs} {a : Option Addr} {m c : Nat} (h : Ent e rest (K 0 false)) : Ent e rest (store_Store_find np (ba url) (.slice a m c) K) := by
  (refine Ent.fn store_Store_find_ok ?_; unfold store_Store_find_sh)
  refine Ent.box' fun s1 => ?_
  refine Ent.box' fun u1 => ?_
  refine Ent.box' fun l1 => ?_
  refine Ent.alloc' fun bb => ?_
  refine Ent.alloc' fun ib => ?_
  (refine Ent.go ?_)
  (refine Ent.fn store_Store_all_ok ?_; unfold store_Store_all_sh)
  refine Ent.box' fun sb => ?_
  refine Ent.rf callable_all (args := fun q => [.func (.yield (q + 1)) #[] #[], ptr sb]) (fun q => rfl) fun q r0 hr => ?_
  refine Ent.imp (ctx' := Sl.ob (q + 1) (lp r0 .ready none) :: pt sb [np] :: pt bb [.int .i64 0] :: pt ib [.bool false] :: Sl.ob q (.deferred (some [])) :: rest) (by (focus ((repeat ((with_reducible apply Imp.pick); (repeat (first | exact Pick.hd | apply Pick.tl)))); (repeat (first | exact Imp.refl _ | exact Imp.nil _ | apply Imp.drop)); done))) ?_
  refine nil_iter ?_
  refine Ent.ed (st := .ready) (fun h => by cases h) (by (repeat (first | exact Upd.hd | apply Upd.tl))) ?_
  show Ent e _ (JmK _ _ _ none)
  unfold JmK
  dsimp only
  (refine Ent.go ?_)
  refine Ent.tk (by (repeat (first | exact Upd.hd | apply Upd.tl))) ?_
  refine Ent.imp ?_ h
  (focus ((repeat ((with_reducible apply Imp.pick); (repeat (first | exact Pick.hd | apply Pick.tl)))); (repeat (first | exact Imp.refl _ | exact Imp.nil _ | apply Imp.drop)); done))
theorem gone_nil {K : Int → WP} {f : Value} (hf : f.cells.toList = [f]) (h : Ent e rest (K 0)) : Ent e rest (store_Store_gone np f K) := by
  (refine Ent.fn store_Store_gone_ok ?_; unfold store_Store_gone_sh)
  refine Ent.box' fun s1 => ?_
  refine Ent.box' (l := [f]) (fun i1 => ?_) hf
  refine Ent.alloc' fun nb => ?_
  (refine Ent.go ?_)
  (refine Ent.fn store_Store_all_ok ?_; unfold store_Store_all_sh)
  refine Ent.box' fun sb => ?_
  refine Ent.rf callable_all (args := fun q => [.func (.yield (q + 1)) #[] #[], ptr sb]) (fun q => rfl) fun q r0 hr => ?_
  refine Ent.imp (ctx' := Sl.ob (q + 1) (lp r0 .ready none) :: pt sb [np] :: pt nb [.int .i64 0] :: Sl.ob q (.deferred (some [])) :: rest) (by (focus ((repeat ((with_reducible apply Imp.pick); (repeat (first | exact Pick.hd | apply Pick.tl)))); (repeat (first | exact Imp.refl _ | exact Imp.nil _ | apply Imp.drop)); done))) ?_
  refine nil_iter ?_
  refine Ent.ed (st := .ready) (fun h => by cases h) (by (repeat (first | exact Upd.hd | apply Upd.tl))) ?_
  show Ent e _ (JmK _ _ _ none)
  unfold JmK
  dsimp only
  (refine Ent.go ?_)
  refine Ent.tk (by (repeat (first | exact Upd.hd | apply Upd.tl))) ?_
  refine Ent.imp ?_ h
  (focus ((repeat ((with_reducible apply Imp.pick); (repeat (first | exact Pick.hd | apply Pick.tl)))); (repeat (first | exact Imp.refl _ | exact Imp.nil _ | apply Imp.drop)); done))
theorem look_nil {K : Value → Bool → WP} {url : Bs} {a : Option Addr} {m c : Nat} (h : Ent e rest (K (.agg (ec ez).toArray) false)) : Ent e rest (store_Store_Look np (ba url) (.slice a m c) K) := by
  (refine Ent.fn store_Store_Look_ok ?_; unfold store_Store_Look_sh)
  refine Ent.alloc' fun tb => ?_
  refine find_nil ?_
  refine Ent.wT ?_
  (refine Ent.go ?_)
  refine Ent.wrA ?_
  refine Ent.imp ?_ h
  (focus ((repeat ((with_reducible apply Imp.pick); (repeat (first | exact Pick.hd | apply Pick.tl)))); (repeat (first | exact Imp.refl _ | exact Imp.nil _ | apply Imp.drop)); done))
theorem get_nil {K : Value → Bool → WP} {url : Bs} {a : Option Addr} {m c : Nat} (h : Ent e rest (K (.agg (ec ez).toArray) false)) : Ent e rest (store_Store_Get np (ba url) (.slice a m c) K) := by
  (refine Ent.fn store_Store_Get_ok ?_; unfold store_Store_Get_sh)
  refine Ent.alloc' fun tb => ?_
  refine find_nil ?_
  refine Ent.wT ?_
  (refine Ent.go ?_)
  refine Ent.wrA ?_
  refine Ent.imp ?_ h
  (focus ((repeat ((with_reducible apply Imp.pick); (repeat (first | exact Pick.hd | apply Pick.tl)))); (repeat (first | exact Imp.refl _ | exact Imp.nil _ | apply Imp.drop)); done))
theorem entries_nil {K : Value → WP} (h : Ent e rest (K (.slice none 0 0))) : Ent e rest (store_Store_Entries np K) := by
  (refine Ent.fn store_Store_Entries_ok ?_; unfold store_Store_Entries_sh)
  refine Ent.alloc' fun lc => ?_
  (refine Ent.fn store_Store_all_ok ?_; unfold store_Store_all_sh)
  refine Ent.box' fun sb => ?_
  refine Ent.rf callable_all (args := fun q => [.func (.yield (q + 1)) #[] #[], ptr sb]) (fun q => rfl) fun q r0 hr => ?_
  refine Ent.imp (ctx' := Sl.ob (q + 1) (lp r0 .ready none) :: pt sb [np] :: pt lc [.slice none 0 0] :: Sl.ob q (.deferred (some [])) :: rest) (by (focus ((repeat ((with_reducible apply Imp.pick); (repeat (first | exact Pick.hd | apply Pick.tl)))); (repeat (first | exact Imp.refl _ | exact Imp.nil _ | apply Imp.drop)); done))) ?_
  refine nil_iter ?_
  refine Ent.ed (st := .ready) (fun h => by cases h) (by (repeat (first | exact Upd.hd | apply Upd.tl))) ?_
  show Ent e _ (JmK _ _ _ none)
  unfold JmK
  dsimp only
  (refine Ent.go ?_)
  refine Ent.tk (by (repeat (first | exact Upd.hd | apply Upd.tl))) ?_
  refine Ent.imp ?_ h
  (focus ((repeat ((with_reducible apply Imp.pick); (repeat (first | exact Pick.hd | apply Pick.tl)))); (repeat (first | exact Imp.refl _ | exact Imp.nil _ | apply Imp.drop)); done))
end
end Go.Proofs.YtfofnagocedlgaaDoor.Tx
end
section
/-
  READING THROUGH POINTERS INTO WHAT LIES STILL (printed by px.py).
-/
set_option maxRecDepth 100000
set_option linter.unusedVariables false
set_option linter.unusedSectionVars false
set_option linter.unusedSimpArgs false
namespace Go.Proofs.YtfofnagocedlgaaDoor.Sl
open Go Sh
/-- cells that M holds at a place -/
def PM (M : Hp) (b o : Nat) (l : List Value) : Prop := ∃ T fr, ∃ c : Array Value, M b = some (.cells c T fr) ∧ ∀ j v, l[j]? = some v → c[o + j]? = some v
section
variable {e : Env} {ctx ctx' R : List HProp} {M M' : Hp}
theorem PM.mono {b o : Nat} {l : List Value} (h : PM M b o l) (hl : Hp.le M M') : PM M' b o l := by
  obtain ⟨T, fr, c, h1, h2⟩ := h
  exact ⟨T, fr, c, hl _ _ h1, h2⟩
theorem PM.rds {b o : Nat} {l : List Value} (h : PM M b o l) (hM : Has ctx (Sl.ro M)) : Rds ctx b o l := fun x k => by
  obtain ⟨T, fr, c, h1, h2⟩ := h
  obtain ⟨r, hr⟩ := hM.pick
  obtain ⟨g1, g2, _, l1, _, a', _⟩ := sepL_perm hr.perm _ k
  exact ⟨T, fr, c, l1 _ _ (a' _ _ h1), h2⟩
theorem PM.sub {b o : Nat} {l l' : List Value} {i : Nat} (h : PM M b o l) (hs : ∀ j v, l'[j]? = some v → l[i + j]? = some v) : PM M b (o + i) l' := by
  obtain ⟨T, fr, c, h1, h2⟩ := h
  exact ⟨T, fr, c, h1, fun j v hj => by rw [Nat.add_assoc]; exact h2 _ _ (hs j v hj)⟩
theorem RdM.at {a : Option Addr} {X : Type} {f : X → List Value} {xs : List X} {y : X} {sz i : Nat} (h : RdM M a ((xs.map f).flatten)) (hf : ∀ y, (f y).length = sz) (hz : 0 < sz) (hx : xs[i]? = some y) :
    ∃ b o, a = some ⟨b, o, none⟩ ∧ PM M b (o + i * sz) (f y) := by
  have hi := (List.getElem?_eq_some_iff.1 hx).1
  have hl : 0 < ((xs.map f).flatten).length := by rw [flat_len f sz hf]; exact Nat.mul_pos (by omega) hz
  cases a with
  | none => have : (xs.map f).flatten = [] := h; rw [this] at hl; simp at hl
  | some a =>
    rcases h with h | ⟨h1, T, fr, c, h2, h3⟩
    · rw [h] at hl; simp at hl
    · obtain ⟨b, o, s⟩ := a
      simp only at h1 h2 h3
      subst h1
      refine ⟨b, o, rfl, T, fr, c, h2, fun j v hj => ?_⟩
      have hsub := flat_sub f sz hf hx
      have hjl := (List.getElem?_eq_some_iff.1 hj).1
      rw [hf y] at hjl
      rw [← hsub, List.getElem?_take, if_pos hjl, List.getElem?_drop] at hj
      rw [Nat.add_assoc]
      exact h3 _ _ hj
theorem Ent.wix {t x n cp sz by_ i : Nat} {a : Option Addr} {j : IntKind} {X : Type} {f : X → List Value} {xs : List X} {y : X} {c : Value → WP} (hr : RdM M a ((xs.map f).flatten)) (hx : xs[i]? = some y) (h : ∀ b o, PM M b o (f y) → Ent e ctx (c (.pointer (some ⟨b, o, none⟩)))) (h1 : i < n := by omega) (ht : dd t = some (.sl x) := by exact rfl) (hs : szof x = some (sz, by_) := by exact rfl) (hf : ∀ y, (f y).length = sz := by intro y; exact rfl) (hz : 0 < sz := by decide) : Ent e ctx (oR (vS (Instr.indexAt t (.slice a n cp) (.int j (i : Int)))) c) := by
  obtain ⟨b, o, rfl, hp⟩ := hr.at hf hz hx
  refine Ent.opR (st_ix ht hs (by omega) (by omega)).still ?_
  rw [Int.toNat_natCast]
  exact h _ _ hp
theorem Ent.wixQ {t x n cp sz by_ i : Nat} {a : Option Addr} {j : IntKind} {X : Type} {f : X → List Value} {xs : List X} {y : X} {c : Value → WP} (hr : RdM M a ((xs.map f).flatten)) (hx : xs[i]? = some y) (h : ∀ b o, PM M b o (f y) → Ent e ctx (c (.pointer (some ⟨b, o, none⟩)))) (h1 : i < n := by omega) (ht : dd t = some (.sl x) := by exact rfl) (hs : szof x = some (sz, by_) := by exact rfl) (hf : ∀ y, (f y).length = sz := by intro y; exact rfl) (hz : 0 < sz := by decide) : Ent e ctx (qR (vS (Instr.indexAt t (.slice a n cp) (.int j (i : Int)))) c) := by
  obtain ⟨b, o, rfl, hp⟩ := hr.at hf hz hx
  refine Ent.puR (st_ix ht hs (by omega) (by omega)) ?_
  rw [Int.toNat_natCast]
  exact h _ _ hp
theorem Ent.wjAm {t x n cp sz by_ i u : Nat} {a : Option Addr} {j : IntKind} {X : Type} {f : X → List Value} {xs : List X} {y : X} {c : Value → WP} (hr : RdM M a ((xs.map f).flatten)) (hx : xs[i]? = some y) (h : Ent e ctx (c (.agg (f y).toArray))) (hM : Has R (Sl.ro M) := by repeat (first | exact Has.hd | apply Has.tl)) (h1 : i < n := by omega) (ht : dd t = some (.sl x) := by exact rfl) (hs : szof x = some (sz, by_) := by exact rfl) (hu : ag u = some sz := by exact rfl) (hf : ∀ y, (f y).length = sz := by intro y; exact rfl) (hz : 0 < sz := by decide) : Ent e ctx (jR (Sat e (sepL R)) t (.slice a n cp) j (i : Int) u c) := by
  obtain ⟨b, o, rfl, hp⟩ := hr.at hf hz hx
  refine Ent.puR (st_ix ht hs (by omega) (by omega)) ?_
  rw [Int.toNat_natCast]
  exact Ent.stR (st_loadRA (i := 0) (hp.rds hM) hu (by rw [List.drop_zero]; exact List.take_of_length_le (Nat.le_of_eq (hf y))) (hf y)) h
theorem Ent.wfRp {t b o i u off : Nat} {l : List Value} {v : Value} {c : Value → WP} (h : Ent e ctx (c v)) (hM : Has ctx (Sl.ro M) := by repeat (first | exact Has.hd | apply Has.tl)) (hP : PM M b o l := by assumption) (hf : fld t i = some off := by exact rfl) (hs : sc u = true := by exact rfl) (hv : l[off]? = some (v) := by first | exact rfl | assumption | (simp only [List.getElem?_cons_zero, List.getElem?_cons_succ]; done) | (simp; done)) : Ent e ctx (fR t (.pointer (some ⟨b, o, none⟩)) i u c) := Ent.opR (st_field hf).still (Ent.opR (st_loadR (i := off) (hP.rds hM) hs hv) h)
theorem Ent.wfRq {t b o i u off kk : Nat} {l : List Value} {v : Value} {c : Value → WP} (h : Ent e ctx (c v)) (hM : Has ctx (Sl.ro M) := by repeat (first | exact Has.hd | apply Has.tl)) (hP : PM M b o l := by assumption) (hf : fld t i = some off := by exact rfl) (hs : sc u = true := by exact rfl) (hv : l[kk + off]? = some (v) := by first | exact rfl | assumption | (simp only [List.getElem?_cons_zero, List.getElem?_cons_succ]; done) | (simp; done)) : Ent e ctx (fR t (.pointer (some ⟨b, o + kk, none⟩)) i u c) := Ent.opR (st_field hf).still (Ent.opR (by have := st_loadR (e := e) (t := u) (i := kk + off) (hP.rds hM) hs hv; rw [← Nat.add_assoc] at this; exact this) h)
theorem Ent.wfIp {t b o i u off : Nat} {l : List Value} {v : Int} {c : Int → WP} {k : IntKind} (h : Ent e ctx (c v)) (hM : Has ctx (Sl.ro M) := by repeat (first | exact Has.hd | apply Has.tl)) (hP : PM M b o l := by assumption) (hf : fld t i = some off := by exact rfl) (hs : sc u = true := by exact rfl) (hv : l[off]? = some (.int k v) := by first | exact rfl | assumption | (simp only [List.getElem?_cons_zero, List.getElem?_cons_succ]; done) | (simp; done)) : Ent e ctx (fI t (.pointer (some ⟨b, o, none⟩)) i u k c) := Ent.opR (st_field hf).still (Ent.opI (st_loadR (i := off) (hP.rds hM) hs hv) h)
theorem Ent.wfIq {t b o i u off kk : Nat} {l : List Value} {v : Int} {c : Int → WP} {k : IntKind} (h : Ent e ctx (c v)) (hM : Has ctx (Sl.ro M) := by repeat (first | exact Has.hd | apply Has.tl)) (hP : PM M b o l := by assumption) (hf : fld t i = some off := by exact rfl) (hs : sc u = true := by exact rfl) (hv : l[kk + off]? = some (.int k v) := by first | exact rfl | assumption | (simp only [List.getElem?_cons_zero, List.getElem?_cons_succ]; done) | (simp; done)) : Ent e ctx (fI t (.pointer (some ⟨b, o + kk, none⟩)) i u k c) := Ent.opR (st_field hf).still (Ent.opI (by have := st_loadR (e := e) (t := u) (i := kk + off) (hP.rds hM) hs hv; rw [← Nat.add_assoc] at this; exact this) h)
theorem Ent.wfBp {t b o i u off : Nat} {l : List Value} {v : Bool} {c : Bool → WP} (h : Ent e ctx (c v)) (hM : Has ctx (Sl.ro M) := by repeat (first | exact Has.hd | apply Has.tl)) (hP : PM M b o l := by assumption) (hf : fld t i = some off := by exact rfl) (hs : sc u = true := by exact rfl) (hv : l[off]? = some (.bool v) := by first | exact rfl | assumption | (simp only [List.getElem?_cons_zero, List.getElem?_cons_succ]; done) | (simp; done)) : Ent e ctx (fB t (.pointer (some ⟨b, o, none⟩)) i u c) := Ent.opR (st_field hf).still (Ent.opB (st_loadR (i := off) (hP.rds hM) hs hv) h)
theorem Ent.wfBq {t b o i u off kk : Nat} {l : List Value} {v : Bool} {c : Bool → WP} (h : Ent e ctx (c v)) (hM : Has ctx (Sl.ro M) := by repeat (first | exact Has.hd | apply Has.tl)) (hP : PM M b o l := by assumption) (hf : fld t i = some off := by exact rfl) (hs : sc u = true := by exact rfl) (hv : l[kk + off]? = some (.bool v) := by first | exact rfl | assumption | (simp only [List.getElem?_cons_zero, List.getElem?_cons_succ]; done) | (simp; done)) : Ent e ctx (fB t (.pointer (some ⟨b, o + kk, none⟩)) i u c) := Ent.opR (st_field hf).still (Ent.opB (by have := st_loadR (e := e) (t := u) (i := kk + off) (hP.rds hM) hs hv; rw [← Nat.add_assoc] at this; exact this) h)
theorem Ent.wfSp {t b o i u off : Nat} {l : List Value} {v : ByteArray} {c : ByteArray → WP} (h : Ent e ctx (c v)) (hM : Has ctx (Sl.ro M) := by repeat (first | exact Has.hd | apply Has.tl)) (hP : PM M b o l := by assumption) (hf : fld t i = some off := by exact rfl) (hs : sc u = true := by exact rfl) (hv : l[off]? = some (.string v) := by first | exact rfl | assumption | (simp only [List.getElem?_cons_zero, List.getElem?_cons_succ]; done) | (simp; done)) : Ent e ctx (fS t (.pointer (some ⟨b, o, none⟩)) i u c) := Ent.opR (st_field hf).still (Ent.opS (st_loadR (i := off) (hP.rds hM) hs hv) h)
theorem Ent.wfSq {t b o i u off kk : Nat} {l : List Value} {v : ByteArray} {c : ByteArray → WP} (h : Ent e ctx (c v)) (hM : Has ctx (Sl.ro M) := by repeat (first | exact Has.hd | apply Has.tl)) (hP : PM M b o l := by assumption) (hf : fld t i = some off := by exact rfl) (hs : sc u = true := by exact rfl) (hv : l[kk + off]? = some (.string v) := by first | exact rfl | assumption | (simp only [List.getElem?_cons_zero, List.getElem?_cons_succ]; done) | (simp; done)) : Ent e ctx (fS t (.pointer (some ⟨b, o + kk, none⟩)) i u c) := Ent.opR (st_field hf).still (Ent.opS (by have := st_loadR (e := e) (t := u) (i := kk + off) (hP.rds hM) hs hv; rw [← Nat.add_assoc] at this; exact this) h)
theorem Ent.wfAp {t b o i u off m : Nat} {l cs : List Value} {c : Value → WP} (h : Ent e ctx (c (.agg cs.toArray))) (hM : Has ctx (Sl.ro M) := by repeat (first | exact Has.hd | apply Has.tl)) (hP : PM M b o l := by assumption) (hf : fld t i = some off := by exact rfl) (hs : ag u = some m := by exact rfl) (hv : (l.drop (off)).take m = cs := by (try simp only [List.take_succ_cons, List.take_zero, List.take_nil, List.drop_succ_cons, List.drop_zero, List.drop_nil, Nat.reduceAdd, Nat.zero_add]); first | done | exact rfl) (hn : cs.length = m := by exact rfl) : Ent e ctx (fR t (.pointer (some ⟨b, o, none⟩)) i u c) := Ent.opR (st_field hf).still (Ent.opR (st_loadRA (i := off) (hP.rds hM) hs hv hn) h)
theorem Ent.wfAq {t b o i u off m kk : Nat} {l cs : List Value} {c : Value → WP} (h : Ent e ctx (c (.agg cs.toArray))) (hM : Has ctx (Sl.ro M) := by repeat (first | exact Has.hd | apply Has.tl)) (hP : PM M b o l := by assumption) (hf : fld t i = some off := by exact rfl) (hs : ag u = some m := by exact rfl) (hv : (l.drop (kk + off)).take m = cs := by (try simp only [List.take_succ_cons, List.take_zero, List.take_nil, List.drop_succ_cons, List.drop_zero, List.drop_nil, Nat.reduceAdd, Nat.zero_add]); first | done | exact rfl) (hn : cs.length = m := by exact rfl) : Ent e ctx (fR t (.pointer (some ⟨b, o + kk, none⟩)) i u c) := Ent.opR (st_field hf).still (Ent.opR (by have := st_loadRA (e := e) (t := u) (i := kk + off) (hP.rds hM) hs hv hn; rw [← Nat.add_assoc] at this; exact this) h)
theorem Ent.wnRp {t b o i u off : Nat} {l : List Value} {v : Value} {c : Value → WP} (h : Ent e ctx (c v)) (hM : Has ctx (Sl.ro M) := by repeat (first | exact Has.hd | apply Has.tl)) (hP : PM M b o l := by assumption) (hf : fld t i = some off := by exact rfl) (hs : sc u = true := by exact rfl) (hv : l[off]? = some (v) := by first | exact rfl | assumption | (simp only [List.getElem?_cons_zero, List.getElem?_cons_succ]; done) | (simp; done)) : Ent e ctx (nR t (.pointer (some ⟨b, o, none⟩)) i u c) := Ent.nil (Ent.opR (st_field hf).still (Ent.opR (st_loadR (i := off) (hP.rds hM) hs hv) h))
theorem Ent.wnRq {t b o i u off kk : Nat} {l : List Value} {v : Value} {c : Value → WP} (h : Ent e ctx (c v)) (hM : Has ctx (Sl.ro M) := by repeat (first | exact Has.hd | apply Has.tl)) (hP : PM M b o l := by assumption) (hf : fld t i = some off := by exact rfl) (hs : sc u = true := by exact rfl) (hv : l[kk + off]? = some (v) := by first | exact rfl | assumption | (simp only [List.getElem?_cons_zero, List.getElem?_cons_succ]; done) | (simp; done)) : Ent e ctx (nR t (.pointer (some ⟨b, o + kk, none⟩)) i u c) := Ent.nil (Ent.opR (st_field hf).still (Ent.opR (by have := st_loadR (e := e) (t := u) (i := kk + off) (hP.rds hM) hs hv; rw [← Nat.add_assoc] at this; exact this) h))
theorem Ent.wnIp {t b o i u off : Nat} {l : List Value} {v : Int} {c : Int → WP} {k : IntKind} (h : Ent e ctx (c v)) (hM : Has ctx (Sl.ro M) := by repeat (first | exact Has.hd | apply Has.tl)) (hP : PM M b o l := by assumption) (hf : fld t i = some off := by exact rfl) (hs : sc u = true := by exact rfl) (hv : l[off]? = some (.int k v) := by first | exact rfl | assumption | (simp only [List.getElem?_cons_zero, List.getElem?_cons_succ]; done) | (simp; done)) : Ent e ctx (nI t (.pointer (some ⟨b, o, none⟩)) i u k c) := Ent.nil (Ent.opR (st_field hf).still (Ent.opI (st_loadR (i := off) (hP.rds hM) hs hv) h))
theorem Ent.wnIq {t b o i u off kk : Nat} {l : List Value} {v : Int} {c : Int → WP} {k : IntKind} (h : Ent e ctx (c v)) (hM : Has ctx (Sl.ro M) := by repeat (first | exact Has.hd | apply Has.tl)) (hP : PM M b o l := by assumption) (hf : fld t i = some off := by exact rfl) (hs : sc u = true := by exact rfl) (hv : l[kk + off]? = some (.int k v) := by first | exact rfl | assumption | (simp only [List.getElem?_cons_zero, List.getElem?_cons_succ]; done) | (simp; done)) : Ent e ctx (nI t (.pointer (some ⟨b, o + kk, none⟩)) i u k c) := Ent.nil (Ent.opR (st_field hf).still (Ent.opI (by have := st_loadR (e := e) (t := u) (i := kk + off) (hP.rds hM) hs hv; rw [← Nat.add_assoc] at this; exact this) h))
theorem Ent.wnBp {t b o i u off : Nat} {l : List Value} {v : Bool} {c : Bool → WP} (h : Ent e ctx (c v)) (hM : Has ctx (Sl.ro M) := by repeat (first | exact Has.hd | apply Has.tl)) (hP : PM M b o l := by assumption) (hf : fld t i = some off := by exact rfl) (hs : sc u = true := by exact rfl) (hv : l[off]? = some (.bool v) := by first | exact rfl | assumption | (simp only [List.getElem?_cons_zero, List.getElem?_cons_succ]; done) | (simp; done)) : Ent e ctx (nB t (.pointer (some ⟨b, o, none⟩)) i u c) := Ent.nil (Ent.opR (st_field hf).still (Ent.opB (st_loadR (i := off) (hP.rds hM) hs hv) h))
theorem Ent.wnBq {t b o i u off kk : Nat} {l : List Value} {v : Bool} {c : Bool → WP} (h : Ent e ctx (c v)) (hM : Has ctx (Sl.ro M) := by repeat (first | exact Has.hd | apply Has.tl)) (hP : PM M b o l := by assumption) (hf : fld t i = some off := by exact rfl) (hs : sc u = true := by exact rfl) (hv : l[kk + off]? = some (.bool v) := by first | exact rfl | assumption | (simp only [List.getElem?_cons_zero, List.getElem?_cons_succ]; done) | (simp; done)) : Ent e ctx (nB t (.pointer (some ⟨b, o + kk, none⟩)) i u c) := Ent.nil (Ent.opR (st_field hf).still (Ent.opB (by have := st_loadR (e := e) (t := u) (i := kk + off) (hP.rds hM) hs hv; rw [← Nat.add_assoc] at this; exact this) h))
theorem Ent.wnSp {t b o i u off : Nat} {l : List Value} {v : ByteArray} {c : ByteArray → WP} (h : Ent e ctx (c v)) (hM : Has ctx (Sl.ro M) := by repeat (first | exact Has.hd | apply Has.tl)) (hP : PM M b o l := by assumption) (hf : fld t i = some off := by exact rfl) (hs : sc u = true := by exact rfl) (hv : l[off]? = some (.string v) := by first | exact rfl | assumption | (simp only [List.getElem?_cons_zero, List.getElem?_cons_succ]; done) | (simp; done)) : Ent e ctx (nS t (.pointer (some ⟨b, o, none⟩)) i u c) := Ent.nil (Ent.opR (st_field hf).still (Ent.opS (st_loadR (i := off) (hP.rds hM) hs hv) h))
theorem Ent.wnSq {t b o i u off kk : Nat} {l : List Value} {v : ByteArray} {c : ByteArray → WP} (h : Ent e ctx (c v)) (hM : Has ctx (Sl.ro M) := by repeat (first | exact Has.hd | apply Has.tl)) (hP : PM M b o l := by assumption) (hf : fld t i = some off := by exact rfl) (hs : sc u = true := by exact rfl) (hv : l[kk + off]? = some (.string v) := by first | exact rfl | assumption | (simp only [List.getElem?_cons_zero, List.getElem?_cons_succ]; done) | (simp; done)) : Ent e ctx (nS t (.pointer (some ⟨b, o + kk, none⟩)) i u c) := Ent.nil (Ent.opR (st_field hf).still (Ent.opS (by have := st_loadR (e := e) (t := u) (i := kk + off) (hP.rds hM) hs hv; rw [← Nat.add_assoc] at this; exact this) h))
theorem Ent.wnAp {t b o i u off m : Nat} {l cs : List Value} {c : Value → WP} (h : Ent e ctx (c (.agg cs.toArray))) (hM : Has ctx (Sl.ro M) := by repeat (first | exact Has.hd | apply Has.tl)) (hP : PM M b o l := by assumption) (hf : fld t i = some off := by exact rfl) (hs : ag u = some m := by exact rfl) (hv : (l.drop (off)).take m = cs := by (try simp only [List.take_succ_cons, List.take_zero, List.take_nil, List.drop_succ_cons, List.drop_zero, List.drop_nil, Nat.reduceAdd, Nat.zero_add]); first | done | exact rfl) (hn : cs.length = m := by exact rfl) : Ent e ctx (nR t (.pointer (some ⟨b, o, none⟩)) i u c) := Ent.nil (Ent.opR (st_field hf).still (Ent.opR (st_loadRA (i := off) (hP.rds hM) hs hv hn) h))
theorem Ent.wnAq {t b o i u off m kk : Nat} {l cs : List Value} {c : Value → WP} (h : Ent e ctx (c (.agg cs.toArray))) (hM : Has ctx (Sl.ro M) := by repeat (first | exact Has.hd | apply Has.tl)) (hP : PM M b o l := by assumption) (hf : fld t i = some off := by exact rfl) (hs : ag u = some m := by exact rfl) (hv : (l.drop (kk + off)).take m = cs := by (try simp only [List.take_succ_cons, List.take_zero, List.take_nil, List.drop_succ_cons, List.drop_zero, List.drop_nil, Nat.reduceAdd, Nat.zero_add]); first | done | exact rfl) (hn : cs.length = m := by exact rfl) : Ent e ctx (nR t (.pointer (some ⟨b, o + kk, none⟩)) i u c) := Ent.nil (Ent.opR (st_field hf).still (Ent.opR (by have := st_loadRA (e := e) (t := u) (i := kk + off) (hP.rds hM) hs hv hn; rw [← Nat.add_assoc] at this; exact this) h))
theorem Ent.wgRp {t b o i u off : Nat} {l : List Value} {v : Value} {c : Value → WP} (h : Ent e ctx (c v)) (hM : Has R (Sl.ro M) := by repeat (first | exact Has.hd | apply Has.tl)) (hP : PM M b o l := by assumption) (hf : fld t i = some off := by exact rfl) (hs : sc u = true := by exact rfl) (hv : l[off]? = some (v) := by first | exact rfl | assumption | (simp only [List.getElem?_cons_zero, List.getElem?_cons_succ]; done) | (simp; done)) : Ent e ctx (gR (Sat e (sepL R)) t (.pointer (some ⟨b, o, none⟩)) i u c) := Ent.puR (st_field hf) (Ent.stR (st_loadR (i := off) (hP.rds hM) hs hv) h)
theorem Ent.wgRq {t b o i u off kk : Nat} {l : List Value} {v : Value} {c : Value → WP} (h : Ent e ctx (c v)) (hM : Has R (Sl.ro M) := by repeat (first | exact Has.hd | apply Has.tl)) (hP : PM M b o l := by assumption) (hf : fld t i = some off := by exact rfl) (hs : sc u = true := by exact rfl) (hv : l[kk + off]? = some (v) := by first | exact rfl | assumption | (simp only [List.getElem?_cons_zero, List.getElem?_cons_succ]; done) | (simp; done)) : Ent e ctx (gR (Sat e (sepL R)) t (.pointer (some ⟨b, o + kk, none⟩)) i u c) := Ent.puR (st_field hf) (Ent.stR (by have := st_loadR (e := e) (t := u) (i := kk + off) (hP.rds hM) hs hv; rw [← Nat.add_assoc] at this; exact this) h)
theorem Ent.wgIp {t b o i u off : Nat} {l : List Value} {v : Int} {c : Int → WP} {k : IntKind} (h : Ent e ctx (c v)) (hM : Has R (Sl.ro M) := by repeat (first | exact Has.hd | apply Has.tl)) (hP : PM M b o l := by assumption) (hf : fld t i = some off := by exact rfl) (hs : sc u = true := by exact rfl) (hv : l[off]? = some (.int k v) := by first | exact rfl | assumption | (simp only [List.getElem?_cons_zero, List.getElem?_cons_succ]; done) | (simp; done)) : Ent e ctx (gI (Sat e (sepL R)) t (.pointer (some ⟨b, o, none⟩)) i u k c) := Ent.puR (st_field hf) (Ent.stI (st_loadR (i := off) (hP.rds hM) hs hv) h)
theorem Ent.wgIq {t b o i u off kk : Nat} {l : List Value} {v : Int} {c : Int → WP} {k : IntKind} (h : Ent e ctx (c v)) (hM : Has R (Sl.ro M) := by repeat (first | exact Has.hd | apply Has.tl)) (hP : PM M b o l := by assumption) (hf : fld t i = some off := by exact rfl) (hs : sc u = true := by exact rfl) (hv : l[kk + off]? = some (.int k v) := by first | exact rfl | assumption | (simp only [List.getElem?_cons_zero, List.getElem?_cons_succ]; done) | (simp; done)) : Ent e ctx (gI (Sat e (sepL R)) t (.pointer (some ⟨b, o + kk, none⟩)) i u k c) := Ent.puR (st_field hf) (Ent.stI (by have := st_loadR (e := e) (t := u) (i := kk + off) (hP.rds hM) hs hv; rw [← Nat.add_assoc] at this; exact this) h)
theorem Ent.wgBp {t b o i u off : Nat} {l : List Value} {v : Bool} {c : Bool → WP} (h : Ent e ctx (c v)) (hM : Has R (Sl.ro M) := by repeat (first | exact Has.hd | apply Has.tl)) (hP : PM M b o l := by assumption) (hf : fld t i = some off := by exact rfl) (hs : sc u = true := by exact rfl) (hv : l[off]? = some (.bool v) := by first | exact rfl | assumption | (simp only [List.getElem?_cons_zero, List.getElem?_cons_succ]; done) | (simp; done)) : Ent e ctx (gB (Sat e (sepL R)) t (.pointer (some ⟨b, o, none⟩)) i u c) := Ent.puR (st_field hf) (Ent.stB (st_loadR (i := off) (hP.rds hM) hs hv) h)
theorem Ent.wgBq {t b o i u off kk : Nat} {l : List Value} {v : Bool} {c : Bool → WP} (h : Ent e ctx (c v)) (hM : Has R (Sl.ro M) := by repeat (first | exact Has.hd | apply Has.tl)) (hP : PM M b o l := by assumption) (hf : fld t i = some off := by exact rfl) (hs : sc u = true := by exact rfl) (hv : l[kk + off]? = some (.bool v) := by first | exact rfl | assumption | (simp only [List.getElem?_cons_zero, List.getElem?_cons_succ]; done) | (simp; done)) : Ent e ctx (gB (Sat e (sepL R)) t (.pointer (some ⟨b, o + kk, none⟩)) i u c) := Ent.puR (st_field hf) (Ent.stB (by have := st_loadR (e := e) (t := u) (i := kk + off) (hP.rds hM) hs hv; rw [← Nat.add_assoc] at this; exact this) h)
theorem Ent.wgSp {t b o i u off : Nat} {l : List Value} {v : ByteArray} {c : ByteArray → WP} (h : Ent e ctx (c v)) (hM : Has R (Sl.ro M) := by repeat (first | exact Has.hd | apply Has.tl)) (hP : PM M b o l := by assumption) (hf : fld t i = some off := by exact rfl) (hs : sc u = true := by exact rfl) (hv : l[off]? = some (.string v) := by first | exact rfl | assumption | (simp only [List.getElem?_cons_zero, List.getElem?_cons_succ]; done) | (simp; done)) : Ent e ctx (gS (Sat e (sepL R)) t (.pointer (some ⟨b, o, none⟩)) i u c) := Ent.puR (st_field hf) (Ent.stS (st_loadR (i := off) (hP.rds hM) hs hv) h)
theorem Ent.wgSq {t b o i u off kk : Nat} {l : List Value} {v : ByteArray} {c : ByteArray → WP} (h : Ent e ctx (c v)) (hM : Has R (Sl.ro M) := by repeat (first | exact Has.hd | apply Has.tl)) (hP : PM M b o l := by assumption) (hf : fld t i = some off := by exact rfl) (hs : sc u = true := by exact rfl) (hv : l[kk + off]? = some (.string v) := by first | exact rfl | assumption | (simp only [List.getElem?_cons_zero, List.getElem?_cons_succ]; done) | (simp; done)) : Ent e ctx (gS (Sat e (sepL R)) t (.pointer (some ⟨b, o + kk, none⟩)) i u c) := Ent.puR (st_field hf) (Ent.stS (by have := st_loadR (e := e) (t := u) (i := kk + off) (hP.rds hM) hs hv; rw [← Nat.add_assoc] at this; exact this) h)
theorem Ent.wgAp {t b o i u off m : Nat} {l cs : List Value} {c : Value → WP} (h : Ent e ctx (c (.agg cs.toArray))) (hM : Has R (Sl.ro M) := by repeat (first | exact Has.hd | apply Has.tl)) (hP : PM M b o l := by assumption) (hf : fld t i = some off := by exact rfl) (hs : ag u = some m := by exact rfl) (hv : (l.drop (off)).take m = cs := by (try simp only [List.take_succ_cons, List.take_zero, List.take_nil, List.drop_succ_cons, List.drop_zero, List.drop_nil, Nat.reduceAdd, Nat.zero_add]); first | done | exact rfl) (hn : cs.length = m := by exact rfl) : Ent e ctx (gR (Sat e (sepL R)) t (.pointer (some ⟨b, o, none⟩)) i u c) := Ent.puR (st_field hf) (Ent.stR (st_loadRA (i := off) (hP.rds hM) hs hv hn) h)
theorem Ent.wgAq {t b o i u off m kk : Nat} {l cs : List Value} {c : Value → WP} (h : Ent e ctx (c (.agg cs.toArray))) (hM : Has R (Sl.ro M) := by repeat (first | exact Has.hd | apply Has.tl)) (hP : PM M b o l := by assumption) (hf : fld t i = some off := by exact rfl) (hs : ag u = some m := by exact rfl) (hv : (l.drop (kk + off)).take m = cs := by (try simp only [List.take_succ_cons, List.take_zero, List.take_nil, List.drop_succ_cons, List.drop_zero, List.drop_nil, Nat.reduceAdd, Nat.zero_add]); first | done | exact rfl) (hn : cs.length = m := by exact rfl) : Ent e ctx (gR (Sat e (sepL R)) t (.pointer (some ⟨b, o + kk, none⟩)) i u c) := Ent.puR (st_field hf) (Ent.stR (by have := st_loadRA (e := e) (t := u) (i := kk + off) (hP.rds hM) hs hv hn; rw [← Nat.add_assoc] at this; exact this) h)
theorem Ent.whRp {t b o i u off : Nat} {l : List Value} {v : Value} {c : Value → WP} (h : Ent e ctx (c v)) (hM : Has R (Sl.ro M) := by repeat (first | exact Has.hd | apply Has.tl)) (hP : PM M b o l := by assumption) (hf : fld t i = some off := by exact rfl) (hs : sc u = true := by exact rfl) (hv : l[off]? = some (v) := by first | exact rfl | assumption | (simp only [List.getElem?_cons_zero, List.getElem?_cons_succ]; done) | (simp; done)) : Ent e ctx (hR (Sat e (sepL R)) t (.pointer (some ⟨b, o, none⟩)) i u c) := Ent.nil (Ent.puR (st_field hf) (Ent.stR (st_loadR (i := off) (hP.rds hM) hs hv) h))
theorem Ent.whRq {t b o i u off kk : Nat} {l : List Value} {v : Value} {c : Value → WP} (h : Ent e ctx (c v)) (hM : Has R (Sl.ro M) := by repeat (first | exact Has.hd | apply Has.tl)) (hP : PM M b o l := by assumption) (hf : fld t i = some off := by exact rfl) (hs : sc u = true := by exact rfl) (hv : l[kk + off]? = some (v) := by first | exact rfl | assumption | (simp only [List.getElem?_cons_zero, List.getElem?_cons_succ]; done) | (simp; done)) : Ent e ctx (hR (Sat e (sepL R)) t (.pointer (some ⟨b, o + kk, none⟩)) i u c) := Ent.nil (Ent.puR (st_field hf) (Ent.stR (by have := st_loadR (e := e) (t := u) (i := kk + off) (hP.rds hM) hs hv; rw [← Nat.add_assoc] at this; exact this) h))
theorem Ent.whIp {t b o i u off : Nat} {l : List Value} {v : Int} {c : Int → WP} {k : IntKind} (h : Ent e ctx (c v)) (hM : Has R (Sl.ro M) := by repeat (first | exact Has.hd | apply Has.tl)) (hP : PM M b o l := by assumption) (hf : fld t i = some off := by exact rfl) (hs : sc u = true := by exact rfl) (hv : l[off]? = some (.int k v) := by first | exact rfl | assumption | (simp only [List.getElem?_cons_zero, List.getElem?_cons_succ]; done) | (simp; done)) : Ent e ctx (hI (Sat e (sepL R)) t (.pointer (some ⟨b, o, none⟩)) i u k c) := Ent.nil (Ent.puR (st_field hf) (Ent.stI (st_loadR (i := off) (hP.rds hM) hs hv) h))
theorem Ent.whIq {t b o i u off kk : Nat} {l : List Value} {v : Int} {c : Int → WP} {k : IntKind} (h : Ent e ctx (c v)) (hM : Has R (Sl.ro M) := by repeat (first | exact Has.hd | apply Has.tl)) (hP : PM M b o l := by assumption) (hf : fld t i = some off := by exact rfl) (hs : sc u = true := by exact rfl) (hv : l[kk + off]? = some (.int k v) := by first | exact rfl | assumption | (simp only [List.getElem?_cons_zero, List.getElem?_cons_succ]; done) | (simp; done)) : Ent e ctx (hI (Sat e (sepL R)) t (.pointer (some ⟨b, o + kk, none⟩)) i u k c) := Ent.nil (Ent.puR (st_field hf) (Ent.stI (by have := st_loadR (e := e) (t := u) (i := kk + off) (hP.rds hM) hs hv; rw [← Nat.add_assoc] at this; exact this) h))
theorem Ent.whBp {t b o i u off : Nat} {l : List Value} {v : Bool} {c : Bool → WP} (h : Ent e ctx (c v)) (hM : Has R (Sl.ro M) := by repeat (first | exact Has.hd | apply Has.tl)) (hP : PM M b o l := by assumption) (hf : fld t i = some off := by exact rfl) (hs : sc u = true := by exact rfl) (hv : l[off]? = some (.bool v) := by first | exact rfl | assumption | (simp only [List.getElem?_cons_zero, List.getElem?_cons_succ]; done) | (simp; done)) : Ent e ctx (hB (Sat e (sepL R)) t (.pointer (some ⟨b, o, none⟩)) i u c) := Ent.nil (Ent.puR (st_field hf) (Ent.stB (st_loadR (i := off) (hP.rds hM) hs hv) h))
theorem Ent.whBq {t b o i u off kk : Nat} {l : List Value} {v : Bool} {c : Bool → WP} (h : Ent e ctx (c v)) (hM : Has R (Sl.ro M) := by repeat (first | exact Has.hd | apply Has.tl)) (hP : PM M b o l := by assumption) (hf : fld t i = some off := by exact rfl) (hs : sc u = true := by exact rfl) (hv : l[kk + off]? = some (.bool v) := by first | exact rfl | assumption | (simp only [List.getElem?_cons_zero, List.getElem?_cons_succ]; done) | (simp; done)) : Ent e ctx (hB (Sat e (sepL R)) t (.pointer (some ⟨b, o + kk, none⟩)) i u c) := Ent.nil (Ent.puR (st_field hf) (Ent.stB (by have := st_loadR (e := e) (t := u) (i := kk + off) (hP.rds hM) hs hv; rw [← Nat.add_assoc] at this; exact this) h))
theorem Ent.whSp {t b o i u off : Nat} {l : List Value} {v : ByteArray} {c : ByteArray → WP} (h : Ent e ctx (c v)) (hM : Has R (Sl.ro M) := by repeat (first | exact Has.hd | apply Has.tl)) (hP : PM M b o l := by assumption) (hf : fld t i = some off := by exact rfl) (hs : sc u = true := by exact rfl) (hv : l[off]? = some (.string v) := by first | exact rfl | assumption | (simp only [List.getElem?_cons_zero, List.getElem?_cons_succ]; done) | (simp; done)) : Ent e ctx (hS (Sat e (sepL R)) t (.pointer (some ⟨b, o, none⟩)) i u c) := Ent.nil (Ent.puR (st_field hf) (Ent.stS (st_loadR (i := off) (hP.rds hM) hs hv) h))
theorem Ent.whSq {t b o i u off kk : Nat} {l : List Value} {v : ByteArray} {c : ByteArray → WP} (h : Ent e ctx (c v)) (hM : Has R (Sl.ro M) := by repeat (first | exact Has.hd | apply Has.tl)) (hP : PM M b o l := by assumption) (hf : fld t i = some off := by exact rfl) (hs : sc u = true := by exact rfl) (hv : l[kk + off]? = some (.string v) := by first | exact rfl | assumption | (simp only [List.getElem?_cons_zero, List.getElem?_cons_succ]; done) | (simp; done)) : Ent e ctx (hS (Sat e (sepL R)) t (.pointer (some ⟨b, o + kk, none⟩)) i u c) := Ent.nil (Ent.puR (st_field hf) (Ent.stS (by have := st_loadR (e := e) (t := u) (i := kk + off) (hP.rds hM) hs hv; rw [← Nat.add_assoc] at this; exact this) h))
theorem Ent.whAp {t b o i u off m : Nat} {l cs : List Value} {c : Value → WP} (h : Ent e ctx (c (.agg cs.toArray))) (hM : Has R (Sl.ro M) := by repeat (first | exact Has.hd | apply Has.tl)) (hP : PM M b o l := by assumption) (hf : fld t i = some off := by exact rfl) (hs : ag u = some m := by exact rfl) (hv : (l.drop (off)).take m = cs := by (try simp only [List.take_succ_cons, List.take_zero, List.take_nil, List.drop_succ_cons, List.drop_zero, List.drop_nil, Nat.reduceAdd, Nat.zero_add]); first | done | exact rfl) (hn : cs.length = m := by exact rfl) : Ent e ctx (hR (Sat e (sepL R)) t (.pointer (some ⟨b, o, none⟩)) i u c) := Ent.nil (Ent.puR (st_field hf) (Ent.stR (st_loadRA (i := off) (hP.rds hM) hs hv hn) h))
theorem Ent.whAq {t b o i u off m kk : Nat} {l cs : List Value} {c : Value → WP} (h : Ent e ctx (c (.agg cs.toArray))) (hM : Has R (Sl.ro M) := by repeat (first | exact Has.hd | apply Has.tl)) (hP : PM M b o l := by assumption) (hf : fld t i = some off := by exact rfl) (hs : ag u = some m := by exact rfl) (hv : (l.drop (kk + off)).take m = cs := by (try simp only [List.take_succ_cons, List.take_zero, List.take_nil, List.drop_succ_cons, List.drop_zero, List.drop_nil, Nat.reduceAdd, Nat.zero_add]); first | done | exact rfl) (hn : cs.length = m := by exact rfl) : Ent e ctx (hR (Sat e (sepL R)) t (.pointer (some ⟨b, o + kk, none⟩)) i u c) := Ent.nil (Ent.puR (st_field hf) (Ent.stR (by have := st_loadRA (e := e) (t := u) (i := kk + off) (hP.rds hM) hs hv hn; rw [← Nat.add_assoc] at this; exact this) h))
theorem Ent.wlRp {b o u : Nat} {l : List Value} {v : Value} {c : Value → WP} (h : Ent e ctx (c v)) (hM : Has ctx (Sl.ro M) := by repeat (first | exact Has.hd | apply Has.tl)) (hP : PM M b o l := by assumption) (hs : sc u = true := by exact rfl) (hv : l[0]? = some (v) := by first | exact rfl | assumption | (simp only [List.getElem?_cons_zero, List.getElem?_cons_succ]; done) | (simp; done)) : Ent e ctx (lR u (.pointer (some ⟨b, o, none⟩)) c) := Ent.opR (st_loadR (i := 0) (hP.rds hM) hs hv) h
theorem Ent.wlIp {b o u : Nat} {l : List Value} {v : Int} {c : Int → WP} {k : IntKind} (h : Ent e ctx (c v)) (hM : Has ctx (Sl.ro M) := by repeat (first | exact Has.hd | apply Has.tl)) (hP : PM M b o l := by assumption) (hs : sc u = true := by exact rfl) (hv : l[0]? = some (.int k v) := by first | exact rfl | assumption | (simp only [List.getElem?_cons_zero, List.getElem?_cons_succ]; done) | (simp; done)) : Ent e ctx (lI u k (.pointer (some ⟨b, o, none⟩)) c) := Ent.opI (st_loadR (i := 0) (hP.rds hM) hs hv) h
theorem Ent.wlBp {b o u : Nat} {l : List Value} {v : Bool} {c : Bool → WP} (h : Ent e ctx (c v)) (hM : Has ctx (Sl.ro M) := by repeat (first | exact Has.hd | apply Has.tl)) (hP : PM M b o l := by assumption) (hs : sc u = true := by exact rfl) (hv : l[0]? = some (.bool v) := by first | exact rfl | assumption | (simp only [List.getElem?_cons_zero, List.getElem?_cons_succ]; done) | (simp; done)) : Ent e ctx (lB u (.pointer (some ⟨b, o, none⟩)) c) := Ent.opB (st_loadR (i := 0) (hP.rds hM) hs hv) h
theorem Ent.wlSp {b o u : Nat} {l : List Value} {v : ByteArray} {c : ByteArray → WP} (h : Ent e ctx (c v)) (hM : Has ctx (Sl.ro M) := by repeat (first | exact Has.hd | apply Has.tl)) (hP : PM M b o l := by assumption) (hs : sc u = true := by exact rfl) (hv : l[0]? = some (.string v) := by first | exact rfl | assumption | (simp only [List.getElem?_cons_zero, List.getElem?_cons_succ]; done) | (simp; done)) : Ent e ctx (lS u (.pointer (some ⟨b, o, none⟩)) c) := Ent.opS (st_loadR (i := 0) (hP.rds hM) hs hv) h
theorem Ent.wlAp {b o u m : Nat} {l cs : List Value} {c : Value → WP} (h : Ent e ctx (c (.agg cs.toArray))) (hM : Has ctx (Sl.ro M) := by repeat (first | exact Has.hd | apply Has.tl)) (hP : PM M b o l := by assumption) (hs : ag u = some m := by exact rfl) (hv : l.take m = cs := by (try simp only [List.take_succ_cons, List.take_zero, List.take_nil]); first | done | exact rfl) (hn : cs.length = m := by exact rfl) : Ent e ctx (lR u (.pointer (some ⟨b, o, none⟩)) c) := Ent.opR (st_loadRA (i := 0) (hP.rds hM) hs (by rw [List.drop_zero]; exact hv) hn) h
/-- a shift to the right -/
theorem st_shr {t : TypeId} {X Y : Operand} {k k' : IntKind} {a b : Int} (h0 : 0 ≤ b) (h1 : b ≤ k.bits) : Pu (bS .shr t X Y (.int k a) (.int k' b)) (.int k (a / 2 ^ b.toNat)) :=
  still_bS (fun w => by simp [eqGuard_shr]) fun w => by simp [binOp_shr, shift_shr _ _ _ _ h0 h1]
/-- a number as text -/
theorem st_i2s {s d : TypeId} {k : IntKind} {n : Int} (hs : dd s = some (.int k)) (hd : dd d = some .str) : Pu (vS (convert s d (.int k n))) (.string (Utf8.encode n)) := Still.of_run fun w => by
  simp [convert, run_underlying (dd_int hs), run_underlying (dd_str hd), Conv.intToString]
theorem enc_ascii {n : Nat} (h : n < 128) : Utf8.encode (n : Int) = ba [UInt8.ofNat n] := by
  have hv : Utf8.valid (n : Int) = true := by unfold Utf8.valid; simp; omega
  unfold Utf8.encode
  simp [hv, h]
/-- an aggregate read in a region -/
theorem Ent.wgA {t b o i u off m : Nat} {l cs : List Value} {c : Value → WP} (h : Ent e ctx (c (.agg cs.toArray))) (hf : fld t i = some off := by exact rfl) (hs : ag u = some m := by exact rfl) (hh : Has R (pt b l) := by repeat (first | exact Has.hd | apply Has.tl)) (hv : (l.drop (o + off)).take m = cs := by (try simp only [List.take_succ_cons, List.take_zero, List.take_nil, List.drop_succ_cons, List.drop_zero, List.drop_nil, Nat.reduceAdd, Nat.zero_add]); first | done | exact rfl) (hn : cs.length = m := by exact rfl) : Ent e ctx (gR (Sat e (sepL R)) t (.pointer (some ⟨b, o, none⟩)) i u c) := Ent.puR (st_field hf) (Ent.stR (st_loadA hh hs hv hn) h)
/-- a field of an element of one's own slice is written -/
theorem Ent.wfWo {t y n cp u by_ sz off g i : Nat} {a : Option Addr} {j : IntKind} {l : List Value} {x : Value} {c : WP} (h : Ent e (SlO a n cp sz (l.set (i * sz + off) x) :: ctx') c) (hp : Pick ctx (SlO a n cp sz l) ctx' := by (repeat (first | exact Pick.hd | apply Pick.tl))) (ht : dd t = some (.sl y) := by exact rfl) (hs : szof y = some (sz, by_) := by exact rfl)
    (hf : fld y g = some off := by exact rfl) (ho : off < sz := by decide) (hu : sc u = true := by exact rfl) (hv : one x = true := by exact rfl) (h1 : i < n := by omega) : Ent e ctx (oR (vS (Instr.indexAt t (.slice a n cp) (.int j (i : Int)))) fun q => fW y q g u x c) := Ent.pick hp <| Ent.slO fun k1 k2 k3 k4 => SlO.open2 (fun b r hc hcr ha => by
    subst ha
    refine Ent.opR (st_ix ht hs (by omega) (by omega)).still ?_
    rw [Int.toNat_natCast]
    have hlt : i * sz + off < l.length := by
      have h2 : (i + 1) * sz ≤ n * sz := Nat.mul_le_mul_right sz h1
      rw [Nat.add_mul, Nat.one_mul] at h2
      omega
    refine Ent.opR (st_field hf).still ?_
    refine Ent.store (l := l ++ r) Upd.hd hu hv (by rw [List.length_append]; omega) ?_
    refine h.imp fun y hy => sepL_cons (fun g hg => ?_) (fun _ z => z) hy
    have e1 : (l ++ r).set (0 + i * sz + off) x = l.set (i * sz + off) x ++ r := by
      rw [Nat.zero_add, List.set_append_left _ _ hlt]
    rw [e1] at hg
    refine ⟨by simpa using k1, .inr ⟨b, r, rfl, hc, by simpa using hcr, hg⟩⟩) (fun ha hn hl => by omega)
/-- as Ent.go, through pointers into what lies still, too -/
theorem Ent.gp {p p' : WP} (k : Ent e ctx' p') (h : Ent e ctx' p' → Ent e ctx p := by intro k; (repeat (first | refine Ent.wnR ?_ | refine Ent.wnI ?_ | refine Ent.wnB ?_ | refine Ent.wnS ?_ | refine Ent.wnA ?_ | refine Ent.wfR ?_ | refine Ent.wfI ?_ | refine Ent.wfB ?_ | refine Ent.wfS ?_ | refine Ent.wfA ?_ | refine Ent.wlR ?_ | refine Ent.wlI ?_ | refine Ent.wlB ?_ | refine Ent.wlS ?_ | refine Ent.wlA ?_ | refine Ent.nil ?_ | refine Ent.war ?_ | refine Ent.wT ?_ | refine Ent.wF ?_ | refine Ent.wsto ?_ | refine Ent.wnW ?_ | refine Ent.wfW ?_ | refine Ent.wlen ?_ | refine Ent.wlenB ?_ | refine Ent.wlenS ?_ | refine Ent.wiIm ?_ | refine Ent.wiRm ?_ | refine Ent.wiSm ?_ | refine Ent.wiBm ?_ | refine Ent.wiAm ?_ | refine Ent.wiIh ?_ | refine Ent.wiRh ?_ | refine Ent.wiSh ?_ | refine Ent.wiBh ?_ | refine Ent.wjIm ?_ | refine Ent.wjIh ?_ | refine Ent.wjIq ?_ | refine Ent.wjIb ?_ | refine Ent.wjRm ?_ | refine Ent.wjRh ?_ | refine Ent.wjRq ?_ | refine Ent.wjRb ?_ | refine Ent.wjSm ?_ | refine Ent.wjSh ?_ | refine Ent.wjSq ?_ | refine Ent.wjSb ?_ | refine Ent.wjBm ?_ | refine Ent.wjBh ?_ | refine Ent.wjBq ?_ | refine Ent.wjBb ?_ | refine Ent.wiIb ?_ | refine Ent.wiRb ?_ | refine Ent.wiSb ?_ | refine Ent.wiBb ?_ | refine Ent.wiIq ?_ | refine Ent.wiRq ?_ | refine Ent.wiSq ?_ | refine Ent.wiBq ?_ | refine Ent.wiIo ?_ | refine Ent.wiRo ?_ | refine Ent.wiSo ?_ | refine Ent.wiBo ?_ | refine Ent.wiAo ?_ | refine Ent.wiIp ?_ | refine Ent.wiRp ?_ | refine Ent.wiSp ?_ | refine Ent.wiBp ?_ | refine Ent.wstoA ?_ | refine Ent.wnWA ?_ | refine Ent.wfWA ?_ | refine Ent.wiWp ?_ | refine Ent.wiWAp ?_ | refine Ent.draw0 ?_ | refine Ent.wand ?_ | refine Ent.wgR ?_ | refine Ent.wgI ?_ | refine Ent.wgB ?_ | refine Ent.wgS ?_ | refine Ent.whR ?_ | refine Ent.whI ?_ | refine Ent.whB ?_ | refine Ent.whS ?_ | refine Ent.wqR ?_ | refine Ent.wqI ?_ | refine Ent.wqB ?_ | refine Ent.wqS ?_ | refine Ent.woR ?_ | refine Ent.woI ?_ | refine Ent.woB ?_ | refine Ent.woS ?_ | refine Ent.wsR ?_ | refine Ent.wsI ?_ | refine Ent.wsB ?_ | refine Ent.wsS ?_ | refine Ent.wfRp ?_ | refine Ent.wfRq ?_ | refine Ent.wfIp ?_ | refine Ent.wfIq ?_ | refine Ent.wfBp ?_ | refine Ent.wfBq ?_ | refine Ent.wfSp ?_ | refine Ent.wfSq ?_ | refine Ent.wfAp ?_ | refine Ent.wfAq ?_ | refine Ent.wnRp ?_ | refine Ent.wnRq ?_ | refine Ent.wnIp ?_ | refine Ent.wnIq ?_ | refine Ent.wnBp ?_ | refine Ent.wnBq ?_ | refine Ent.wnSp ?_ | refine Ent.wnSq ?_ | refine Ent.wnAp ?_ | refine Ent.wnAq ?_ | refine Ent.wgRp ?_ | refine Ent.wgRq ?_ | refine Ent.wgIp ?_ | refine Ent.wgIq ?_ | refine Ent.wgBp ?_ | refine Ent.wgBq ?_ | refine Ent.wgSp ?_ | refine Ent.wgSq ?_ | refine Ent.wgAp ?_ | refine Ent.wgAq ?_ | refine Ent.whRp ?_ | refine Ent.whRq ?_ | refine Ent.whIp ?_ | refine Ent.whIq ?_ | refine Ent.whBp ?_ | refine Ent.whBq ?_ | refine Ent.whSp ?_ | refine Ent.whSq ?_ | refine Ent.whAp ?_ | refine Ent.whAq ?_ | refine Ent.wlRp ?_ | refine Ent.wlIp ?_ | refine Ent.wlBp ?_ | refine Ent.wlSp ?_ | refine Ent.wlAp ?_)); exact k) : Ent e ctx p := h k
end
end Go.Proofs.YtfofnagocedlgaaDoor.Sl
end
section
/-
  THE STORE UNDER A SCAN (layer 21), in plain Lean: what is kept stays.
-/
set_option maxRecDepth 100000
set_option linter.unusedVariables false
set_option linter.unusedSectionVars false
set_option linter.unusedSimpArgs false
set_option maxHeartbeats 0
namespace Go.Proofs.YtfofnagocedlgaaDoor.Tx
open Go Sh Sl
open Go.RowKit
attribute [local irreducible] condK ArK NilK OpK FnK StK joinK loopK DrawK andK PuK NxK EnK vS uS bS callS invokeS
def scanned (x : Et) : Prop := (∃ r, x.url = [115, 99, 97, 110] ++ r) ∧ size x ≤ 71
/-- the ids of what is kept, the last one first -/
def kpl : Nat → List Int
  | 0 => []
  | k + 1 => (k : Int) :: kpl k
theorem kpl_mem {y : Int} : ∀ {k : Nat}, y ∈ kpl k ↔ 0 ≤ y ∧ y < k
  | 0 => by constructor
            · intro h; cases h
            · intro h; omega
  | k + 1 => by
    unfold kpl
    rw [List.mem_cons, kpl_mem]
    omega
theorem kpl_len : ∀ k, (kpl k).length = k
  | 0 => rfl
  | k + 1 => by simp [kpl, kpl_len k]
theorem kpl_out (k : Nat) : Lr.out (kpl k) k = kpl k := by
  refine Lr.out_id fun h => ?_
  have := kpl_mem.1 h
  omega
structure Kq (ys : List Et) (s : St3) : Prop where
  len : s.X.length = 64
  at_ : ∀ (j : Nat) y, ys[j]? = some y → s.X[j]? = some (some y)
  kp : s.kp = kpl ys.length
  tr : ∀ t ∈ s.tr, (ys.length : Int) ≤ t
  more : ∀ (j : Nat) x, ys.length ≤ j → s.X[j]? = some (some x) → scanned x
  mem : ∀ i : Nat, (∃ x, s.X[i]? = some (some x)) ↔ (i : Int) ∈ s.tr ++ s.kp
theorem gX_get {pd : Et → Bool} {X : List (Option Et)} (hX : X.length ≤ 64) (j : Nat) : (gX pd X 64)[j]? = (X[j]?).map (gq pd) := by
  have : gX pd X 64 = X.map (gq pd) := by
    unfold gX
    rw [List.take_of_length_le hX, List.drop_eq_nil_of_le hX, List.append_nil]
  rw [this, List.getElem?_map]
theorem Kq.gone {ys : List Et} {s : St3} {pd : Et → Bool} (h : Kq ys s) (hp : ∀ y ∈ ys, pd y = false) : Kq ys (gone3 pd s) := by
  have hX := Nat.le_of_eq h.len
  have occ : ∀ (i : Nat) x, (gX pd s.X 64)[i]? = some (some x) ↔ s.X[i]? = some (some x) ∧ pd x = false := fun i x => by
    rw [gX_get hX]
    cases ho : s.X[i]? with
    | none => simp
    | some o =>
      cases o with
      | none => simp [gq]
      | some z =>
        simp only [Option.map_some, Option.some.injEq, gq]
        by_cases hz : pd z = true
        · rw [if_pos hz]
          constructor
          · intro hh; cases hh
          · rintro ⟨rfl, h2⟩; rw [hz] at h2; cases h2
        · rw [if_neg hz]
          constructor
          · intro hh; cases hh; exact ⟨rfl, by simpa using hz⟩
          · rintro ⟨rfl, _⟩; rfl
  have lmem : ∀ (l : List Int) (i : Nat), (i : Int) ∈ gL pd s.X 64 l ↔ (i : Int) ∈ l ∧ ¬ (i < 64 ∧ ∃ x, s.X[i]? = some (some x) ∧ pd x = true) := fun l i => by
    unfold gL
    rw [List.mem_filter]
    refine and_congr_right fun _ => ?_
    unfold gA
    rw [Int.toNat_natCast]
    cases ho : (s.X[i]?).join with
    | none =>
      have hno : ∀ x, s.X[i]? ≠ some (some x) := fun x hx => by rw [hx] at ho; cases ho
      simp [qo, hno]
    | some z =>
      have hz := Option.join_eq_some_iff.1 ho
      simp only [qo, hz]
      constructor
      · intro hh ⟨h1, x, h2, h3⟩
        cases h2
        rw [h3, decide_eq_true (by omega : (0 : Int) ≤ i), decide_eq_true (by omega : (i : Int) < (64 : Nat))] at hh
        cases hh
      · intro hh
        cases hpz : pd z with
        | false => simp
        | true =>
          by_cases h1 : i < 64
          · exact absurd ⟨h1, z, rfl, hpz⟩ hh
          · rw [decide_eq_false (by omega : ¬ (i : Int) < (64 : Nat))]; simp
  refine ⟨?_, fun j y hy => (occ j y).2 ⟨h.at_ j y hy, hp y (List.mem_of_getElem? hy)⟩, ?_, fun t ht => h.tr t (List.mem_filter.1 ht).1, fun j x hj hx => h.more j x hj ((occ j x).1 hx).1, fun i => ?_⟩
  · show (gX pd s.X 64).length = 64
    unfold gX
    rw [List.take_of_length_le hX, List.drop_eq_nil_of_le hX]
    simp [h.len]
  · show gL pd s.X 64 s.kp = _
    rw [h.kp]
    unfold gL
    refine List.filter_eq_self.2 fun y hy => ?_
    obtain ⟨h1, h2⟩ := kpl_mem.1 hy
    obtain ⟨i, rfl⟩ := Int.eq_ofNat_of_zero_le h1
    obtain ⟨z, hz⟩ : ∃ z, ys[i]? = some z := ⟨_, List.getElem?_eq_getElem (by omega)⟩
    have := h.at_ i z hz
    unfold gA
    rw [Int.toNat_natCast, this]
    simp [qo, hp z (List.mem_of_getElem? hz)]
  · show (∃ x, (gX pd s.X 64)[i]? = some (some x)) ↔ (i : Int) ∈ gL pd s.X 64 s.tr ++ gL pd s.X 64 s.kp
    rw [List.mem_append, lmem, lmem]
    constructor
    · rintro ⟨x, hx⟩
      obtain ⟨h1, h2⟩ := (occ i x).1 hx
      have hno : ¬ (i < 64 ∧ ∃ x, s.X[i]? = some (some x) ∧ pd x = true) := by
        rintro ⟨_, z, hz, hpz⟩
        rw [h1] at hz
        cases hz
        rw [h2] at hpz; cases hpz
      rcases List.mem_append.1 ((h.mem i).1 ⟨x, h1⟩) with h3 | h3
      · exact .inl ⟨h3, hno⟩
      · exact .inr ⟨h3, hno⟩
    · intro hh
      have h3 : (i : Int) ∈ s.tr ++ s.kp := by
        rcases hh with hh | hh
        · exact List.mem_append_left _ hh.1
        · exact List.mem_append_right _ hh.1
      have h4 : ¬ (i < 64 ∧ ∃ x, s.X[i]? = some (some x) ∧ pd x = true) := by
        rcases hh with hh | hh <;> exact hh.2
      obtain ⟨x, hx⟩ := (h.mem i).2 h3
      have hi := (List.getElem?_eq_some_iff.1 hx).1
      rw [h.len] at hi
      refine ⟨x, (occ i x).2 ⟨hx, ?_⟩⟩
      cases hpx : pd x with
      | false => rfl
      | true => exact absurd ⟨hi, x, hx, hpx⟩ h4
theorem used_le {X : List (Option Et)} {m : Nat} (h : ∀ x, some x ∈ X → size x ≤ m) : used X ≤ X.length * m := by
  induction X with
  | nil => simp [used]
  | cons o r ih =>
    have h1 := ih fun x hx => h x (List.mem_cons_of_mem _ hx)
    unfold used at h1 ⊢
    rw [List.map_cons, List.sum_cons, List.length_cons, Nat.add_mul]
    cases o with
    | none => dsimp only; omega
    | some x =>
      have := h x (by simp)
      dsimp only
      omega
theorem Kq.size {ys : List Et} {s : St3} (h : Kq ys s) (hy : ∀ y ∈ ys, Tx.size y ≤ 71) : used s.X ≤ 4544 := by
  have := used_le (X := s.X) (m := 71) fun x hx => by
    obtain ⟨j, hj⟩ := List.getElem?_of_mem hx
    rcases Nat.lt_or_ge j ys.length with h1 | h1
    · obtain ⟨y, hyj⟩ : ∃ y, ys[j]? = some y := ⟨_, List.getElem?_eq_getElem h1⟩
      have := h.at_ j y hyj
      rw [hj] at this
      cases this
      exact hy _ (List.mem_of_getElem? hyj)
    · exact (h.more j x h1 hj).2
  rw [h.len] at this
  omega
theorem cnt_le {X : List (Option Et)} {m : Nat} (h : ∀ (j : Nat) x, X[j]? = some (some x) → j < m) : cnt X ≤ m := by
  have e1 : cnt X = cnt (X.take m) + cnt (X.drop m) := by
    unfold cnt
    rw [← List.length_append, ← List.filter_append, List.take_append_drop]
  have h1 : cnt (X.drop m) = 0 := by
    unfold cnt
    rw [List.filter_eq_nil_iff.2 fun o ho => ?_]
    · rfl
    · obtain ⟨j, hj⟩ := List.getElem?_of_mem ho
      rw [List.getElem?_drop] at hj
      cases o with
      | none => simp
      | some x => have := h _ x hj; omega
  have h2 : cnt (X.take m) ≤ (X.take m).length := List.length_filter_le _ _
  have := List.length_take_le m X
  omega
theorem Kq.ev {ys : List Et} {s : St3} {most bytes sz : Nat} (h : Kq ys s) (hy : ∀ y ∈ ys, Tx.size y ≤ 71) (hm : ys.length < most) (hb : 4544 + sz ≤ bytes) (hf : full most bytes sz s = true) : Kq ys (ev1 s) := by
  have hu := h.size hy
  have htr : s.tr ≠ [] := by
    intro h0
    have hc : cnt s.X ≤ ys.length := cnt_le fun j x hx => by
      have := (h.mem j).1 ⟨x, hx⟩
      rw [h0, h.kp, List.nil_append] at this
      have := (kpl_mem.1 this).2
      omega
    simp only [full, Bool.or_eq_true, decide_eq_true_eq] at hf
    omega
  obtain ⟨t, ht⟩ : ∃ t, s.tr.getLast? = some t := ⟨_, List.getLast?_eq_some_getLast htr⟩
  have htm := List.mem_of_getLast? ht
  have hv : (Lr.vic s.tr s.kp).1 = t := by unfold Lr.vic; rw [ht]
  have htl := h.tr t htm
  obtain ⟨i, rfl⟩ := Int.eq_ofNat_of_zero_le (by omega : 0 ≤ t)
  obtain ⟨z, hz⟩ := (h.mem i).2 (List.mem_append_left _ htm)
  have hi := (List.getElem?_eq_some_iff.1 hz).1
  have hki : Lr.out s.kp i = s.kp := Lr.out_id fun hh => by
    rw [h.kp] at hh
    have := (kpl_mem.1 hh).2
    omega
  unfold ev1
  rw [hv, Int.toNat_natCast, hki]
  have hne : ∀ j : Nat, j ≠ i → (s.X.set i none)[j]? = s.X[j]? := fun j hj => List.getElem?_set_ne (fun hh => hj hh.symm)
  refine ⟨by rw [List.length_set]; exact h.len, fun j y hyj => ?_, h.kp, fun t ht => h.tr t (List.mem_filter.1 ht).1, fun j x hj hx => ?_, fun j => ?_⟩
  · rw [hne j (by have := (List.getElem?_eq_some_iff.1 hyj).1; omega)]
    exact h.at_ j y hyj
  · by_cases hji : j = i
    · subst hji
      rw [List.getElem?_set_self hi] at hx
      cases hx
    · rw [hne j hji] at hx
      exact h.more j x hj hx
  · by_cases hji : j = i
    · subst hji
      rw [List.getElem?_set_self hi]
      constructor
      · rintro ⟨x, hx⟩; cases hx
      · intro hh
        exfalso
        rcases List.mem_append.1 hh with hh | hh
        · unfold Lr.out at hh
          simp [List.mem_filter] at hh
        · rw [h.kp] at hh
          have := (kpl_mem.1 hh).2
          omega
    · rw [hne j hji, h.mem j, List.mem_append, List.mem_append]
      unfold Lr.out
      simp only [List.mem_filter]
      constructor
      · rintro (hh | hh)
        · exact .inl ⟨hh, by simpa using (fun h : (j : Int) = i => hji (by omega))⟩
        · exact .inr hh
      · rintro (hh | hh)
        · exact .inl hh.1
        · exact .inr hh
theorem Kq.evS {ys : List Et} {most bytes sz : Nat} (hy : ∀ y ∈ ys, Tx.size y ≤ 71) (hm : ys.length < most) (hb : 4544 + sz ≤ bytes) : ∀ (f : Nat) (s : St3), Kq ys s → Kq ys (Tx.evS most bytes sz f s)
  | 0, s, h => h
  | f + 1, s, h => by
    unfold Tx.evS
    split
    · rename_i hf
      exact Kq.evS hy hm hb f _ (h.ev hy hm hb hf)
    · exact h
end Go.Proofs.YtfofnagocedlgaaDoor.Tx
end
