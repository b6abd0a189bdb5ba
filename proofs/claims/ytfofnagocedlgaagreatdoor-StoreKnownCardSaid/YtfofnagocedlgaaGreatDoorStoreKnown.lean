/- StoreKnown: the answers that are known, one by one. -/
import Derived.Test.YtfofnagocedlgaaGreatDoorSz
import Derived.Test.YtfofnagocedlgaaGreatDoorLift
import Derived.Test.YtfofnagocedlgaaGreatDoorCards
import Derived.Test.YtfofnagocedlgaaGreatDoorTie
import Derived.Deep.DeepHandedRow
import Derived.Lib.LaidTab
set_option linter.unusedVariables false
set_option linter.unusedSimpArgs false
set_option maxRecDepth 100000
set_option maxHeartbeats 0
namespace Go.Proofs.YtfofnagocedlgaaGreatDoor.storeKnown
open Go Sh Sl Tx
open Go.ChangeShapes Go.WideShapes Go.ChangeAt Go.RowKit
section
attribute [local irreducible] condK ArK NilK OpK FnK StK joinK loopK DrawK andK PuK NxK EnK vS uS bS callS invokeS
variable {e : Env} {ctx rest : List HProp}
theorem fc_one (f : Tx.Fd) : fc [f] = [.string (ba f.1), .string (ba f.2)] := by unfold fc; rfl
abbrev xV (s1 s2 : Nat) : Et := ⟨[118], 0, 1, some ⟨s1, 0, none⟩, 1, [([120], [49])], 200, [], 0, some ⟨s2, 0, none⟩, 1, [([86, 97, 114, 121], [88])], none, 0, []⟩
abbrev xS (s3 : Nat) : Et := ⟨[119], 0, 0, none, 0, [], 200, [], 0, some ⟨s3, 0, none⟩, 1, [([86, 97, 114, 121], [42])], none, 0, []⟩
theorem spec {K : Bool → WP} (h : Ent e ctx (K true)) : Ent e ctx (law21_StoreKnown K) := by
  (refine Ent.fn law21_StoreKnown_ok ?_; unfold law21_StoreKnown_sh)
  refine Ent.imp (ctx' := Sl.ro (fun _ => none) :: ctx) (fun hp k => ⟨fun _ => none, hp, fun _ => .inl rfl, (fun _ _ hh => by cases hh), Hp.le_refl _, (fun _ _ hh => by cases hh), k⟩) ?_
  refine Ent.join ?_
  refine awake_spec fun M0 _ => ?_
  refine Ent.wF ?_
  refine snew_spec (fun hh => absurd hh (by decide)) fun b bytes most hb hm _ _ => ?_
  obtain rfl : bytes = 1000 := by omega
  obtain rfl : most = 2 := by omega
  refine e_spec (url := [97]) (n := 35) (by decide) fun x1 hx1 => ?_
  have z1 := dU_size hx1
  refine put_own (dU_EB hx1 (by decide) (by decide)) (by decide) (by rw [z1]; decide) (by decide) (fun z hz => (nn_mem hz).elim) fun M1 y1 l1 hy1 s2 hs2 => ?_
  have d1 : dE y1 = dU [97] 35 := hy1.trans hx1
  obtain rfl : s2 = ⟨nn 64, [], []⟩ := by
    rw [hs2]
    exact evS_stop (by unfold full; rw [z1]; decide)
  refine e_spec (url := [98]) (n := 35) (by decide) fun x2 hx2 => ?_
  have z2 := dU_size hx2
  have zy1 := dU_size d1
  refine Ent.imp (ctx' := OwnE x2 (SRep M1 b (some y1 :: nn 63) [0] [] 1000 2 1 :: Sl.ro M1 :: ctx)) (Imp.refl _) ?_
  have u1 := (dU_f d1).1
  refine put_own (dU_EB hx2 (by decide) (by decide)) (by decide) (by rw [z2]; decide) (by decide) (fun z hz => ?_) fun M2 y2 l2 hy2 s2 hs2 => ?_
  · rcases List.mem_cons.1 hz with hz | hz
    · cases hz
      refine pd_ne ?_
      rw [u1, (dU_f hx2).1]; decide
    · exact (nn_mem hz).elim
  have d2 : dE y2 = dU [98] 35 := hy2.trans hx2
  have zy2 := dU_size d2
  have u2 := (dU_f d2).1
  obtain rfl : s2 = ⟨some y1 :: nn 63, [0], []⟩ := by
    rw [hs2]
    refine evS_stop ?_
    unfold full
    rw [z2, used_1, zy1]
    rfl
  refine e_spec (url := [99]) (n := 35) (by decide) fun x3 hx3 => ?_
  have z3 := dU_size hx3
  refine Ent.imp (ctx' := OwnE x3 (SRep M2 b (some y1 :: some y2 :: nn 62) [1, 0] [] 1000 2 2 :: Sl.ro M2 :: ctx)) (Imp.refl _) ?_
  refine put_own (dU_EB hx3 (by decide) (by decide)) (by decide) (by rw [z3]; decide) (by decide) (fun z hz => ?_) fun M3 y3 l3 hy3 s2 hs2 => ?_
  · rcases List.mem_cons.1 hz with hz | hz
    · cases hz
      refine pd_ne ?_
      rw [u1, (dU_f hx3).1]; decide
    · rcases List.mem_cons.1 hz with hz | hz
      · cases hz
        refine pd_ne ?_
        rw [u2, (dU_f hx3).1]; decide
      · exact (nn_mem hz).elim
  have d3 : dE y3 = dU [99] 35 := hy3.trans hx3
  have zy3 := dU_size d3
  have u3 := (dU_f d3).1
  obtain rfl : s2 = ⟨none :: some y2 :: nn 62, [1], []⟩ := by
    rw [hs2]
    refine (evS_step ?_).trans ?_
    · unfold full
      rw [z3]
      rfl
    · refine (evS_stop (s := ⟨none :: some y2 :: nn 62, [1], []⟩) ?_)
      have e1 : used (none :: some y2 :: nn 62) = size y2 := by simp [used, nn]
      unfold full
      rw [z3, e1, zy2]
      rfl
  refine Ent.imp (ctx' := SRep M3 b (some y3 :: some y2 :: nn 62) [0, 1] [] 1000 2 3 :: Sl.ro M3 :: ctx) (Imp.refl _) ?_
  have na : ∀ {u v : Bs} {f : Bool}, u ≠ v → (decide (u = v) && f) = false := fun hne => by rw [decide_eq_false hne]; rfl
  have fa : fdk [97] [] (some y3 :: some y2 :: nn 62) 64 = none := fdk_two (by rw [u3]; exact na (by decide)) (by rw [u2]; exact na (by decide))
  refine look_spec (url := [97]) (l := []) rfl (by decide) (fun _ => ?_) fun i x ya hi hx hya hbx => by rw [fa] at hi; cases hi
  refine Ent.alloc' fun q1 => ?_
  refine Ent.wstoA (l' := ec ez) ?_ (vs := ec ez) (hl := rfl) (hu := by (repeat (first | exact Upd.hd | apply Upd.tl)))
  refine e_spec (url := [98]) (n := 936) (by decide) fun x4 hx4 => ?_
  have z4 := dU_size hx4
  have g4 := dU_f hx4
  refine OwnE.rd fun hr4 => ?_
  refine Ent.imp (ctx' := SRep M3 b (some y3 :: some y2 :: nn 62) [0, 1] [] 1000 2 3 :: Sl.ro M3 :: OwnE x4 ctx) (by (focus ((repeat ((with_reducible apply Imp.pick); (repeat (first | exact Pick.hd | apply Pick.tl)))); (repeat (first | exact Imp.refl _ | exact Imp.nil _ | apply Imp.drop)); done))) ?_
  refine put_spec (hr4 _ .hd (.tl .hd) (.tl (.tl .hd))) (dU_EB hx4 (by decide) (by decide)) (by decide) (fun _ => ?_) fun M' y _ _ _ hsz _ _ _ _ => absurd hsz (by rw [z4]; decide)
  rw [gone_two (x := x4) (y := y3) (z := y2) (pd_ne (by rw [u3, g4.1]; decide)) (by unfold pdP; rw [u2, g4.1, g4.2.2.2.1, (dU_f d2).2.2.2.1]; rfl)]
  dsimp only
  have fb : fdk [98] [] (some y3 :: nn 63) 64 = none := fdk_one (by rw [u3]; exact na (by decide))
  refine look_spec (url := [98]) (l := []) rfl (by decide) (fun _ => ?_) fun i x ya hi hx hya hbx => by rw [fb] at hi; cases hi
  refine Ent.alloc' fun q2 => ?_
  refine Ent.wstoA (l' := ec ez) ?_ (vs := ec ez) (hl := rfl) (hu := by (repeat (first | exact Upd.hd | apply Upd.tl)))
  refine Ent.imp (ctx' := SRep M3 b (some y3 :: nn 63) [0] [] 1000 2 3 :: Sl.ro M3 :: ctx) (by (focus ((repeat ((with_reducible apply Imp.pick); (repeat (first | exact Pick.hd | apply Pick.tl)))); (repeat (first | exact Imp.refl _ | exact Imp.nil _ | apply Imp.drop)); done))) ?_
  refine e_spec (url := [100]) (n := 935) (by decide) fun x5 hx5 => ?_
  have z5 := dU_size hx5
  refine put_own (dU_EB hx5 (by decide) (by decide)) (by decide) (by rw [z5]; decide) (by decide) (fun z hz => ?_) fun M5 y5 l5 hy5 s2 hs2 => ?_
  · rcases List.mem_cons.1 hz with hz | hz
    · cases hz
      refine pd_ne ?_
      rw [u3, (dU_f hx5).1]; decide
    · exact (nn_mem hz).elim
  have d5 : dE y5 = dU [100] 935 := hy5.trans hx5
  have u5 := (dU_f d5).1
  obtain rfl : s2 = ⟨nn 64, [], []⟩ := by
    rw [hs2]
    refine (evS_step ?_).trans ?_
    · unfold full
      rw [z5, used_1, zy3]
      rfl
    · refine (evS_stop (s := ⟨nn 64, [], []⟩) ?_)
      unfold full
      rw [z5]
      decide
  refine Ent.imp (ctx' := SRep M5 b (some y5 :: nn 63) [0] [] 1000 2 4 :: Sl.ro M5 :: ctx) (Imp.refl _) ?_
  refine entries_spec fun M6 ys a c l6 hys _ => ?_
  have hl1 : ys.length = 1 := by
    have := congrArg List.length hys
    simpa [ents, nn] using this
  refine Ent.wlen ?_
  rw [hl1]
  refine Ent.imp (ctx' := SRep M6 b (some y5 :: nn 63) [0] [] 1000 2 4 :: Sl.ro M6 :: ctx) (by (focus ((repeat ((with_reducible apply Imp.pick); (repeat (first | exact Pick.hd | apply Pick.tl)))); (repeat (first | exact Imp.refl _ | exact Imp.nil _ | apply Imp.drop)); done))) ?_
  have hpd : (fun x : Et => decide (x.url = [100])) y5 = true := by
    show decide (y5.url = [100]) = true
    rw [u5]; decide
  refine drop_spec (url := [100]) ?_
  rw [gN_one hpd, gX_one hpd, gL_one hpd]
  refine drop_spec (url := [100]) ?_
  rw [gN_nn, gX_nn]
  refine Ent.imp (ctx' := SRep M6 b (nn 64) [] [] 1000 2 4 :: Sl.ro M6 :: ctx) (Imp.refl _) ?_
  (refine Ent.go ?_)
  refine Ent.slice (out := [.string (ba [120]), .string (ba [49])]) rfl rfl rfl rfl (by decide) (by decide) (fill1 (sz := 2) rfl rfl rfl) fun s1 => ?_
  (refine Ent.go ?_)
  refine Ent.slice (out := [.string (ba [86, 97, 114, 121]), .string (ba [88])]) rfl rfl rfl rfl (by decide) (by decide) (fill1 (sz := 2) rfl rfl rfl) fun s2 => ?_
  (refine Ent.go ?_)
  refine Ent.alloc' fun vb => ?_
  refine Ent.wstoA (l' := ec (xV s1 s2)) ?_ (vs := ec (xV s1 s2)) (hl := rfl) (hu := by (repeat (first | exact Upd.hd | apply Upd.tl)))
  (refine Ent.go ?_)
  refine Ent.slice (out := [.string (ba [86, 97, 114, 121]), .string (ba [42])]) rfl rfl rfl rfl (by decide) (by decide) (fill1 (sz := 2) rfl rfl rfl) fun s3 => ?_
  (refine Ent.go ?_)
  refine Ent.alloc' fun sb => ?_
  refine Ent.wstoA (l' := ec (xS s3)) ?_ (vs := ec (xS s3)) (hl := rfl) (hu := by (repeat (first | exact Upd.hd | apply Upd.tl)))
  refine Ent.wlA (cs := ec (xV s1 s2)) ?_
  have bV : EB (xV s1 s2) := ⟨by show 1 ≤ _; omega, by show 0 ≤ _; omega, by show 0 ≤ _; omega, by show 4 ≤ _; omega, by show 7 ≤ _; omega⟩
  have bS : EB (xS s3) := ⟨by show 1 ≤ _; omega, by show 0 ≤ _; omega, by show 0 ≤ _; omega, by show 0 ≤ _; omega, by show 7 ≤ _; omega⟩
  have zV : size (xV s1 s2) = 72 := rfl
  have zS : size (xS s3) = 70 := rfl
  refine Ent.imp (ctx' := SRep M6 b (nn 64) [] [] 1000 2 4 :: Sl.ro M6 :: pt s1 (fc [([120], [49])]) :: pt s2 (fc [([86, 97, 114, 121], [88])]) :: pt s3 (fc [([86, 97, 114, 121], [42])]) :: pt sb (ec (xS s3)) :: ctx) (by rw [fc_one, fc_one, fc_one]; (focus ((repeat ((with_reducible apply Imp.pick); (repeat (first | exact Pick.hd | apply Pick.tl)))); (repeat (first | exact Imp.refl _ | exact Imp.nil _ | apply Imp.drop)); done))) ?_
  refine put_spec (x := xV s1 s2) ⟨Rd.pt .hd, Rd.pt (.tl .hd), rfl⟩ bV (by decide) (fun hh => absurd hh (by rw [zV]; decide)) fun M7 yv l7 hyv _ _ _ s2' hs2 _ => ?_
  rw [gone_none (fun z hz => (nn_mem hz).elim)] at hs2
  obtain rfl : s2' = ⟨nn 64, [], []⟩ := by
    rw [hs2]
    exact evS_stop (by unfold full; rw [zV]; decide)
  have eV := dE_iff.1 hyv
  have uV : yv.url = [118] := eV.1
  have wV : yv.wl = [([120], [49])] := eV.2.2.2.1
  have fV : yv.fl = [([86, 97, 114, 121], [88])] := (Prod.mk.inj (Prod.mk.inj (Prod.mk.inj (Prod.mk.inj eV.2.2.2.2).2).2).2).1
  have zyV : size yv = 72 := size_of hyv
  refine Ent.imp (ctx' := SRep M7 b (some yv :: nn 63) [0] [] 1000 2 5 :: Sl.ro M7 :: pt s1 (fc [([120], [49])]) :: pt s2 (fc [([86, 97, 114, 121], [88])]) :: pt s3 (fc [([86, 97, 114, 121], [42])]) :: pt sb (ec (xS s3)) :: ctx) (Imp.refl _) ?_
  refine Ent.wlA (cs := ec (xS s3)) ?_
  refine put_spec (x := xS s3) ⟨rfl, Rd.pt (.tl (.tl .hd)), rfl⟩ bS (by decide) (fun hh => absurd hh (by rw [zS]; decide)) fun M8 ys l8 hys _ _ _ s2' hs2 _ => ?_
  rw [gone_none (fun z hz => by
    rcases List.mem_cons.1 hz with hz | hz
    · cases hz
      refine pd_ne ?_
      rw [uV]; show ([118] : Bs) ≠ [119]; decide
    · exact (nn_mem hz).elim)] at hs2
  obtain rfl : s2' = ⟨some yv :: nn 63, [0], []⟩ := by
    rw [hs2]
    refine evS_stop ?_
    unfold full
    rw [zS, used_1, zyV]
    rfl
  have eS := dE_iff.1 hys
  have uS : ys.url = [119] := eS.1
  have fS : ys.fl = [([86, 97, 114, 121], [42])] := (Prod.mk.inj (Prod.mk.inj (Prod.mk.inj (Prod.mk.inj eS.2.2.2.2).2).2).2).1
  refine Ent.imp (ctx' := SRep M8 b (some yv :: some ys :: nn 62) [1, 0] [] 1000 2 6 :: Sl.ro M8 :: ctx) (by show Imp (_ :: _ :: pt s1 _ :: pt s2 _ :: pt s3 _ :: pt sb _ :: ctx) _; exact .pick .hd (.pick .hd (Imp.drop (Imp.drop (Imp.drop (Imp.drop (Imp.refl _))))))) ?_
  have ns : ∀ l : List Tx.Fd, (decide (ys.url = [118]) && forE ys l) = false := fun l => by rw [uS]; exact na (by decide)
  have nv : ∀ l : List Tx.Fd, (decide (yv.url = [119]) && forE yv l) = false := fun l => by rw [uV]; exact na (by decide)
  have f1 : fdk [118] [([88], [49])] (some yv :: some ys :: nn 62) 64 = some 0 := fdk_first (by rw [uV]; unfold forE; rw [wV, fV]; decide +kernel) (ns _)
  have f2 : fdk [118] [([88], [50])] (some yv :: some ys :: nn 62) 64 = none := fdk_two (by rw [uV]; unfold forE; rw [wV, fV]; decide +kernel) (ns _)
  have f3 : fdk [119] [] (some yv :: some ys :: nn 62) 64 = none := fdk_two (nv _) (by rw [uS]; unfold forE; rw [fS]; simp only [show star (elems [(([86, 97, 114, 121], [42]) : Tx.Fd)] [118, 97, 114, 121]) = true by decide +kernel]; rfl)
  (refine Ent.go ?_)
  refine Ent.slice (out := [.string (ba [88]), .string (ba [49])]) rfl rfl rfl rfl (by decide) (by decide) (fill1 (sz := 2) rfl rfl rfl) fun s4 => ?_
  refine Ent.imp (ctx' := SRep M8 b (some yv :: some ys :: nn 62) [1, 0] [] 1000 2 6 :: Sl.ro M8 :: pt s4 (fc [([88], [49])]) :: ctx) (by rw [fc_one]; (focus ((repeat ((with_reducible apply Imp.pick); (repeat (first | exact Pick.hd | apply Pick.tl)))); (repeat (first | exact Imp.refl _ | exact Imp.nil _ | apply Imp.drop)); done))) ?_
  refine look_spec (url := [118]) (l := [([88], [49])]) (Rd.pt .hd) (by decide) (fun hh => by rw [f1] at hh; cases hh) fun i x ya hi hx hya hbx => ?_
  refine Ent.alloc' fun q3 => ?_
  refine Ent.wstoA (l' := ec ya) ?_ (vs := ec ya) (hl := rfl) (hu := by (repeat (first | exact Upd.hd | apply Upd.tl)))
  (refine Ent.go ?_)
  refine Ent.slice (out := [.string (ba [88]), .string (ba [50])]) rfl rfl rfl rfl (by decide) (by decide) (fill1 (sz := 2) rfl rfl rfl) fun s5 => ?_
  refine Ent.imp (ctx' := SRep M8 b (some yv :: some ys :: nn 62) [1, 0] [] 1000 2 6 :: Sl.ro M8 :: pt s5 (fc [([88], [50])]) :: ctx) (by rw [fc_one]; (focus ((repeat ((with_reducible apply Imp.pick); (repeat (first | exact Pick.hd | apply Pick.tl)))); (repeat (first | exact Imp.refl _ | exact Imp.nil _ | apply Imp.drop)); done))) ?_
  refine look_spec (url := [118]) (l := [([88], [50])]) (Rd.pt .hd) (by decide) (fun _ => ?_) fun i x ya hi hx hya hbx => by rw [f2] at hi; cases hi
  refine Ent.alloc' fun q4 => ?_
  refine Ent.wstoA (l' := ec ez) ?_ (vs := ec ez) (hl := rfl) (hu := by (repeat (first | exact Upd.hd | apply Upd.tl)))
  refine Ent.imp (ctx' := SRep M8 b (some yv :: some ys :: nn 62) [1, 0] [] 1000 2 6 :: Sl.ro M8 :: ctx) (by (focus ((repeat ((with_reducible apply Imp.pick); (repeat (first | exact Pick.hd | apply Pick.tl)))); (repeat (first | exact Imp.refl _ | exact Imp.nil _ | apply Imp.drop)); done))) ?_
  refine look_spec (url := [119]) (l := []) rfl (by decide) (fun _ => ?_) fun i x ya hi hx hya hbx => by rw [f3] at hi; cases hi
  refine Ent.alloc' fun q5 => ?_
  refine Ent.wstoA (l' := ec ez) ?_ (vs := ec ez) (hl := rfl) (hu := by (repeat (first | exact Upd.hd | apply Upd.tl)))
  refine Ent.imp (ctx' := Sl.ro M8 :: ctx) (by (focus ((repeat ((with_reducible apply Imp.pick); (repeat (first | exact Pick.hd | apply Pick.tl)))); (repeat (first | exact Imp.refl _ | exact Imp.nil _ | apply Imp.drop)); done))) ?_
  refine snew_spec (fun _ => ?_) fun _ bb mm e1 _ _ _ => by omega
  refine snew_spec (fun _ => ?_) fun _ bb mm e1 _ e2 _ => by omega
  refine snew_spec (fun _ => ?_) fun _ bb mm _ e1 _ e2 => by omega
  refine snew_spec (fun hh => absurd hh (by decide)) fun b2 bytes2 most2 hb2 hm2 _ _ => ?_
  obtain rfl : bytes2 = 0 := by omega
  obtain rfl : most2 = 0 := by omega
  refine e_spec (url := []) (n := 0) (by decide) fun x6 hx6 => ?_
  refine OwnE.rd fun hr6 => ?_
  refine Ent.imp (ctx' := SRep M8 b2 (nn 64) [] [] 0 0 0 :: Sl.ro M8 :: OwnE x6 ctx) (by (focus ((repeat ((with_reducible apply Imp.pick); (repeat (first | exact Pick.hd | apply Pick.tl)))); (repeat (first | exact Imp.refl _ | exact Imp.nil _ | apply Imp.drop)); done))) ?_
  refine put_spec (hr6 _ .hd (.tl .hd) (.tl (.tl .hd))) (dU_EB hx6 (by decide) (by decide)) (by decide) (fun _ => ?_) fun M' y _ _ _ _ h0 _ _ _ => absurd h0 (by decide)
  refine Ent.imp (ctx' := ctx) (by (focus ((repeat ((with_reducible apply Imp.pick); (repeat (first | exact Pick.hd | apply Pick.tl)))); (repeat (first | exact Imp.refl _ | exact Imp.nil _ | apply Imp.drop)); done))) ?_
  refine get_nil (url := [97]) ?_
  refine Ent.alloc' fun q6 => ?_
  refine Ent.wstoA (l' := ec ez) ?_ (vs := ec ez) (hl := rfl) (hu := by (repeat (first | exact Upd.hd | apply Upd.tl)))
  refine look_nil (url := [97]) ?_
  refine Ent.alloc' fun q7 => ?_
  refine Ent.wstoA (l' := ec ez) ?_ (vs := ec ez) (hl := rfl) (hu := by (repeat (first | exact Upd.hd | apply Upd.tl)))
  refine Ent.imp (ctx' := ctx) (by (focus ((repeat ((with_reducible apply Imp.pick); (repeat (first | exact Pick.hd | apply Pick.tl)))); (repeat (first | exact Imp.refl _ | exact Imp.nil _ | apply Imp.drop)); done))) ?_
  iterate 18 refine Ent.wT ?_
  refine e_spec (url := [97]) (n := 0) (by decide) fun x7 hx7 => ?_
  refine put_nil ?_
  refine Ent.wT ?_
  refine drop_nil (url := [97]) ?_
  refine Ent.wT ?_
  refine used_nil ?_
  refine Ent.wT ?_
  refine entries_nil ?_
  refine Ent.wlen ?_
  refine Ent.wT ?_
  refine copy_nil ?_
  (refine Ent.go ?_)
  refine e_spec (url := [97, 98]) (n := 3) (by decide) fun x8 hx8 => ?_
  refine OwnE.rd fun hr8 => ?_
  refine size_spec (hr8 _ .hd (.tl .hd) (.tl (.tl .hd))) (dU_EB hx8 (by decide) (by decide)) ?_
  rw [dU_size hx8]
  refine Ent.imp (ctx' := ctx) (by (focus ((repeat ((with_reducible apply Imp.pick); (repeat (first | exact Pick.hd | apply Pick.tl)))); (repeat (first | exact Imp.refl _ | exact Imp.nil _ | apply Imp.drop)); done))) ?_
  exact h
end
theorem walk {H : Type} {enc : TypeId × Value → H} {W : World} (base : Nat) (args : Array Value) (ds : List (DataW H)) (hval : ∀ (j : Nat) t v, Tryz.f7.params[j]? = some t → args[j]? = some v → Value.okWide Tryz.prog W .any base t v)
    (hA : ∃ p, DataW.TrodAll enc P W 0 (fun _ => true) true Tryz.f7.params.toList args.toList ds p) :
    Calls P 7 args W fun e W' => e = .returned (.bool true) ∧ Below W.heap.size W W' := by
  obtain ⟨p, hA⟩ := hA
  have hp : Tryz.f7.params.toList = [] := rfl
  rw [hp] at hA
  obtain ⟨h1, rfl⟩ := Lift.tr_nil hA
  obtain ⟨l, rfl⟩ : ∃ l : List Value, args = l.toArray := ⟨args.toList, by simp⟩
  simp only [List.toList_toArray] at h1
  subst h1
  exact Lift.calls_of fun K h => spec h
theorem own : ownKnob Tryz.prog.godebug = none := by kernel_rfl
theorem contract (H : Type) (enc : TypeId × Value → H) (W : World) (base : Nat) (args : Array Value) (ds gs : List (DataW H)) (before : List MemPlace) (hval : ∀ (j : Nat) t v, Tryz.f7.params[j]? = some t → args[j]? = some v → Value.okWide Tryz.prog W .any base t v)
    (hW : DataW.Whole enc Tryz.prog Tryz.f7.params.toList Rows.storeKnownSpec.vars false W args.toList ds gs before) :
    Calls Tryz.prog 7 args W fun e W' => ∃ v, e = .returned v ∧ Rows.storeKnownSpec.post enc Tryz.prog Tryz.f7 false true false false W args v W' := by
  have hA : ∃ p, DataW.TrodAll enc P W 0 (fun _ => true) true Tryz.f7.params.toList args.toList ds p := by
    obtain ⟨p, q, hA, _⟩ := hW
    exact ⟨p, hA⟩
  refine (walk base args ds hval hA).mono fun e W' ⟨he, hb⟩ => ?_
  exact ⟨_, he, Lift.law_post' (by kernel_rfl) rfl rfl rfl (fun ds h => by first | (rcases ds with _ | ⟨d1, _ | ⟨d2, _ | ⟨d3, _ | ⟨d4, ds⟩⟩⟩⟩ <;> first | rfl | (exfalso; simp [Tryz.f7] at h; done))) (by kernel_rfl) hW hb⟩
noncomputable def flat : Nat → DataW Unit → List Value
  | 0, _ => []
  | n + 1, .lit (.int k i) => [.int k i]
  | n + 1, .agg l => l.flatMap (flat n)
  | _, _ => []
noncomputable def lay (name : String) (d : DataW Unit) (h : Array Obj) : Array Obj := h.modify ((Tryz.prog.globalNamed name).getD 0) fun
  | .cells _ t frozen => .cells (flat 3 d).toArray t frozen
  | o => o
/-- the settled world, utf8's two tables laid -/
noncomputable def laidWorld (os : Os) : World :=
  { World.holding Tryz.prog os ⟨#[], #[], []⟩ with heap := lay "unicode/utf8.first" Rows.laid_unicode_utf8_first (lay "unicode/utf8.acceptRanges" Rows.laid_unicode_utf8_acceptRanges (World.holding Tryz.prog os ⟨#[], #[], []⟩).heap) }
theorem laid_met (os : Os) : laidMet Tryz.prog Rows.storeKnownRow.laid ((laidWorld os).forCall (fun _ _ => 0) ⟨#[], #[], []⟩).memory :=
  laidMet_of_run' 8 (by kernel_rfl) (by kernel_rfl)
theorem reads (os : Os) {H : Type} (enc : TypeId × Value → H) : ∃ places, DataW.whole enc Tryz.prog ((laidWorld os).forCall (fun _ _ => 0) ⟨#[], #[], []⟩).memory Tryz.f7.params.toList Rows.storeKnownSpec.vars false #[].toList 8 = some ([], [], places) :=
  ⟨[], by kernel_rfl⟩
set_option maxRecDepth 100000 in
theorem lifted (os : Os) (started : os.Started) (H : Type) (enc : TypeId × Value → H) (F : Stop.Interp) :
    ReturnsInHanded {} Tryz.checked os 7 .any ((OpenSpec.ofChange Rows.storeKnownSpec).preRow enc Tryz.prog Tryz.f7 Rows.storeKnownRow.domain false Rows.storeKnownRow.laid) (((OpenSpec.ofChange Rows.storeKnownSpec).at F).post enc Tryz.prog Tryz.f7 false true false false) := by
  obtain ⟨places, hx⟩ := reads os enc
  refine returnsInHanded_of_row (C := Tryz.checked) (s := OpenSpec.ofChange Rows.storeKnownSpec) own started (by kernel_rfl) Tryz.func7
    (witness_row_at (enc := enc) (C := Tryz.checked) false (laidWorld os) #[] rfl (by kernel_rfl) (by kernel_rfl) (by kernel_rfl)
      (OpenSpec.preRow_of_cond 8 hx (by kernel_rfl) (fun k hk => by cases hk) (by kernel_rfl) (laid_met os))) ?_
  intro W base args ds gs before hval hW _ hcond _ hL _ _
  exact contract H enc W base args ds gs before hval hW
theorem over : Rows.StoreKnownSaid :=
  OpenClaim.holds_of_cond 7 Tryz.f7 rfl rfl rfl rfl rfl rfl rfl ⟨rfl, rfl, rfl, rfl, rfl⟩ rfl rfl rfl rfl rfl (by kernel_rfl) Tryz.func7 (by kernel_rfl)
    (of_decide_eq_true (by kernel_rfl)) (by unfold Func.isWrapper; first | (rw [if_pos (by decide +kernel)]; kernel_rfl) | (rw [if_neg (by decide +kernel)]; exact ⟨rfl, rfl⟩))
    (fun os started H enc _ F => by rw [OpenClaim.pre_eq_preRow]; exact lifted os started H enc F)
theorem plain (f : FuncId) (fn : Func) (hf : Tryz.pinned.checked.prog.funcNamed "tollhouse/tollhouselaw21.StoreKnown" = some f) (hfn : Tryz.pinned.checked.prog.funcs[f]? = some fn) :
    true = Tryz.pinned.checked.prog.looks [] ∧ ∀ (j : Nat) t, fn.params[j]? = some t → Tryz.pinned.checked.prog.wantsStandIn t = false := by
  obtain rfl : f = 7 := Option.some.inj ((show Tryz.prog.funcNamed "tollhouse/tollhouselaw21.StoreKnown" = some 7 by kernel_rfl).symm.trans hf) |>.symm
  obtain rfl : fn = Tryz.f7 := (Option.some.inj (Tryz.func7.symm.trans hfn)).symm
  refine ⟨by kernel_rfl, fun j t ht => ?_⟩
  have := List.all_eq_true.1 (show (Tryz.f7.params.toList.all fun t => !Tryz.prog.wantsStandIn t) = true by kernel_rfl) t (by simpa using Array.mem_of_getElem? ht)
  exact (by simpa using this : Tryz.prog.wantsStandIn t = false)
theorem proved : Rows.StoreKnownCardSaid :=
  Claim7.holds_tied_plain_at .later [] _ _ _ _ over (fun _ h => by cases h) (by kernel_rfl) (fun _ h => by cases h) storeKnown_row_tie rfl ⟨rfl, rfl⟩ (by kernel_rfl) rfl plain (by kernel_rfl)

end Go.Proofs.YtfofnagocedlgaaGreatDoor.storeKnown
