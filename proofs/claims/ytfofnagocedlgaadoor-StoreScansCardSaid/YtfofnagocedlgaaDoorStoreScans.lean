/- StoreScans: WHAT WAS ASKED FOR SINCE IT WAS PUT OUTLIVES ANY SCAN (any number of entries brought into 2 to 64, any scan, the first 200). -/
import Derived.Test.YtfofnagocedlgaaDoorCards
import Derived.Test.YtfofnagocedlgaaDoorTie
import Derived.Deep.DeepHandedRow
import Derived.Lib.LaidTab
import Derived.Test.YtfofnagocedlgaaDoorKk
import Derived.Test.YtfofnagocedlgaaDoorKl
set_option linter.unusedVariables false
set_option linter.unusedSimpArgs false
set_option maxRecDepth 100000
set_option maxHeartbeats 0
namespace Go.Proofs.YtfofnagocedlgaaDoor.storeScans
open Go Sh Sl Tx
open Go.ChangeShapes Go.WideShapes Go.ChangeAt Go.RowKit
theorem fdk_ge {url : Bs} {l : List Tx.Fd} {X : List (Option Et)} {j : Nat} {x : Et} (hj : X[j]? = some (some x)) (hu : x.url = url) (hf : forE x l = true) :
    ∀ k, j < k → ∃ i y, fdk url l X k = some i ∧ X[i]? = some (some y)
  | 0, h => by omega
  | k + 1, h => by
    show ∃ i y, fdS url l X (fdk url l X k) k = some i ∧ _
    unfold fdS
    rcases Nat.lt_or_ge j k with h1 | h1
    · obtain ⟨i, y, e1, e2⟩ := fdk_ge hj hu hf k h1
      rw [e1]
      cases ho : (X[k]?).join with
      | none => exact ⟨i, y, rfl, e2⟩
      | some z =>
        dsimp only
        split
        · exact ⟨k, z, rfl, Option.join_eq_some_iff.1 ho⟩
        · exact ⟨i, y, rfl, e2⟩
    · obtain rfl : j = k := by omega
      rw [hj]
      simp only [Option.join_some]
      split
      · exact ⟨j, x, rfl, hj⟩
      · rename_i hc
        cases hb : fdk url l X j with
        | none => rw [hb] at hc; simp [hu, hf, better] at hc
        | some i =>
          obtain ⟨y, e2, _, _⟩ := fdk_some hb
          exact ⟨i, y, rfl, e2⟩
theorem free_lt {X : List (Option Et)} (h : cnt X < X.length) : free X < X.length ∧ X[free X]? = some none := by
  have h1 : free X < X.length := by
    unfold free
    refine List.findIdx_lt_length_of_exists ?_
    rcases Classical.em (∃ x, x ∈ X ∧ (!x.isSome) = true) with hh | hh
    · exact hh
    · exfalso
      have : cnt X = X.length := by
        unfold cnt
        rw [List.filter_eq_self.2 fun o ho => ?_]
        cases hs : o.isSome with
        | true => rfl
        | false => exact absurd ⟨o, ho, by rw [hs]; rfl⟩ hh
      omega
  refine ⟨h1, ?_⟩
  have h2 : (!(X[free X]).isSome) = true := List.findIdx_getElem (p := fun o : Option Et => !o.isSome) (w := h1)
  rw [List.getElem?_eq_getElem h1]
  cases ho : X[free X] with
  | none => rfl
  | some x => rw [ho] at h2; cases h2
def kurl (j : Nat) : Bs := [107, 101, 112, 116] ++ [UInt8.ofNat (65 + j)]
theorem kurl_inj {i j : Nat} (hi : i < 64) (hj : j < 64) (h : kurl i = kurl j) : i = j := by
  unfold kurl at h
  have h1 := List.append_cancel_left h
  have h2 : UInt8.ofNat (65 + i) = UInt8.ofNat (65 + j) := (List.cons.inj h1).1
  have h3 := congrArg UInt8.toNat h2
  rw [UInt8.toNat_ofNat', UInt8.toNat_ofNat'] at h3
  omega
def X1 (ys : List Et) : List (Option Et) := ys.map some ++ nn (64 - ys.length)
theorem X1_at {ys : List Et} {j : Nat} {y : Et} : (X1 ys)[j]? = some (some y) ↔ ys[j]? = some y := by
  unfold X1
  rcases Nat.lt_or_ge j ys.length with h | h
  · rw [List.getElem?_append_left (by simpa using h), List.getElem?_map]
    cases ys[j]? <;> simp
  · rw [List.getElem?_append_right (by simpa using h), List.getElem?_eq_none h]
    constructor
    · intro hh
      exact (nn_mem (List.mem_of_getElem? hh)).elim
    · intro hh; cases hh
theorem X1_mem {ys : List Et} {y : Et} (h : some y ∈ X1 ys) : y ∈ ys := by
  obtain ⟨j, hj⟩ := List.getElem?_of_mem h
  exact List.mem_of_getElem? (X1_at.1 hj)
theorem X1_len {ys : List Et} (h : ys.length ≤ 64) : (X1 ys).length = 64 := by simp [X1]; omega
theorem X1_free {ys : List Et} (h : ys.length < 64) : free (X1 ys) = ys.length := by
  have hl := X1_len (ys := ys) (by omega)
  unfold free
  rw [List.findIdx_eq (by omega)]
  constructor
  · have : (X1 ys)[ys.length]? = some none := by
      unfold X1
      rw [List.getElem?_append_right (by simp), List.length_map, Nat.sub_self, List.getElem?_replicate, if_pos (by omega)]
    rw [List.getElem?_eq_getElem (by omega)] at this
    rw [Option.some.inj this]; rfl
  · intro j hj
    have : (X1 ys)[j]? = some (some ys[j]) := X1_at.2 (List.getElem?_eq_getElem hj)
    rw [List.getElem?_eq_getElem (by omega)] at this
    rw [Option.some.inj this]; rfl
theorem X1_put {ys : List Et} {y : Et} (h : ys.length < 64) : (X1 ys).set ys.length (some y) = X1 (ys ++ [y]) := by
  unfold X1
  rw [List.set_append_right _ _ (by simp)]
  obtain ⟨d, hd⟩ : ∃ d, 64 - ys.length = d + 1 := ⟨63 - ys.length, by omega⟩
  have hd2 : 64 - (ys ++ [y]).length = d := by simp; omega
  rw [hd, hd2]
  simp [nn, List.replicate_succ]
theorem wrap_u8 (v : Int) : ∃ c : UInt8, IntKind.wrap .u8 v = (c.toNat : Int) := by
  refine ⟨UInt8.ofNat (v % 256).toNat, ?_⟩
  rw [UInt8.toNat_ofNat']
  have : IntKind.wrap .u8 v = v % 256 := rfl
  rw [this]
  omega
section
attribute [local irreducible] condK ArK NilK OpK FnK StK joinK loopK DrawK andK PuK NxK EnK vS uS bS callS invokeS
variable {e : Env} {ctx rest : List HProp}
variable {b bytes most N n : Nat} {M : Hp} {X : List (Option Et)} {tr kp : List Int}
/-- what is kept so far -/
def YK (ys : List Et) : Prop := ∀ (j : Nat) y, ys[j]? = some y → dE y = dU (kurl j) 1
theorem YK.size {ys : List Et} (h : YK ys) : ∀ y ∈ ys, Tx.size y ≤ 71 := fun y hy => by
  obtain ⟨j, hj⟩ := List.getElem?_of_mem hy
  rw [dU_size (h j y hj)]
  simp [kurl]
def S1 (b most k : Nat) : HProp := exs fun (q : Hp × List Et × Nat) => sepL [pur (q.2.1.length = k ∧ YK q.2.1 ∧ q.2.2 ≤ 3 * k), SRep q.1 b (X1 q.2.1) [] (kpl k) 262144 most q.2.2, Sl.ro q.1]
def S2 (b most k : Nat) (ys : List Et) : HProp := exs fun (q : Hp × St3 × Nat) => sepL [pur (Kq ys q.2.1 ∧ q.2.2 ≤ 200 + k), SRep q.1 b q.2.1.X q.2.1.tr q.2.1.kp 262144 most q.2.2, Sl.ro q.1]
theorem spec {K : Bool → WP} {en : Int} {a : Option Addr} {c : Nat} {xs : List Int} (k0 : 0 ≤ en) (k1 : en ≤ 255) (hx : Rd ctx a (xs.map fun m => .int .u16 m)) (hxs : ∀ m ∈ xs, 0 ≤ m ∧ m ≤ 65535) (h : Ent e ctx (K true)) :
    Ent e ctx (law21_StoreScans en (.slice a xs.length c) K) := by
  (refine Ent.fn law21_StoreScans_ok ?_; unfold law21_StoreScans_sh)
  (refine Ent.go ?_)
  have e1 : en.tmod 63 = en % 63 := Int.tmod_eq_emod_of_nonneg k0
  rw [e1]
  obtain ⟨most, hmost⟩ : ∃ most : Nat, (most : Int) = 2 + en % 63 := ⟨(2 + en % 63).toNat, by omega⟩
  refine Ent.war ?_
  rw [← hmost]
  have hm2 : 2 ≤ most ∧ most ≤ 64 := by omega
  obtain ⟨m1, m2⟩ := hm2
  clear hmost e1
  refine Ent.imp (ctx' := Sl.ro (fun _ => none) :: ctx) (fun hp k => ⟨fun _ => none, hp, fun _ => .inl rfl, (fun _ _ hh => by cases hh), Hp.le_refl _, (fun _ _ hh => by cases hh), k⟩) ?_
  refine snew_spec (fun hh => absurd ⟨by omega, by omega, by omega, by omega⟩ (of_decide_eq_false hh)) fun b bytes most' hb hm hb2 hm2 => ?_
  obtain rfl : most' = most := by omega
  obtain rfl : bytes = 262144 := by omega
  clear hb hm hb2 hm2
  refine Ent.join ?_
  refine Ent.imp (ctx' := Sl.ro (fun _ => none) :: SRep (fun _ => none) b (List.replicate 64 none) [] [] 262144 most' 0 :: ctx) (by (focus ((repeat ((with_reducible apply Imp.pick); (repeat (first | exact Pick.hd | apply Pick.tl)))); (repeat (first | exact Imp.refl _ | exact Imp.nil _ | apply Imp.drop)); done))) ?_
  refine awake_spec fun M0 l0 => ?_
  refine Ent.imp (ctx' := SRep (fun _ => none) b (List.replicate 64 none) [] [] 262144 most' 0 :: Sl.ro M0 :: ctx) (by (focus ((repeat ((with_reducible apply Imp.pick); (repeat (first | exact Pick.hd | apply Pick.tl)))); (repeat (first | exact Imp.refl _ | exact Imp.nil _ | apply Imp.drop)); done))) ?_
  refine Ent.imp (SRep.mono l0) ?_
  refine Ent.wF ?_
  refine Ent.wF ?_
  refine Ent.war ?_
  refine Ent.opI ((st_quo (by decide) ?_).still) ?_
  · rw [Int.tdiv_eq_ediv_of_nonneg (by omega)]
    exact in_i64 (by omega) (by omega)
  rw [Int.tdiv_eq_ediv_of_nonneg (by omega)]
  obtain ⟨kept, hkept⟩ : ∃ kept : Nat, kept = most' * 2 / 3 := ⟨_, rfl⟩
  rw [show ((most' : Int) * 2 / 3) = (kept : Int) by omega]
  have hk1 : kept < most' := by omega
  have hk2 : kept ≤ 42 := by omega
  refine Ent.rngL0 kept (fun k => S1 b most' k :: ctx) rfl ?_ ?_
  · exact Imp.exs (M0, [], 0) (Imp.g3 (Imp.pur ⟨rfl, fun j y hj => (by simp at hj), (by dsimp only; omega)⟩ (Imp.refl _)))
  intro k hk K' hK
  refine Ent.exs fun ⟨M, ys, n⟩ => Ent.g3 (Ent.pur fun ⟨f1, f2, f3⟩ => ?_)
  dsimp only at f1 f2 f3
  dsimp only
  by_cases hl : k < kept
  · -- one more
    refine Ent.wT ?_
    refine Ent.war ?_
    refine Ent.woI ?_
    refine Ent.opS (st_i2s rfl rfl).still ?_
    rw [show (65 + (k : Int)) = ((65 + k : Nat) : Int) by omega, enc_ascii (by omega)]
    refine addB (a := [107, 101, 112, 116]) (b := [UInt8.ofNat (65 + k)]) (by simp) ?_
    refine e_spec (url := kurl k) (n := 1) (by decide) fun z hz => ?_
    have hzs : size z = 70 := by rw [dU_size hz]; rfl
    have hzu : z.url = kurl k := (dU_f hz).1
    refine OwnE.rd fun hrz => ?_
    refine Ent.imp (ctx' := SRep M b (X1 ys) [] (kpl k) 262144 most' n :: Sl.ro M :: OwnE z ctx) (by (focus ((repeat ((with_reducible apply Imp.pick); (repeat (first | exact Pick.hd | apply Pick.tl)))); (repeat (first | exact Imp.refl _ | exact Imp.nil _ | apply Imp.drop)); done))) ?_
    have hys : ∀ y ∈ ys, size y ≤ 71 := f2.size
    have hcnt : cnt (X1 ys) ≤ k := cnt_le fun j x hx => by
      have := (List.getElem?_eq_some_iff.1 (X1_at.1 hx)).1
      omega
    have hus : used (X1 ys) ≤ 4544 := by
      have := used_le (X := X1 ys) (m := 71) fun x hx => hys x (X1_mem hx)
      rw [X1_len (by omega)] at this
      omega
    refine put_spec (x := z) (hrz _ (by (repeat (first | exact Has.hd | apply Has.tl))) (by (repeat (first | exact Has.hd | apply Has.tl))) (by (repeat (first | exact Has.hd | apply Has.tl)))) (dU_EB hz (by simp [kurl]) (by decide)) (by omega) (fun h7 => absurd h7 (by omega)) fun M1 y hM1 hy hym hyz _ s2 hs2 _ => ?_
    rw [gone_none (fun w hw => by
      obtain ⟨j, hj⟩ := List.getElem?_of_mem (X1_mem hw)
      have hjl := (List.getElem?_eq_some_iff.1 hj).1
      refine pd_ne ?_
      rw [(dU_f (f2 j w hj)).1, hzu]
      intro hh
      have := kurl_inj (by omega) (by omega) hh
      omega)] at hs2
    rw [evS_stop (by unfold full; rw [hzs, decide_eq_false (by show ¬ most' ≤ cnt (X1 ys); omega), decide_eq_false (by show ¬ 262144 < used (X1 ys) + 70; omega)]; rfl)] at hs2
    subst hs2
    dsimp only
    rw [X1_free (by omega), f1]
    have hput := X1_put (ys := ys) (y := y) (by omega)
    rw [f1] at hput
    rw [hput]
    refine Ent.wF ?_
    have hyd : dE y = dU (kurl k) 1 := hy.trans hz
    have f2' : YK (ys ++ [y]) := fun j w hj => by
      rcases Nat.lt_or_ge j ys.length with h1 | h1
      · rw [List.getElem?_append_left h1] at hj; exact f2 j w hj
      · rw [List.getElem?_append_right h1] at hj
        have hj0 : j - ys.length = 0 := by
          have := (List.getElem?_eq_some_iff.1 hj).1
          simp at this; omega
        rw [hj0] at hj
        cases hj
        rw [show j = k by omega]; exact hyd
    have hfd : (X1 (ys ++ [y]))[k]? = some (some y) := X1_at.2 (by rw [List.getElem?_append_right (by omega), f1, Nat.sub_self]; rfl)
    have hfor : forE y [] = true := by
      obtain ⟨_, _, _, h2, h3, _, _⟩ := dU_f hyd
      unfold forE
      rw [h2, h3]
      rfl
    obtain ⟨i', y', g1, g2⟩ := fdk_ge (l := []) hfd (dU_f hyd).1 hfor 64 (by omega)
    obtain ⟨y'', g3, g4, _⟩ := fdk_some g1
    have hi' : i' = k := by
      have h1 := X1_at.1 g3
      have h2 := (List.getElem?_eq_some_iff.1 h1).1
      rw [List.length_append, f1] at h2
      have h3 := (dU_f (f2' i' y'' h1)).1
      rw [g4] at h3
      exact (kurl_inj (by omega) (by simp at h2; omega) h3).symm
    subst hi'
    refine get_s_spec (url := kurl i') (l := []) (by omega) rfl (by decide) (fun hno => by rw [g1] at hno; cases hno) fun i x ya hi hx hya hbx => ?_
    rw [g1] at hi
    obtain rfl : i' = i := Option.some.inj hi
    have htoT : Lr.toT [(i' : Int)] (kpl i') (most' * 2 / 3) i' = ([], kpl (i' + 1)) := by
      unfold Lr.toT
      rw [if_neg (by rw [List.length_cons, kpl_out, kpl_len]; omega), kpl_out]
      simp [Lr.out, kpl]
    rw [htoT]
    refine Ent.alloc' fun tb => ?_
    refine Ent.wstoA (l' := ec ya) ?_ (vs := ec ya) (hl := rfl) (hu := by (repeat (first | exact Upd.hd | apply Upd.tl)))
    refine Ent.wF ?_
    refine Ent.war ?_
    refine Ent.imp ?_ (hK hl)
    refine Imp.exs (M1, ys ++ [y], n + 1 + 2) (Imp.g3 (Imp.pur ⟨by simp [f1], f2', by dsimp only; omega⟩ ?_))
    (focus ((repeat ((with_reducible apply Imp.pick); (repeat (first | exact Pick.hd | apply Pick.tl)))); (repeat (first | exact Imp.refl _ | exact Imp.nil _ | apply Imp.drop)); done))
  obtain rfl : k = kept := by omega
  clear hK
  refine Ent.wF ?_
  have hys : ∀ y ∈ ys, size y ≤ 71 := f2.size
  have hylen : ys.length = k := f1
  have hq0 : Kq ys ⟨X1 ys, [], kpl k⟩ := by
    refine ⟨X1_len (by omega), fun j y hy => X1_at.2 hy, (by rw [f1]), fun t ht => (by cases ht), fun j x hj hx => ?_, fun i => ?_⟩
    · have := (List.getElem?_eq_some_iff.1 (X1_at.1 hx)).1
      omega
    · rw [List.nil_append]
      constructor
      · rintro ⟨x, hx⟩
        have := (List.getElem?_eq_some_iff.1 (X1_at.1 hx)).1
        exact kpl_mem.2 ⟨by omega, by omega⟩
      · intro hh
        have := (kpl_mem.1 hh).2
        exact ⟨_, X1_at.2 (List.getElem?_eq_getElem (by omega))⟩
  refine Ent.imp (ctx' := S2 b most' 0 ys :: ctx) (Imp.exs (M, ⟨X1 ys, [], kpl k⟩, n) (Imp.g3 (Imp.pur ⟨hq0, by dsimp only; omega⟩ (Imp.refl _)))) ?_
  refine Ent.join0 (S2 b most' 200 ys :: ctx) ?_ ?_
  · -- all are there
    refine Ent.exs fun ⟨M, s, n⟩ => Ent.g3 (Ent.pur fun ⟨hq, hn⟩ => ?_)
    dsimp only at hq hn
    dsimp only
    refine Ent.rngL0 k (fun _ => SRep M b s.X s.tr s.kp 262144 most' n :: Sl.ro M :: ctx) rfl (Imp.refl _) ?_
    intro j hj K' hK
    by_cases hl : j < k
    · refine Ent.wT ?_
      refine Ent.war ?_
      refine Ent.woI ?_
      refine Ent.opS (st_i2s rfl rfl).still ?_
      rw [show (65 + (j : Int)) = ((65 + j : Nat) : Int) by omega, enc_ascii (by omega)]
      refine addB (a := [107, 101, 112, 116]) (b := [UInt8.ofNat (65 + j)]) (by simp) ?_
      obtain ⟨y, hy⟩ : ∃ y, ys[j]? = some y := ⟨_, List.getElem?_eq_getElem (by omega)⟩
      have hyd := f2 j y hy
      have hfor : forE y [] = true := by
        obtain ⟨_, _, _, h2, h3, _, _⟩ := dU_f hyd
        unfold forE
        rw [h2, h3]
        rfl
      obtain ⟨i', y', g1, g2⟩ := fdk_ge (l := []) (hq.at_ j y hy) (dU_f hyd).1 hfor 64 (by omega)
      refine look_spec (url := kurl j) (l := []) rfl (by decide) (fun hno => by rw [g1] at hno; cases hno) fun i x ya hi hx hya hbx => ?_
      refine Ent.alloc' fun tb => ?_
      refine Ent.wstoA (l' := ec ya) ?_ (vs := ec ya) (hl := rfl) (hu := by (repeat (first | exact Upd.hd | apply Upd.tl)))
      refine Ent.wF ?_
      refine Ent.war ?_
      refine Ent.imp ?_ (hK hl)
      (focus ((repeat ((with_reducible apply Imp.pick); (repeat (first | exact Pick.hd | apply Pick.tl)))); (repeat (first | exact Imp.refl _ | exact Imp.nil _ | apply Imp.drop)); done))
    · refine Ent.wF ?_
      exact h.drop.drop
  intro j4 hj4
  refine Ent.wlen ?_
  refine Ent.rngL0 xs.length (fun j => pur (j ≤ 200) :: S2 b most' j ys :: ctx) rfl (Imp.pur (by omega) (Imp.refl _)) ?_
  intro j hj K' hK
  refine Ent.pur fun hj2 => ?_
  have out : Ent e (S2 b most' j ys :: ctx) j4 := by
    refine Ent.imp ?_ hj4
    exact fun hp k => sepL_cons (fun _ ⟨q, hh⟩ => ⟨q, sepL_cons (fun _ (hk : Kq ys q.2.1 ∧ q.2.2 ≤ 200 + j) => ⟨hk.1, by omega⟩) (fun _ z => z) hh⟩) (fun _ z => z) k
  by_cases hl : j < xs.length
  rotate_left
  · refine Ent.wF ?_
    exact out
  obtain ⟨x, hxj⟩ : ∃ x, xs[(j : Int).toNat]? = some x := ⟨_, List.getElem?_eq_getElem hl⟩
  obtain ⟨x0, x1⟩ := hxs x (List.mem_of_getElem? hxj)
  refine Ent.wT ?_
  refine Ent.wiIh (f := fun m => .int .u16 m) ?_
  by_cases h200 : j = 200
  · refine Ent.wT ?_ (by simp; omega)
    exact out
  refine Ent.wF ?_ (by simp; omega)
  clear out
  refine Ent.exs fun ⟨M, s, n⟩ => Ent.g3 (Ent.pur fun ⟨hq, hn⟩ => ?_)
  dsimp only at hq hn
  dsimp only
  refine Ent.opI (st_shr (by decide) (by decide)).still ?_
  refine Ent.opI (st_convw rfl rfl).still ?_
  refine Ent.opI (st_convw rfl rfl).still ?_
  obtain ⟨ca, hca⟩ := wrap_u8 (x / 2 ^ (8 : Int).toNat)
  obtain ⟨cb, hcb⟩ := wrap_u8 x
  rw [hca, hcb]
  refine Ent.slice (out := u8 [ca, cb]) (by_ := 1) rfl rfl rfl rfl (by decide) (by decide) (by rfl) fun sb => ?_
  refine Ent.opS (st_b2s (l := [ca, cb]) (Rd.pt .hd) rfl rfl rfl) ?_
  refine addB (a := [115, 99, 97, 110]) (b := [ca, cb]) (by simp) ?_
  refine e_spec (url := [115, 99, 97, 110] ++ [ca, cb]) (n := 1) (by decide) fun z hz => ?_
  have hzs : size z = 71 := by rw [dU_size hz]; rfl
  have hzu : z.url = [115, 99, 97, 110] ++ [ca, cb] := (dU_f hz).1
  refine OwnE.rd fun hrz => ?_
  refine Ent.imp (ctx' := SRep M b s.X s.tr s.kp 262144 most' n :: Sl.ro M :: OwnE z ctx) (by (focus ((repeat ((with_reducible apply Imp.pick); (repeat (first | exact Pick.hd | apply Pick.tl)))); (repeat (first | exact Imp.refl _ | exact Imp.nil _ | apply Imp.drop)); done))) ?_
  refine put_spec (x := z) (hrz _ (by (repeat (first | exact Has.hd | apply Has.tl))) (by (repeat (first | exact Has.hd | apply Has.tl))) (by (repeat (first | exact Has.hd | apply Has.tl)))) (dU_EB hz (by simp) (by decide)) (by omega) (fun h7 => absurd h7 (by omega)) fun M1 y hM1 hy hym hyz _ s2 hs2 hf2 => ?_
  have hg : Kq ys (gone3 (pdP z) s) := hq.gone fun w hw => by
    obtain ⟨i, hi⟩ := List.getElem?_of_mem hw
    refine pd_ne ?_
    rw [(dU_f (f2 i w hi)).1, hzu]
    unfold kurl
    intro hh
    have := (List.cons.inj hh).1
    exact absurd this (by decide)
  have hq2 : Kq ys s2 := by
    rw [hs2]
    exact Kq.evS hys (by omega) (by omega) 65 _ hg
  refine SRep.ok fun hok _ _ => ?_
  refine Ent.wF ?_
  refine Ent.war ?_
  refine Ent.imp ?_ (hK hl)
  refine Imp.pur (by omega) ?_
  have hcf : cnt s2.X < most' := by
    simp only [full, Bool.or_eq_false_iff, decide_eq_false_iff_not] at hf2
    omega
  obtain ⟨fl1, fl2⟩ := free_lt (X := s2.X) (by rw [hq2.len]; omega)
  have hfk : ys.length ≤ free s2.X := by
    rcases Nat.lt_or_ge (free s2.X) ys.length with h1 | h1
    · have := hq2.at_ _ _ (List.getElem?_eq_getElem h1)
      rw [fl2] at this; cases this
    · exact h1
  refine Imp.exs (M1, ⟨s2.X.set (free s2.X) (some y), (free s2.X : Int) :: s2.tr, s2.kp⟩, n + 1) (Imp.g3 (Imp.pur ⟨⟨?_, fun i w hw => ?_, hq2.kp, fun t ht => ?_, fun i w hi hw => ?_, hok.mem⟩, by dsimp only; omega⟩ ?_))
  · show (s2.X.set _ _).length = 64
    rw [List.length_set]; exact hq2.len
  · show (s2.X.set _ _)[i]? = _
    rw [List.getElem?_set_ne (by have := (List.getElem?_eq_some_iff.1 hw).1; omega)]
    exact hq2.at_ i w hw
  · rcases List.mem_cons.1 ht with rfl | ht
    · omega
    · exact hq2.tr t ht
  · have hw' : (s2.X.set (free s2.X) (some y))[i]? = some (some w) := hw
    by_cases hif : i = free s2.X
    · subst hif
      rw [List.getElem?_set_self fl1] at hw'
      cases hw'
      refine ⟨⟨[ca, cb], ?_⟩, ?_⟩
      · rw [← hzu]; exact (dE_iff.1 hy).1
      · rw [size_of hy, hzs]; exact Nat.le_refl _
    · rw [List.getElem?_set_ne (fun hh => hif hh.symm)] at hw'
      exact hq2.more i w hi hw'
  · (focus ((repeat ((with_reducible apply Imp.pick); (repeat (first | exact Pick.hd | apply Pick.tl)))); (repeat (first | exact Imp.refl _ | exact Imp.nil _ | apply Imp.drop)); done))
end
theorem tr_u16s {H : Type} {enc : TypeId × Value → H} {W : World} {t : TypeId} {cs : List Value} {d : DataW H} (ht : dd t = some (.sl 39)) (h : Lift.Tr enc W t cs d) :
    ∃ a c xs, cs = [.slice a (xs : List Int).length c] ∧ Rd [Lift.wh W] a (xs.map fun m => .int .u16 m) ∧ ∀ m ∈ xs, 0 ≤ m ∧ m ≤ 65535 := by
  obtain ⟨a, n, c, xs, rfl, h1, h2, h3, h4, _⟩ := Lift.tr_slice (X := Int) (fun m => [.int .u16 m]) (fun m => 0 ≤ m ∧ m ≤ 65535) (fun _ => 0) ht rfl (fun cs d h => by
    obtain ⟨m, h1, h2, h3⟩ := Lift.tr_int (k := .u16) rfl h
    exact ⟨m, h1, ⟨h2, h3⟩, Nat.zero_le _⟩) h
  subst h1
  refine ⟨a, c, xs, rfl, ?_, h4⟩
  rwa [flat1 (fun m => Value.int .u16 m) xs] at h3
theorem walk {H : Type} {enc : TypeId × Value → H} {W : World} (base : Nat) (args : Array Value) (ds : List (DataW H)) (hval : ∀ (j : Nat) t v, Tryd.f3.params[j]? = some t → args[j]? = some v → Value.okWide Tryd.prog W .any base t v)
    (hA : ∃ p, DataW.TrodAll enc P W 0 (fun _ => true) true Tryd.f3.params.toList args.toList ds p) :
    Calls P 3 args W fun e W' => e = .returned (.bool true) ∧ Below W.heap.size W W' := by
  obtain ⟨p, hA⟩ := hA
  have hp : Tryd.f3.params.toList = [5, 22] := rfl
  rw [hp] at hA
  obtain ⟨v0, vs0, d0, ds0, q0, hv0, rfl, t0, hA⟩ := Lift.tr_cons hA
  obtain ⟨v1, vs1, d1, ds1, q1, hv1, rfl, t1, hA⟩ := Lift.tr_cons hA
  obtain ⟨rfl, rfl⟩ := Lift.tr_nil hA
  obtain ⟨m, h0, r0, r1⟩ := Lift.tr_int (k := .u8) rfl t0
  obtain ⟨a, c, xs, h1, hr, hxs⟩ := tr_u16s rfl t1
  obtain ⟨l', rfl⟩ : ∃ l : List Value, args = l.toArray := ⟨args.toList, by simp⟩
  simp only [List.toList_toArray] at hv0
  subst hv0 hv1
  obtain rfl := Lift.val_int rfl (hval 0 _ _ rfl rfl) h0
  obtain rfl := Lift.val_slice rfl (hval 1 _ _ rfl rfl) h1
  have j0 : (0 : Int) ≤ m := r0
  have j1 : m ≤ 255 := r1
  exact Lift.calls_of fun K h => spec j0 j1 hr hxs h
theorem own : ownKnob Tryd.prog.godebug = none := by kernel_rfl
theorem contract (H : Type) (enc : TypeId × Value → H) (W : World) (base : Nat) (args : Array Value) (ds gs : List (DataW H)) (before : List MemPlace) (hval : ∀ (j : Nat) t v, Tryd.f3.params[j]? = some t → args[j]? = some v → Value.okWide Tryd.prog W .any base t v)
    (hW : DataW.Whole enc Tryd.prog Tryd.f3.params.toList Rows.storeScansSpec.vars false W args.toList ds gs before) :
    Calls Tryd.prog 3 args W fun e W' => ∃ v, e = .returned v ∧ Rows.storeScansSpec.post enc Tryd.prog Tryd.f3 false true false false W args v W' := by
  have hA : ∃ p, DataW.TrodAll enc P W 0 (fun _ => true) true Tryd.f3.params.toList args.toList ds p := by
    obtain ⟨p, q, hA, _⟩ := hW
    exact ⟨p, hA⟩
  refine (walk base args ds hval hA).mono fun e W' ⟨he, hb⟩ => ?_
  exact ⟨_, he, Lift.law_post' (by kernel_rfl) rfl rfl rfl (fun ds h => by first | (rcases ds with _ | ⟨d1, _ | ⟨d2, _ | ⟨d3, _ | ⟨d4, ds⟩⟩⟩⟩ <;> first | rfl | (exfalso; simp [Tryd.f3] at h; done))) (by kernel_rfl) hW hb⟩
noncomputable def flat : Nat → DataW Unit → List Value
  | 0, _ => []
  | n + 1, .lit (.int k i) => [.int k i]
  | n + 1, .agg l => l.flatMap (flat n)
  | _, _ => []
noncomputable def lay (name : String) (d : DataW Unit) (h : Array Obj) : Array Obj := h.modify ((Tryd.prog.globalNamed name).getD 0) fun
  | .cells _ t frozen => .cells (flat 3 d).toArray t frozen
  | o => o
/-- the settled world, utf8's two tables laid -/
noncomputable def laidWorld (os : Os) : World :=
  { World.holding Tryd.prog os ⟨#[], #[], []⟩ with heap := lay "unicode/utf8.first" Rows.laid_unicode_utf8_first (lay "unicode/utf8.acceptRanges" Rows.laid_unicode_utf8_acceptRanges (World.holding Tryd.prog os ⟨#[], #[], []⟩).heap) }
theorem laid_met (os : Os) : laidMet Tryd.prog Rows.storeScansRow.laid ((laidWorld os).forCall (fun _ _ => 0) ⟨#[], #[.int .u8 0, .slice none 0 0], []⟩).memory :=
  laidMet_of_run' 8 (by kernel_rfl) (by kernel_rfl)
theorem reads (os : Os) {H : Type} (enc : TypeId × Value → H) : ∃ places, DataW.whole enc Tryd.prog ((laidWorld os).forCall (fun _ _ => 0) ⟨#[], #[.int .u8 0, .slice none 0 0], []⟩).memory Tryd.f3.params.toList Rows.storeScansSpec.vars false #[.int .u8 0, .slice none 0 0].toList 8 = some ([.lit (.int .u8 0), .nil], [], places) :=
  ⟨[], by kernel_rfl⟩
set_option maxRecDepth 100000 in
theorem lifted (os : Os) (started : os.Started) (H : Type) (enc : TypeId × Value → H) (F : Stop.Interp) :
    ReturnsInHanded {} Tryd.checked os 3 .any ((OpenSpec.ofChange Rows.storeScansSpec).preRow enc Tryd.prog Tryd.f3 Rows.storeScansRow.domain false Rows.storeScansRow.laid) (((OpenSpec.ofChange Rows.storeScansSpec).at F).post enc Tryd.prog Tryd.f3 false true false false) := by
  obtain ⟨places, hx⟩ := reads os enc
  refine returnsInHanded_of_row (C := Tryd.checked) (s := OpenSpec.ofChange Rows.storeScansSpec) own started (by kernel_rfl) Tryd.func3
    (witness_row_at (enc := enc) (C := Tryd.checked) false (laidWorld os) #[.int .u8 0, .slice none 0 0] rfl (by kernel_rfl) (by kernel_rfl) (by kernel_rfl)
      (OpenSpec.preRow_of_cond 8 hx (by kernel_rfl) (fun k hk => by cases hk) (by kernel_rfl) (laid_met os))) ?_
  intro W base args ds gs before hval hW _ hcond _ hL _ _
  exact contract H enc W base args ds gs before hval hW
theorem over : Rows.StoreScansSaid :=
  OpenClaim.holds_of_cond 3 Tryd.f3 rfl rfl rfl rfl rfl rfl rfl ⟨rfl, rfl, rfl, rfl, rfl⟩ rfl rfl rfl rfl rfl (by kernel_rfl) Tryd.func3 (by kernel_rfl)
    (of_decide_eq_true (by kernel_rfl)) (by unfold Func.isWrapper; first | (rw [if_pos (by decide +kernel)]; kernel_rfl) | (rw [if_neg (by decide +kernel)]; exact ⟨rfl, rfl⟩))
    (fun os started H enc _ F => by rw [OpenClaim.pre_eq_preRow]; exact lifted os started H enc F)
theorem plain (f : FuncId) (fn : Func) (hf : Tryd.pinned.checked.prog.funcNamed "tollhouse/tollhouselaw21.StoreScans" = some f) (hfn : Tryd.pinned.checked.prog.funcs[f]? = some fn) :
    false = Tryd.pinned.checked.prog.looks [] ∧ ∀ (j : Nat) t, fn.params[j]? = some t → Tryd.pinned.checked.prog.wantsStandIn t = false := by
  obtain rfl : f = 3 := Option.some.inj ((show Tryd.prog.funcNamed "tollhouse/tollhouselaw21.StoreScans" = some 3 by kernel_rfl).symm.trans hf) |>.symm
  obtain rfl : fn = Tryd.f3 := (Option.some.inj (Tryd.func3.symm.trans hfn)).symm
  refine ⟨by kernel_rfl, fun j t ht => ?_⟩
  have := List.all_eq_true.1 (show (Tryd.f3.params.toList.all fun t => !Tryd.prog.wantsStandIn t) = true by kernel_rfl) t (by simpa using Array.mem_of_getElem? ht)
  exact (by simpa using this : Tryd.prog.wantsStandIn t = false)
theorem proved : Rows.StoreScansCardSaid :=
  Claim7.holds_tied_plain_at .later [] _ _ _ _ over (fun _ h => by cases h) (by kernel_rfl) (fun _ h => by cases h) storeScans_row_tie rfl ⟨rfl, rfl⟩ (by kernel_rfl) rfl plain (by kernel_rfl)

end Go.Proofs.YtfofnagocedlgaaDoor.storeScans
