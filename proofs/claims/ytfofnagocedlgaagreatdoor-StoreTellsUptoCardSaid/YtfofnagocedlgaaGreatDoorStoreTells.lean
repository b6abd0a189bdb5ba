/- StoreTells: WHAT GET AND LOOK TELL WAS PUT, and neither dropped nor replaced since; what was just put is told (any acts, the first 80): within the bulk. -/
import Derived.Test.YtfofnagocedlgaaGreatDoorSx
import Derived.Test.YtfofnagocedlgaaGreatDoorSz
import Derived.Test.YtfofnagocedlgaaGreatDoorCards
import Derived.Test.YtfofnagocedlgaaGreatDoorTie
import Derived.Deep.DeepHandedRow
import Derived.Lib.LaidTab
set_option linter.unusedVariables false
set_option linter.unusedSimpArgs false
set_option maxRecDepth 100000
set_option maxHeartbeats 0
namespace Go.Proofs.YtfofnagocedlgaaGreatDoor.storeTells
open Go Sh Sl Tx
open Go.ChangeShapes Go.WideShapes Go.ChangeAt Go.RowKit
theorem fdk_ge {url : Bs} {l : List Tx.Fd} {X : List (Option Et)} {j : Nat} {x : Et} (hj : X[j]? = some (some x)) (hu : x.url = url) (hf : forE x l = true) :
    ∀ k, j < k → ∃ i y, fdk url l X k = some i ∧ X[i]? = some (some y) ∧ x.came ≤ y.came
  | 0, h => by omega
  | k + 1, h => by
    have hjk : ∀ {z}, (X[k]?).join = some z → X[k]? = some (some z) := fun h => Option.join_eq_some_iff.1 h
    rcases Nat.lt_or_ge j k with h1 | h1
    · obtain ⟨i, y, e1, e2, e3⟩ := fdk_ge hj hu hf k h1
      show ∃ i y, fdS url l X (fdk url l X k) k = some i ∧ _
      rw [e1]
      unfold fdS
      cases ho : (X[k]?).join with
      | none => exact ⟨i, y, rfl, e2, e3⟩
      | some z =>
        dsimp only
        split
        · rename_i hc
          simp only [Bool.and_eq_true, decide_eq_true_eq, better, cameOf, e2, Option.join] at hc
          exact ⟨k, z, rfl, hjk ho, by have := hc.2.2; simp at this; omega⟩
        · exact ⟨i, y, rfl, e2, e3⟩
    · obtain rfl : j = k := by omega
      show ∃ i y, fdS url l X (fdk url l X j) j = some i ∧ _
      unfold fdS
      rw [hj]
      simp only [Option.join_some]
      split
      · exact ⟨j, x, rfl, hj, Int.le_refl _⟩
      · rename_i hc
        cases hb : fdk url l X j with
        | none => rw [hb] at hc; simp [hu, hf, better] at hc
        | some i =>
          obtain ⟨y, e2, _, _⟩ := fdk_some hb
          rw [hb] at hc
          simp only [hu, hf, better, cameOf, e2, Option.join_some, decide_true, Bool.true_and, decide_eq_true_eq] at hc
          exact ⟨i, y, rfl, e2, by omega⟩
theorem mem_gX {pd : Et → Bool} {X : List (Option Et)} (hX : X.length ≤ 64) {z : Et} (h : some z ∈ gX pd X 64) : some z ∈ X ∧ pd z = false := by
  rw [gX_map hX] at h
  obtain ⟨o, ho, e⟩ := List.mem_map.1 h
  cases o with
  | none => cases e
  | some x =>
    unfold gq at e
    dsimp only at e
    split at e
    · cases e
    · rename_i hp
      cases e
      exact ⟨ho, by simpa using hp⟩
theorem mem_evS {most bytes sz : Nat} {z : Et} : ∀ (f : Nat) (s : St3), some z ∈ (evS most bytes sz f s).X → some z ∈ s.X
  | 0, s, h => h
  | f + 1, s, h => by
    unfold evS at h
    split at h
    · have := mem_evS f _ h
      rcases List.mem_or_eq_of_mem_set this with h | h
      · exact h
      · cases h
    · exact h
theorem evS_len {most bytes sz : Nat} : ∀ (f : Nat) (s : St3), (evS most bytes sz f s).X.length = s.X.length
  | 0, s => rfl
  | f + 1, s => by
    unfold evS
    split
    · rw [evS_len f]; simp [ev1]
    · rfl
theorem free_lt {X : List (Option Et)} (h : cnt X < X.length) : free X < X.length := by
  unfold free
  refine List.findIdx_lt_length_of_exists ?_
  rcases Classical.em (∃ x, x ∈ X ∧ (!x.isSome) = true) with hh | hh
  · exact hh
  · exfalso
    have : cnt X = X.length := by
      unfold cnt
      rw [List.filter_eq_self.2 fun o ho => ?_]
      cases hs : o.isSome with
      | true => rfl
      | false => exact absurd ⟨o, ho, by rw [hs]; rfl⟩ hh
    omega
/-- whatever is in the store was put -/
def Sub (ys : List Et) (X : List (Option Et)) : Prop := ∀ z, some z ∈ X → ∃ y ∈ ys, dE y = dE z
def keep (pd : Et → Bool) (ys : List Et) (j : Nat) : List Et := (ys.take j).filter fun z => !pd z
theorem keep_next {pd : Et → Bool} {ys : List Et} {j : Nat} {y : Et} (h : ys[j]? = some y) : keep pd ys (j + 1) = if pd y = true then keep pd ys j else keep pd ys j ++ [y] := by
  unfold keep
  rw [take_snoc h, List.filter_append]
  by_cases hp : pd y = true <;> simp [hp]
theorem keep_len {pd : Et → Bool} {ys : List Et} {j : Nat} : (keep pd ys j).length ≤ ys.length :=
  Nat.le_trans (List.length_filter_le _ _) (by simp; omega)
theorem keep_mem {pd : Et → Bool} {ys : List Et} {j : Nat} {y : Et} (h : y ∈ keep pd ys j) : y ∈ ys := List.mem_of_mem_take (List.mem_filter.1 h).1
theorem Sub.keep {pd : Et → Bool} {ys : List Et} {X : List (Option Et)} (h : Sub ys X) (hX : X.length ≤ 64) (hp : ∀ y z, dE y = dE z → pd y = pd z) : Sub (keep pd ys ys.length) (gX pd X 64) := fun z hz => by
  obtain ⟨h1, h2⟩ := mem_gX hX hz
  obtain ⟨y, hy, he⟩ := h z h1
  refine ⟨y, ?_, he⟩
  unfold storeTells.keep
  rw [List.take_length]
  exact List.mem_filter.2 ⟨hy, by rw [hp y z he, h2]; rfl⟩
theorem pdP_d {x y z : Et} (h : dE y = dE z) : pdP x y = pdP x z := by
  obtain ⟨h1, _, _, h4, _⟩ := dE_iff.1 h
  unfold pdP
  rw [h1, h4]
theorem forE_d {y z : Et} (h : dE y = dE z) (l : List Tx.Fd) : forE y l = forE z l := by
  obtain ⟨_, _, _, h4, h5⟩ := dE_iff.1 h
  have h6 : y.fl = z.fl := by simp only [dR, Prod.mk.injEq] at h5; exact h5.2.2.2.1
  unfold forE
  rw [h4, h6]
theorem came_d {y z : Et} (h : dE y = dE z) : y.came = z.came := (dE_iff.1 h).2.2.1
theorem url_d {y z : Et} (h : dE y = dE z) : y.url = z.url := (dE_iff.1 h).1
section
attribute [local irreducible] condK ArK NilK OpK FnK StK joinK loopK DrawK andK PuK NxK EnK vS uS bS callS invokeS
variable {e : Env} {ctx rest : List HProp}
def TI (C : List HProp) (b bytes most N Kk : Nat) (v : Value) : HProp := exs fun (q : Hp × List (Option Et) × List Int × List Int × Nat × List Et × Option Addr × Nat) =>
  sepL [pur (v = .slice q.2.2.2.2.2.2.1 q.2.2.2.2.2.1.length q.2.2.2.2.2.2.2 ∧ q.2.2.2.2.1 ≤ N ∧ q.2.2.2.2.2.1.length ≤ Kk ∧ (∀ y ∈ q.2.2.2.2.2.1, RdE C y ∧ EB y) ∧ Sub q.2.2.2.2.2.1 q.2.1),
    SlO q.2.2.2.2.2.2.1 q.2.2.2.2.2.1.length q.2.2.2.2.2.2.2 9 (ecs q.2.2.2.2.2.1), SRep q.1 b q.2.1 q.2.2.1 q.2.2.2.1 bytes most q.2.2.2.2.1, Sl.ro q.1]
variable {C : List HProp} {b bytes most N Kk n c : Nat} {M : Hp} {X : List (Option Et)} {tr kp : List Int} {v : Value} {ys : List Et} {a : Option Addr}
theorem TI.open {p : WP} (h : ∀ M X tr kp n ys a c, v = .slice a ys.length c → n ≤ N → ys.length ≤ Kk → (∀ y ∈ ys, RdE C y ∧ EB y) → Sub ys X → Ent e (SlO a ys.length c 9 (ecs ys) :: SRep M b X tr kp bytes most n :: Sl.ro M :: rest) p) : Ent e (TI C b bytes most N Kk v :: rest) p :=
  Ent.exs fun q => Ent.g4 (Ent.pur fun ⟨h1, h2, h3, h4, h5⟩ => h _ _ _ _ _ _ _ _ h1 h2 h3 h4 h5)
theorem TI.shut (h2 : n ≤ N) (h3 : ys.length ≤ Kk) (h4 : ∀ y ∈ ys, RdE C y ∧ EB y) (h5 : Sub ys X) : Imp (SlO a ys.length c 9 (ecs ys) :: SRep M b X tr kp bytes most n :: Sl.ro M :: rest) (TI C b bytes most N Kk (.slice a ys.length c) :: rest) :=
  Imp.exs (M, X, tr, kp, n, ys, a, c) (Imp.g4 (Imp.pur ⟨rfl, h2, h3, h4, h5⟩ (Imp.refl _)))
theorem EB_ez : EB ez := ⟨by show 0 ≤ _; omega, by show 0 ≤ _; omega, by show 0 ≤ _; omega, by show 0 ≤ _; omega, by show 0 ≤ _; omega⟩
theorem own_ez {l : List HProp} : Imp l (OwnE ez l) := Imp.slN (sz := 2) (Imp.slN (sz := 2) (Imp.slN (sz := 1) (Imp.refl _)))
/-- what is told, if anything is -/
def Told (X : List (Option Et)) (url : Bs) (l : List Tx.Fd) (is_ : Bool) (ya : Et) : Prop := is_ = true → ∃ x, some x ∈ X ∧ x.url = url ∧ forE x l = true ∧ dE ya = dE x
theorem get_m {K : Value → Bool → WP} {url : Bs} {a : Option Addr} {c : Nat} {l : List Tx.Fd} (hn : n + 1 < 4503599627370496) (hl : Rd rest a (fc l)) (hlb : fsz l ≤ 268435456)
    (h : ∀ is_ ya tr kp n', n' ≤ n + 2 → EB ya → Told X url l is_ ya → Ent e (OwnE ya (SRep M b X tr kp bytes most n' :: Sl.ro M :: rest)) (K (.agg (ec ya).toArray) is_)) :
    Ent e (SRep M b X tr kp bytes most n :: Sl.ro M :: rest) (store_Store_Get (ptr b) (ba url) (.slice a l.length c) K) := by
  refine get_s_spec hn hl hlb (fun _ => ?_) fun i x y hi hx hy hbx => ?_
  · exact (h false ez tr kp n (by omega) EB_ez (fun hh => by cases hh)).imp own_ez
  · refine h true y _ _ _ (by omega) (EB.of hy hbx) fun _ => ?_
    obtain ⟨x', h1, h2, h3⟩ := fdk_some hi
    rw [hx] at h1
    obtain rfl : x = x' := Option.some.inj (Option.some.inj h1)
    exact ⟨x, List.mem_of_getElem? hx, h2, h3, hy⟩
theorem look_m {K : Value → Bool → WP} {url : Bs} {a : Option Addr} {c : Nat} {l : List Tx.Fd} (hl : Rd rest a (fc l)) (hlb : fsz l ≤ 268435456)
    (h : ∀ is_ ya, EB ya → Told X url l is_ ya → Ent e (OwnE ya (SRep M b X tr kp bytes most n :: Sl.ro M :: rest)) (K (.agg (ec ya).toArray) is_)) :
    Ent e (SRep M b X tr kp bytes most n :: Sl.ro M :: rest) (store_Store_Look (ptr b) (ba url) (.slice a l.length c) K) := by
  refine look_spec hl hlb (fun _ => ?_) fun i x y hi hx hy hbx => ?_
  · exact (h false ez EB_ez (fun hh => by cases hh)).imp own_ez
  · refine h true y (EB.of hy hbx) fun _ => ?_
    obtain ⟨x', h1, h2, h3⟩ := fdk_some hi
    rw [hx] at h1
    obtain rfl : x = x' := Option.some.inj (Option.some.inj h1)
    exact ⟨x, List.mem_of_getElem? hx, h2, h3, hy⟩
def TL (M : Hp) (X : List (Option Et)) (b bytes most N xb : Nat) (url : Bs) (l : List Tx.Fd) (is_ : Bool) : HProp := exs fun (q : List Int × List Int × Nat × Et) =>
  sepL [pur (q.2.2.1 ≤ N ∧ EB q.2.2.2 ∧ Told X url l is_ q.2.2.2), SlO q.2.2.2.wa q.2.2.2.wl.length q.2.2.2.wc 2 (fc q.2.2.2.wl), SlO q.2.2.2.fa q.2.2.2.fl.length q.2.2.2.fk 2 (fc q.2.2.2.fl), SlO q.2.2.2.ba_ q.2.2.2.bl.length q.2.2.2.bk 1 (u8 q.2.2.2.bl), pt xb (ec q.2.2.2), SRep M b X q.1 q.2.1 bytes most q.2.2.1, Sl.ro M]
theorem TL.shut {xb : Nat} {url : Bs} {l : List Tx.Fd} {is_ : Bool} {ya : Et} (h1 : n ≤ N) (h2 : EB ya) (h3 : Told X url l is_ ya) : Imp (OwnE ya (pt xb (ec ya) :: SRep M b X tr kp bytes most n :: Sl.ro M :: rest)) (TL M X b bytes most N xb url l is_ :: rest) :=
  Imp.exs (tr, kp, n, ya) (Imp.g7 (Imp.pur ⟨h1, h2, h3⟩ (Imp.refl _)))
theorem TL.open {p : WP} {xb : Nat} {url : Bs} {l : List Tx.Fd} {is_ : Bool} (h : ∀ tr kp n ya, n ≤ N → EB ya → Told X url l is_ ya → Ent e (OwnE ya (pt xb (ec ya) :: SRep M b X tr kp bytes most n :: Sl.ro M :: rest)) p) : Ent e (TL M X b bytes most N xb url l is_ :: rest) p :=
  Ent.exs fun q => Ent.g7 (Ent.pur fun ⟨h1, h2, h3⟩ => h _ _ _ _ h1 h2 h3)
theorem spec {K : Bool → WP} {by_ en : Int} {a : Option Addr} {c : Nat} {xs : List Tx.Act} (b0 : 0 ≤ by_) (b1 : by_ ≤ 65535) (k0 : 0 ≤ en) (k1 : en ≤ 255) (hx : Rd ctx a ((xs.map acC).flatten))
    (hxs : ∀ y ∈ xs, (RdE ctx y.x ∧ Rd ctx y.a (fc y.l)) ∧ EB y.x ∧ fsz y.l ≤ 268435456) (h : Ent e ctx (K true)) :
    Ent e ctx (law21_StoreTells by_ en (.slice a xs.length c) K) := by
  (refine Ent.fn law21_StoreTells_ok ?_; unfold law21_StoreTells_sh)
  (refine Ent.go ?_)
  have e1 : en.tmod 65 = en % 65 := Int.tmod_eq_emod_of_nonneg k0
  rw [e1]
  have q0 : 0 ≤ en % 65 := Int.emod_nonneg _ (by omega)
  have q1 : en % 65 < 65 := Int.emod_lt_of_pos _ (by omega)
  obtain ⟨mi, hmi⟩ : ∃ mi, mi = en % 65 := ⟨_, rfl⟩
  rw [← hmi] at q0 q1 ⊢
  refine Ent.imp (ctx' := Sl.ro (fun _ => none) :: ctx) (fun hp k => ⟨fun _ => none, hp, fun _ => .inl rfl, (fun _ _ hh => by cases hh), Hp.le_refl _, (fun _ _ hh => by cases hh), k⟩) ?_
  refine snew_spec (fun hh => absurd ⟨b0, by omega, q0, by omega⟩ (of_decide_eq_false hh)) fun b bytes most hb hm hb2 hm2 => ?_
  subst hb hm
  refine Ent.join ?_
  refine Ent.imp (ctx' := Sl.ro (fun _ => none) :: SRep (fun _ => none) b (List.replicate 64 none) [] [] bytes most 0 :: ctx) (by (focus ((repeat ((with_reducible apply Imp.pick); (repeat (first | exact Pick.hd | apply Pick.tl)))); (repeat (first | exact Imp.refl _ | exact Imp.nil _ | apply Imp.drop)); done))) ?_
  refine awake_spec fun M0 l0 => ?_
  refine Ent.imp (ctx' := SRep (fun _ => none) b (List.replicate 64 none) [] [] bytes most 0 :: Sl.ro M0 :: ctx) (by (focus ((repeat ((with_reducible apply Imp.pick); (repeat (first | exact Pick.hd | apply Pick.tl)))); (repeat (first | exact Imp.refl _ | exact Imp.nil _ | apply Imp.drop)); done))) ?_
  refine Ent.imp (SRep.mono l0) ?_
  refine Ent.wF ?_
  refine Ent.wF ?_
  refine Ent.wlen ?_
  refine Ent.rngL1 (k0 := .raw) xs.length (fun k (v : Value) => pur (k ≤ 80) :: TI ctx b bytes most (3 * k) k v :: ctx) rfl ?_ ?_
  · refine Imp.pur (by omega) ?_
    refine Imp.trans (Imp.slN (sz := 9) (Imp.refl _)) ?_
    exact TI.shut (ys := []) (by omega) (by simp) (fun y hy => by cases hy) (fun z hz => (nn_mem hz).elim)
  intro k hk K' hK v
  refine Ent.pur fun hk8 => ?_
  by_cases hl : k < xs.length
  rotate_left
  · refine Ent.wF ?_
    exact h.drop
  obtain ⟨y, hxk⟩ : ∃ y, xs[(k : Int).toNat]? = some y := ⟨_, List.getElem?_eq_getElem hl⟩
  obtain ⟨⟨hy1, hy2⟩, hy3, hy4⟩ := hxs y (List.mem_of_getElem? hxk)
  refine Ent.wT ?_
  refine Ent.join1 (kd := .raw) (fun v => pur (k < 80) :: TI ctx b bytes most (3 * (k + 1)) (k + 1) v :: ctx) ?_ ?_
  · intro v
    refine Ent.pur fun hk80 => ?_
    refine Ent.war ?_
    refine Ent.imp ?_ (hK hl v)
    exact Imp.pur (by omega) (Imp.refl _)
  intro j4 hj4
  refine Ent.wiAh (f := acC) ?_
  refine Ent.alloc' fun ab => ?_
  refine Ent.wstoA (l' := acC y) ?_ (vs := acC y) (hl := rfl) (hu := by (repeat (first | exact Upd.hd | apply Upd.tl)))
  by_cases hk4 : k = 80
  · refine Ent.wT ?_ (by simp; omega)
    exact h.drop.drop
  refine Ent.wF ?_ (by simp; omega)
  have fin : ∀ {M X tr kp n} {ys : List Et} {a c}, n ≤ 3 * (k + 1) → ys.length ≤ k + 1 → (∀ y ∈ ys, RdE ctx y ∧ EB y) → Sub ys X → Ent e (SlO a ys.length c 9 (ecs ys) :: SRep M b X tr kp bytes most n :: Sl.ro M :: ctx) (j4 (.slice a ys.length c)) := fun {M X tr kp n ys a c} h1 h2 h3 h4 => by
    refine Ent.imp (TI.shut h1 h2 h3 h4) ?_
    refine Ent.imp ?_ (hj4 _)
    exact Imp.pur (by omega) (Imp.refl _)
  clear hj4
  refine Ent.imp (ctx' := TI ctx b bytes most (3 * k) k v :: pt ab (acC y) :: ctx) (by (focus ((repeat ((with_reducible apply Imp.pick); (repeat (first | exact Pick.hd | apply Pick.tl)))); (repeat (first | exact Imp.refl _ | exact Imp.nil _ | apply Imp.drop)); done))) ?_
  refine TI.open fun M X tr kp n ys a2 c2 hv hn hys hrd hsub => ?_
  subst hv
  have hyl : ys.length ≤ 80 := by omega
  have lift : ∀ {z : Et} {l : List HProp}, z ∈ ys → RdE (l ++ pt ab (acC y) :: ctx) z := fun {z l} hz => (hrd z hz).1.mono (by
    induction l with
    | nil => exact Imp.drop (Imp.refl _)
    | cons A l ih => exact Imp.drop ih)
  have hwl := fsz_len y.x.wl
  have hwb := hy3.w
  refine Ent.wfI ?_
  refine Ent.condE (fun hw => ?_) fun hw => ?_
  · -- Put
    refine Ent.wlen ?_
    refine Ent.rngL1 (k0 := .raw) ys.length (fun j (v : Value) => (exs fun (q : Option Addr × Nat) => sepL [pur (v = .slice q.1 (keep (pdP y.x) ys j).length q.2), SlO q.1 (keep (pdP y.x) ys j).length q.2 9 (ecs (keep (pdP y.x) ys j))]) :: SlO a2 ys.length c2 9 (ecs ys) :: SRep M b X tr kp bytes most n :: Sl.ro M :: pt ab (acC y) :: ctx) rfl ?_ ?_
    · refine Imp.exs (none, 0) (Imp.g2 (Imp.pur rfl ?_))
      exact Imp.slN (sz := 9) (Imp.refl _)
    intro j hj K2 hK2 v
    refine Ent.exs fun ⟨a3, c3⟩ => Ent.g2 (Ent.pur fun hv => ?_)
    dsimp only at hv
    dsimp only
    subst hv
    have hkl := keep_len (pd := pdP y.x) (ys := ys) (j := j)
    by_cases hjl : j < ys.length
    · obtain ⟨z, hz⟩ : ∃ z, ys[(j : Int).toNat]? = some z := ⟨_, List.getElem?_eq_getElem hjl⟩
      have hz' : ys[j]? = some z := hz
      have hzm := List.mem_of_getElem? hz'
      have hzw := (hrd z hzm).2.w
      have hzl := fsz_len z.wl
      have ek := keep_next (pd := pdP y.x) hz'
      refine Ent.wT ?_
      refine Ent.wiAo (f := ec) (xs := ys) (y := z) ?_
      refine Ent.alloc' fun xb => ?_
      refine Ent.wstoA (l' := ec z) ?_ (vs := ec z) (hl := rfl) (hu := by (repeat (first | exact Upd.hd | apply Upd.tl)))
      have hfin : (if pdP y.x z = true then keep (pdP y.x) ys j else keep (pdP y.x) ys j ++ [z]) = keep (pdP y.x) ys (j + 1) := ek.symm
      have yes : pdP y.x z = false → Ent e (pt xb (ec z) :: SlO a3 (keep (pdP y.x) ys j).length c3 9 (ecs (keep (pdP y.x) ys j)) :: SlO a2 ys.length c2 9 (ecs ys) :: SRep M b X tr kp bytes most n :: Sl.ro M :: pt ab (acC y) :: ctx) (lR 28 (ptr xb) fun t78 => oR (vS (Instr.buildSlice 38 1 #[(0, t78)])) fun t79 => app 38 38 38 (.slice a3 (keep (pdP y.x) ys j).length c3) t79 fun t80 => ArK .i64 ((j : Int) + 1) fun t81 => K2 t80 t81) := fun hp => by
        refine Ent.wlA (cs := ec z) ?_
        refine Ent.app1 (sz := 9) (cs := ec z) (fun a4 c4 => ?_)
        refine Ent.war ?_
        rw [hp] at hfin
        simp only [Bool.false_eq_true, if_false] at hfin
        have e2 : (keep (pdP y.x) ys j).length + 1 = (keep (pdP y.x) ys (j + 1)).length := by rw [← hfin]; simp
        have e3 : ecs (keep (pdP y.x) ys j) ++ ec z = ecs (keep (pdP y.x) ys (j + 1)) := by rw [← hfin, ecs_app]; simp [ecs]
        rw [e2, e3]
        refine Ent.imp ?_ (hK2 hjl _)
        refine Imp.exs (a4, c4) (Imp.g2 (Imp.pur rfl ?_))
        (focus ((repeat ((with_reducible apply Imp.pick); (repeat (first | exact Pick.hd | apply Pick.tl)))); (repeat (first | exact Imp.refl _ | exact Imp.nil _ | apply Imp.drop)); done))
      refine Ent.join ?_
      (refine Ent.go ?_)
      refine Ent.cond (fun hc => ?_) fun hc => ?_
      · refine Ent.wT ?_
        refine yes ?_
        have hne : z.url ≠ y.x.url := by simpa [ba_inj] using hc
        exact pd_ne hne
      · have heq : z.url = y.x.url := by simpa [ba_inj] using hc
        (refine Ent.go ?_)
        refine ref_same16_spec ((lift (l := [_, _, _, _, _]) hzm).w) ((hy1.mono (by (focus (repeat (first | exact Imp.refl _ | exact Imp.nil _ | apply Imp.drop))))).w) (by omega) (by omega) ?_
        by_cases hw : z.wl = y.x.wl
        · rw [decide_eq_true hw]
          refine Ent.wF ?_
          refine Ent.war ?_
          have hp : pdP y.x z = true := by unfold pdP; rw [decide_eq_true heq, decide_eq_true hw]; rfl
          rw [if_pos hp] at hfin
          rw [hfin]
          refine Ent.imp ?_ (hK2 hjl _)
          refine Imp.exs (a3, c3) (Imp.g2 (Imp.pur rfl ?_))
          (focus ((repeat ((with_reducible apply Imp.pick); (repeat (first | exact Pick.hd | apply Pick.tl)))); (repeat (first | exact Imp.refl _ | exact Imp.nil _ | apply Imp.drop)); done))
        · rw [decide_eq_false hw]
          refine Ent.wT ?_
          refine yes ?_
          unfold pdP; rw [decide_eq_false hw, Bool.and_false]
    · obtain rfl : j = ys.length := by omega
      clear hK2
      obtain ⟨zs, hzs⟩ : ∃ zs, zs = keep (pdP y.x) ys ys.length := ⟨_, rfl⟩
      rw [← hzs] at hkl ⊢
      have hzr : ∀ z ∈ zs, RdE ctx z ∧ EB z := fun z hz => hrd z (keep_mem (hzs ▸ hz))
      refine Ent.wF ?_
      refine Ent.wfA (cs := ec y.x) ?_
      refine Ent.imp (ctx' := SRep M b X tr kp bytes most n :: Sl.ro M :: SlO a3 zs.length c3 9 (ecs zs) :: pt ab (acC y) :: ctx) (by (focus ((repeat ((with_reducible apply Imp.pick); (repeat (first | exact Pick.hd | apply Pick.tl)))); (repeat (first | exact Imp.refl _ | exact Imp.nil _ | apply Imp.drop)); done))) ?_
      refine SRep.ok fun hok _ _ => ?_
      have hsub' : Sub zs (gX (pdP y.x) X 64) := by rw [hzs]; exact hsub.keep (by rw [hok.len]; exact Nat.le_refl _) (fun _ _ h => pdP_d h)
      have hyr : RdE (SlO a3 zs.length c3 9 (ecs zs) :: pt ab (acC y) :: ctx) y.x := hy1.tl.tl
      refine put_spec (x := y.x) hyr hy3 (by omega) (fun h7 => ?_) fun M' y2 l2 hd2 hr2 hs2 hm2 s2 hs hf2 => ?_
      · refine Ent.join ?_
        refine Ent.wfA (cs := ec y.x) ?_
        refine size_spec (hyr.mono (by (focus (repeat (first | exact Imp.refl _ | exact Imp.nil _ | apply Imp.drop))))) hy3 ?_
        refine Ent.woI ?_
        have hfin : Ent e (SRep M b (gone3 (pdP y.x) ⟨X, tr, kp⟩).X (gone3 (pdP y.x) ⟨X, tr, kp⟩).tr (gone3 (pdP y.x) ⟨X, tr, kp⟩).kp bytes most n :: Sl.ro M :: SlO a3 zs.length c3 9 (ecs zs) :: pt ab (acC y) :: ctx) (j4 (.slice a3 zs.length c3)) := by
          refine Ent.imp ?_ (fin (n := n) (ys := zs) (X := (gone3 (pdP y.x) ⟨X, tr, kp⟩).X) (tr := (gone3 (pdP y.x) ⟨X, tr, kp⟩).tr) (kp := (gone3 (pdP y.x) ⟨X, tr, kp⟩).kp) (M := M) (a := a3) (c := c3) (by omega) (by omega) hzr hsub')
          (focus ((repeat ((with_reducible apply Imp.pick); (repeat (first | exact Pick.hd | apply Pick.tl)))); (repeat (first | exact Imp.refl _ | exact Imp.nil _ | apply Imp.drop)); done))
        refine Ent.condD (fun hle => ?_) fun hle => ?_
        · have hm0 : most = 0 := by omega
          refine Ent.woI ?_
          rw [e1, ← hmi]
          refine Ent.woB ?_
          rw [show decide ((most : Int) > 0) = false from decide_eq_false (by omega)]
          refine Ent.wF ?_
          refine Ent.wT ?_
          refine Ent.wF ?_
          refine Ent.wT ?_
          exact hfin
        · refine Ent.woB ?_
          refine Ent.wF ?_
          refine Ent.wT ?_
          refine Ent.wF ?_
          refine Ent.wT ?_
          exact hfin
      · refine Ent.join ?_
        refine Ent.wfA (cs := ec y.x) ?_
        refine size_spec (hyr.mono (by (focus (repeat (first | exact Imp.refl _ | exact Imp.nil _ | apply Imp.drop))))) hy3 ?_
        refine Ent.woI ?_
        refine Ent.wT ?_
        refine Ent.woI ?_
        rw [e1, ← hmi]
        refine Ent.woB ?_
        rw [show decide ((most : Int) > 0) = true from decide_eq_true (by omega)]
        refine Ent.wF ?_
        refine Ent.wF ?_
        refine Ent.wF ?_
        refine Ent.wF ?_
        have hsub2 : Sub (zs ++ [y.x]) (s2.X.set (free s2.X) (some y2)) := fun z hz => by
          rcases List.mem_or_eq_of_mem_set hz with hz | hz
          · rw [hs] at hz
            obtain ⟨q, hq, he⟩ := hsub' z (mem_evS _ _ hz)
            exact ⟨q, List.mem_append_left _ hq, he⟩
          · cases hz
            exact ⟨y.x, by simp, hd2.symm⟩
        refine Ent.wfA (cs := ec y.x) ?_
        refine Ent.app1 (sz := 9) (cs := ec y.x) (fun a4 c4 => ?_)
        have e2 : zs.length + 1 = (zs ++ [y.x]).length := by simp
        have e3 : ecs zs ++ ec y.x = ecs (zs ++ [y.x]) := by rw [ecs_app]; simp [ecs]
        rw [e2, e3]
        have hzr2 : ∀ z ∈ zs ++ [y.x], RdE ctx z ∧ EB z := fun z hz => by
          rcases List.mem_append.1 hz with hz | hz
          · exact hzr z hz
          · rw [List.mem_singleton.1 hz]; exact ⟨hy1, hy3⟩
        (refine Ent.go ?_)
        refine Ent.imp (ctx' := SRep M' b (s2.X.set (free s2.X) (some y2)) ((free s2.X : Int) :: s2.tr) s2.kp bytes most (n + 1) :: Sl.ro M' :: SlO a4 (zs ++ [y.x]).length c4 9 (ecs (zs ++ [y.x])) :: pt ab (acC y) :: ctx) (by (focus ((repeat ((with_reducible apply Imp.pick); (repeat (first | exact Pick.hd | apply Pick.tl)))); (repeat (first | exact Imp.refl _ | exact Imp.nil _ | apply Imp.drop)); done))) ?_
        have hfin : ∀ {G : List HProp}, Imp G (SRep M' b (s2.X.set (free s2.X) (some y2)) ((free s2.X : Int) :: s2.tr) s2.kp bytes most (n + 1) :: Sl.ro M' :: SlO a4 (zs ++ [y.x]).length c4 9 (ecs (zs ++ [y.x])) :: ctx) → Ent e G (j4 (.slice a4 (zs ++ [y.x]).length c4)) := fun {G} hG => by
          refine Ent.imp (hG.trans ?_) (fin (n := n + 1) (ys := zs ++ [y.x]) (X := s2.X.set (free s2.X) (some y2)) (tr := (free s2.X : Int) :: s2.tr) (kp := s2.kp) (M := M') (a := a4) (c := c4) (by omega) (by simp; omega) hzr2 hsub2)
          (focus ((repeat ((with_reducible apply Imp.pick); (repeat (first | exact Pick.hd | apply Pick.tl)))); (repeat (first | exact Imp.refl _ | exact Imp.nil _ | apply Imp.drop)); done))
        have hlen2 : s2.X.length = 64 := by rw [hs, evS_len]; show (gX _ _ _).length = 64; rw [gX_map (Nat.le_of_eq hok.len), List.length_map, hok.len]
        have hfree : (s2.X.set (free s2.X) (some y2))[free s2.X]? = some (some y2) := by
          have hf3 : cnt s2.X < most := by
            simp only [full, Bool.or_eq_false_iff, decide_eq_false_iff_not] at hf2
            omega
          have := free_lt (X := s2.X) (by omega)
          rw [List.getElem?_set_self this]
        refine look_spec (url := y.x.url) (l := y.l) (hy2.mono (by (focus (repeat (first | exact Imp.refl _ | exact Imp.nil _ | apply Imp.drop))))) hy4 (fun hno => ?_) fun i x ya hi hx hya hbx => ?_
        · refine Ent.alloc' fun xb => ?_
          refine Ent.wstoA (l' := ec ez) ?_ (vs := ec ez) (hl := rfl) (hu := by (repeat (first | exact Upd.hd | apply Upd.tl)))
          (refine Ent.go ?_)
          refine for_spec (hy1.mono (by (focus (repeat (first | exact Imp.refl _ | exact Imp.nil _ | apply Imp.drop))))) hy3 (hy2.mono (by (focus (repeat (first | exact Imp.refl _ | exact Imp.nil _ | apply Imp.drop))))) hy4 ?_
          refine Ent.cond (fun hc => ?_) fun hc => hfin (by (focus ((repeat ((with_reducible apply Imp.pick); (repeat (first | exact Pick.hd | apply Pick.tl)))); (repeat (first | exact Imp.refl _ | exact Imp.nil _ | apply Imp.drop)); done)))
          exfalso
          obtain ⟨i, z, e4, _⟩ := fdk_ge (url := y.x.url) (l := y.l) hfree (url_d hd2) ((forE_d hd2 _).trans hc) 64 (by
            have := (List.getElem?_eq_some_iff.1 hfree).1
            rw [List.length_set] at this; omega)
          rw [hno] at e4; cases e4
        · refine Ent.alloc' fun xb => ?_
          refine Ent.wstoA (l' := ec ya) ?_ (vs := ec ya) (hl := rfl) (hu := by (repeat (first | exact Upd.hd | apply Upd.tl)))
          (refine Ent.go ?_)
          refine for_spec (hy1.mono (by (focus (repeat (first | exact Imp.refl _ | exact Imp.nil _ | apply Imp.drop))))) hy3 (hy2.mono (by (focus (repeat (first | exact Imp.refl _ | exact Imp.nil _ | apply Imp.drop))))) hy4 ?_
          refine Ent.cond (fun hc => ?_) fun hc => hfin (by (focus ((repeat ((with_reducible apply Imp.pick); (repeat (first | exact Pick.hd | apply Pick.tl)))); (repeat (first | exact Imp.refl _ | exact Imp.nil _ | apply Imp.drop)); done)))
          obtain ⟨i', z, e4, e5, e6⟩ := fdk_ge (url := y.x.url) (l := y.l) hfree (url_d hd2) ((forE_d hd2 _).trans hc) 64 (by
            have := (List.getElem?_eq_some_iff.1 hfree).1
            rw [List.length_set] at this; omega)
          rw [hi] at e4
          obtain rfl : i = i' := Option.some.inj e4
          rw [hx] at e5
          obtain rfl : x = z := Option.some.inj (Option.some.inj e5)
          rw [came_d hd2, ← came_d hya] at e6
          refine Ent.wF ?_
          (refine Ent.go ?_)
          exact hfin (by (focus ((repeat ((with_reducible apply Imp.pick); (repeat (first | exact Pick.hd | apply Pick.tl)))); (repeat (first | exact Imp.refl _ | exact Imp.nil _ | apply Imp.drop)); done)))
  by_cases h12 : y.w = 1 ∨ y.w = 2
  · refine Ent.join1 (kd := .bool) (fun t => pur (t = true) :: SlO a2 ys.length c2 9 (ecs ys) :: SRep M b X tr kp bytes most n :: Sl.ro M :: pt ab (acC y) :: ctx) ?_ ?_
    rotate_left
    · intro j9 hj9
      rcases h12 with h1 | h1
      · rw [h1]
        refine Ent.wT ?_
        exact (hj9 true).imp (Imp.pur rfl (Imp.refl _))
      · rw [h1]
        refine Ent.wF ?_
        exact (hj9 true).imp (Imp.pur rfl (Imp.refl _))
    intro t
    refine Ent.pur fun ht => ?_
    subst ht
    refine Ent.wT ?_
    (refine Ent.go ?_)
    refine Ent.imp (ctx' := SRep M b X tr kp bytes most n :: Sl.ro M :: SlO a2 ys.length c2 9 (ecs ys) :: pt ab (acC y) :: ctx) (by (focus ((repeat ((with_reducible apply Imp.pick); (repeat (first | exact Pick.hd | apply Pick.tl)))); (repeat (first | exact Imp.refl _ | exact Imp.nil _ | apply Imp.drop)); done))) ?_
    refine get_m (url := y.url) (l := y.l) (by omega) (hy2.mono (by (focus (repeat (first | exact Imp.refl _ | exact Imp.nil _ | apply Imp.drop))))) hy4 fun is1 ya tr1 kp1 n1 hn1 hb1 ht1 => ?_
    refine Ent.alloc' fun xb => ?_
    refine Ent.wstoA (l' := ec ya) ?_ (vs := ec ya) (hl := rfl) (hu := by (repeat (first | exact Upd.hd | apply Upd.tl)))
    refine Ent.join1 (kd := .bool) (fun t => TL M X b bytes most (3 * (k + 1)) xb y.url y.l t :: SlO a2 ys.length c2 9 (ecs ys) :: pt ab (acC y) :: ctx) ?_ ?_
    rotate_left
    · intro j10 hj10
      refine Ent.wfI ?_
      refine Ent.condE (fun hw2 => ?_) fun hw2 => ?_
      · refine Ent.wfS ?_
        refine Ent.wfR ?_
        refine Ent.imp (ctx' := SRep M b X tr1 kp1 bytes most n1 :: Sl.ro M :: SlO a2 ys.length c2 9 (ecs ys) :: pt ab (acC y) :: pt xb (ec ya) :: ctx) (by (focus ((repeat ((with_reducible apply Imp.pick); (repeat (first | exact Pick.hd | apply Pick.tl)))); (repeat (first | exact Imp.refl _ | exact Imp.nil _ | apply Imp.drop)); done))) ?_
        refine look_m (url := y.url) (l := y.l) (hy2.mono (by (focus (repeat (first | exact Imp.refl _ | exact Imp.nil _ | apply Imp.drop))))) hy4 fun is2 yb hb2' ht2 => ?_
        refine Ent.wstoA (l' := ec yb) ?_ (vs := ec yb) (hl := rfl) (hu := by (repeat (first | exact Upd.hd | apply Upd.tl)))
        refine Ent.imp ?_ (hj10 is2)
        refine Imp.trans ?_ (TL.shut (n := n1) (tr := tr1) (kp := kp1) (by omega) hb2' ht2)
        (focus ((repeat ((with_reducible apply Imp.pick); (repeat (first | exact Pick.hd | apply Pick.tl)))); (repeat (first | exact Imp.refl _ | exact Imp.nil _ | apply Imp.drop)); done))
      · refine Ent.imp ?_ (hj10 is1)
        refine Imp.trans ?_ (TL.shut (n := n1) (tr := tr1) (kp := kp1) (by omega) hb1 ht1)
        (focus ((repeat ((with_reducible apply Imp.pick); (repeat (first | exact Pick.hd | apply Pick.tl)))); (repeat (first | exact Imp.refl _ | exact Imp.nil _ | apply Imp.drop)); done))
    intro is_
    refine TL.open fun tr2 kp2 n2 yb hn2 hbb htb => ?_
    have hfin : ∀ {G : List HProp}, Imp G (SRep M b X tr2 kp2 bytes most n2 :: Sl.ro M :: SlO a2 ys.length c2 9 (ecs ys) :: ctx) → Ent e G (j4 (.slice a2 ys.length c2)) := fun {G} hG => by
      refine Ent.imp (hG.trans ?_) (fin (n := n2) (ys := ys) (X := X) (tr := tr2) (kp := kp2) (M := M) (a := a2) (c := c2) hn2 (by omega) hrd hsub)
      (focus ((repeat ((with_reducible apply Imp.pick); (repeat (first | exact Pick.hd | apply Pick.tl)))); (repeat (first | exact Imp.refl _ | exact Imp.nil _ | apply Imp.drop)); done))
    refine Ent.cond (fun hc => hfin (by (focus ((repeat ((with_reducible apply Imp.pick); (repeat (first | exact Pick.hd | apply Pick.tl)))); (repeat (first | exact Imp.refl _ | exact Imp.nil _ | apply Imp.drop)); done)))) fun hc => ?_
    have his : is_ = true := by simpa using hc
    obtain ⟨x, hxX, hxu, hxf, hxd⟩ := htb his
    obtain ⟨z0, hz0, hzd⟩ := hsub x hxX
    refine OwnE.rd fun hrb => ?_
    refine Ent.wlen ?_
    refine Ent.rngL1 (k0 := .bool) ys.length (fun j (v : Bool) => pur (v = (ys.take j).any fun z => decide (dE yb = dE z)) :: OwnE yb (pt xb (ec yb) :: SRep M b X tr2 kp2 bytes most n2 :: Sl.ro M :: SlO a2 ys.length c2 9 (ecs ys) :: pt ab (acC y) :: ctx)) rfl ?_ ?_
    · refine Imp.pur (by simp) ?_
      (focus ((repeat ((with_reducible apply Imp.pick); (repeat (first | exact Pick.hd | apply Pick.tl)))); (repeat (first | exact Imp.refl _ | exact Imp.nil _ | apply Imp.drop)); done))
    intro j hj K2 hK2 v
    refine Ent.pur fun hv => ?_
    by_cases hjl : j < ys.length
    · obtain ⟨z, hz⟩ : ∃ z, ys[(j : Int).toNat]? = some z := ⟨_, List.getElem?_eq_getElem hjl⟩
      have hz' : ys[j]? = some z := hz
      have hzm := List.mem_of_getElem? hz'
      have hnx : ((ys.take (j + 1)).any fun z => decide (dE yb = dE z)) = (v || decide (dE yb = dE z)) := by rw [take_snoc hz', List.any_append, ← hv]; simp
      refine Ent.wT ?_
      refine Ent.wiAo (f := ec) (xs := ys) (y := z) ?_
      refine Ent.alloc' fun qb => ?_
      refine Ent.wstoA (l' := ec z) ?_ (vs := ec z) (hl := rfl) (hu := by (repeat (first | exact Upd.hd | apply Upd.tl)))
      refine Ent.cond (fun hc => ?_) fun hc => ?_
      · refine Ent.war ?_
        refine Ent.imp ?_ (hK2 hjl true)
        refine Imp.pur (by rw [hnx, hc]; rfl) ?_
        (focus ((repeat ((with_reducible apply Imp.pick); (repeat (first | exact Pick.hd | apply Pick.tl)))); (repeat (first | exact Imp.refl _ | exact Imp.nil _ | apply Imp.drop)); done))
      · refine Ent.wlA (cs := ec yb) ?_
        refine Ent.wlA (cs := ec z) ?_
        refine same_e_spec (x := yb) (y := z) (hrb _ (by (repeat (first | exact Has.hd | apply Has.tl))) (by (repeat (first | exact Has.hd | apply Has.tl))) (by (repeat (first | exact Has.hd | apply Has.tl)))) ((hrd z hzm).1.mono (by (focus (repeat (first | exact Imp.refl _ | exact Imp.nil _ | apply Imp.drop))))) hbb (hrd z hzm).2 ?_
        refine Ent.war ?_
        refine Ent.imp ?_ (hK2 hjl _)
        refine Imp.pur (by rw [hnx, hc]; rfl) ?_
        (focus ((repeat ((with_reducible apply Imp.pick); (repeat (first | exact Pick.hd | apply Pick.tl)))); (repeat (first | exact Imp.refl _ | exact Imp.nil _ | apply Imp.drop)); done))
    · obtain rfl : j = ys.length := by omega
      clear hK2
      have hvt : v = true := by
        rw [hv, List.take_length, List.any_eq_true]
        exact ⟨z0, hz0, by rw [hxd, hzd]; simp⟩
      subst hvt
      refine Ent.wF ?_
      refine Ent.wF ?_
      (refine Ent.go ?_)
      rw [show (yb.url = y.url) from (url_d hxd).trans hxu]
      refine Ent.wF ?_ (by simp)
      refine Ent.wlA (cs := ec yb) ?_
      refine Ent.wfR ?_
      refine for_spec (x := yb) (hrb _ (by (repeat (first | exact Has.hd | apply Has.tl))) (by (repeat (first | exact Has.hd | apply Has.tl))) (by (repeat (first | exact Has.hd | apply Has.tl)))) hbb (hy2.mono (by (focus (repeat (first | exact Imp.refl _ | exact Imp.nil _ | apply Imp.drop))))) hy4 ?_
      rw [forE_d hxd, hxf]
      refine Ent.wF ?_
      exact hfin (by (focus ((repeat ((with_reducible apply Imp.pick); (repeat (first | exact Pick.hd | apply Pick.tl)))); (repeat (first | exact Imp.refl _ | exact Imp.nil _ | apply Imp.drop)); done)))
  have hn1 : y.w ≠ 1 := fun hh => h12 (.inl hh)
  have hn2 : y.w ≠ 2 := fun hh => h12 (.inr hh)
  refine Ent.join ?_
  refine Ent.wF ?_
  refine Ent.wF ?_
  refine Ent.condE (fun hw3 => ?_) fun hw3 => ?_
  · -- Drop
    obtain ⟨pu, hpu⟩ : ∃ pu : Et → Bool, pu = fun z => decide (z.url = y.url) := ⟨_, rfl⟩
    refine Ent.wlen ?_
    refine Ent.rngL1 (k0 := .raw) ys.length (fun j (v : Value) => (exs fun (q : Option Addr × Nat) => sepL [pur (v = .slice q.1 (keep pu ys j).length q.2), SlO q.1 (keep pu ys j).length q.2 9 (ecs (keep pu ys j))]) :: SlO a2 ys.length c2 9 (ecs ys) :: SRep M b X tr kp bytes most n :: Sl.ro M :: pt ab (acC y) :: ctx) rfl ?_ ?_
    · refine Imp.exs (none, 0) (Imp.g2 (Imp.pur rfl ?_))
      exact Imp.slN (sz := 9) (Imp.refl _)
    intro j hj K2 hK2 v
    refine Ent.exs fun ⟨a3, c3⟩ => Ent.g2 (Ent.pur fun hv => ?_)
    dsimp only at hv
    dsimp only
    subst hv
    have hkl := keep_len (pd := pu) (ys := ys) (j := j)
    by_cases hjl : j < ys.length
    · obtain ⟨z, hz⟩ : ∃ z, ys[(j : Int).toNat]? = some z := ⟨_, List.getElem?_eq_getElem hjl⟩
      have hz' : ys[j]? = some z := hz
      have ek := keep_next (pd := pu) hz'
      refine Ent.wT ?_
      refine Ent.wiAo (f := ec) (xs := ys) (y := z) ?_
      refine Ent.alloc' fun xb => ?_
      refine Ent.wstoA (l' := ec z) ?_ (vs := ec z) (hl := rfl) (hu := by (repeat (first | exact Upd.hd | apply Upd.tl)))
      have hfin : (if pu z = true then keep pu ys j else keep pu ys j ++ [z]) = keep pu ys (j + 1) := ek.symm
      (refine Ent.go ?_)
      refine Ent.cond (fun hc => ?_) fun hc => ?_
      · have hne : z.url ≠ y.url := by simpa [ba_inj] using hc
        have hp : pu z = false := by rw [hpu]; exact decide_eq_false hne
        refine Ent.wlA (cs := ec z) ?_
        refine Ent.app1 (sz := 9) (cs := ec z) (fun a4 c4 => ?_)
        refine Ent.war ?_
        rw [hp] at hfin
        simp only [Bool.false_eq_true, if_false] at hfin
        have e2 : (keep pu ys j).length + 1 = (keep pu ys (j + 1)).length := by rw [← hfin]; simp
        have e3 : ecs (keep pu ys j) ++ ec z = ecs (keep pu ys (j + 1)) := by rw [← hfin, ecs_app]; simp [ecs]
        rw [e2, e3]
        refine Ent.imp ?_ (hK2 hjl _)
        refine Imp.exs (a4, c4) (Imp.g2 (Imp.pur rfl ?_))
        (focus ((repeat ((with_reducible apply Imp.pick); (repeat (first | exact Pick.hd | apply Pick.tl)))); (repeat (first | exact Imp.refl _ | exact Imp.nil _ | apply Imp.drop)); done))
      · have heq : z.url = y.url := by simpa [ba_inj] using hc
        have hp : pu z = true := by rw [hpu]; exact decide_eq_true heq
        refine Ent.war ?_
        rw [if_pos hp] at hfin
        rw [hfin]
        refine Ent.imp ?_ (hK2 hjl _)
        refine Imp.exs (a3, c3) (Imp.g2 (Imp.pur rfl ?_))
        (focus ((repeat ((with_reducible apply Imp.pick); (repeat (first | exact Pick.hd | apply Pick.tl)))); (repeat (first | exact Imp.refl _ | exact Imp.nil _ | apply Imp.drop)); done))
    · obtain rfl : j = ys.length := by omega
      clear hK2
      obtain ⟨zs, hzs⟩ : ∃ zs, zs = keep pu ys ys.length := ⟨_, rfl⟩
      rw [← hzs] at hkl ⊢
      have hzr : ∀ z ∈ zs, RdE ctx z ∧ EB z := fun z hz => hrd z (keep_mem (hzs ▸ hz))
      refine Ent.wF ?_
      refine Ent.wfS ?_
      refine Ent.imp (ctx' := SRep M b X tr kp bytes most n :: Sl.ro M :: SlO a3 zs.length c3 9 (ecs zs) :: pt ab (acC y) :: ctx) (by (focus ((repeat ((with_reducible apply Imp.pick); (repeat (first | exact Pick.hd | apply Pick.tl)))); (repeat (first | exact Imp.refl _ | exact Imp.nil _ | apply Imp.drop)); done))) ?_
      refine SRep.ok fun hok _ _ => ?_
      have hsub' : Sub zs (gX pu X 64) := by rw [hzs]; exact hsub.keep (by rw [hok.len]; exact Nat.le_refl _) (fun p q h => by rw [hpu]; dsimp only; rw [url_d h])
      refine drop_spec (url := y.url) ?_
      rw [← hpu]
      refine Ent.wfS ?_
      refine Ent.wfR ?_
      refine look_spec (url := y.url) (l := y.l) (hy2.mono (by (focus (repeat (first | exact Imp.refl _ | exact Imp.nil _ | apply Imp.drop))))) hy4 (fun hno => ?_) fun i x ya hi hx hya hbx => ?_
      · refine Ent.alloc' fun xb => ?_
        refine Ent.wstoA (l' := ec ez) ?_ (vs := ec ez) (hl := rfl) (hu := by (repeat (first | exact Upd.hd | apply Upd.tl)))
        refine Ent.wF ?_
        refine Ent.imp ?_ (fin (n := n) (ys := zs) (X := gX pu X 64) (tr := gL pu X 64 tr) (kp := gL pu X 64 kp) (M := M) (a := a3) (c := c3) (by omega) (by omega) hzr hsub')
        (focus ((repeat ((with_reducible apply Imp.pick); (repeat (first | exact Pick.hd | apply Pick.tl)))); (repeat (first | exact Imp.refl _ | exact Imp.nil _ | apply Imp.drop)); done))
      · exfalso
        obtain ⟨x', h1, h2, h3⟩ := fdk_some hi
        have := (mem_gX (Nat.le_of_eq hok.len) (List.mem_of_getElem? h1)).2
        rw [hpu] at this
        exact absurd h2 (of_decide_eq_false this)
  · refine Ent.imp ?_ (fin (n := n) (ys := ys) (X := X) (tr := tr) (kp := kp) (M := M) (a := a2) (c := c2) (by omega) (by omega) hrd hsub)
    (focus ((repeat ((with_reducible apply Imp.pick); (repeat (first | exact Pick.hd | apply Pick.tl)))); (repeat (first | exact Imp.refl _ | exact Imp.nil _ | apply Imp.drop)); done))
end
theorem walk {H : Type} {enc : TypeId × Value → H} {W : World} (base : Nat) (args : Array Value) (ds : List (DataW H)) (hval : ∀ (j : Nat) t v, Tryz.f4.params[j]? = some t → args[j]? = some v → Value.okWide Tryz.prog W .any base t v)
    (hA : ∃ p, DataW.TrodAll enc P W 0 (fun _ => true) true Tryz.f4.params.toList args.toList ds p) (hk : Rows.uptoBulkAll ds ≤ 1048576) :
    Calls P 4 args W fun e W' => e = .returned (.bool true) ∧ Below W.heap.size W W' := by
  obtain ⟨p, hA⟩ := hA
  have hp : Tryz.f4.params.toList = [32, 5, 33] := rfl
  rw [hp] at hA
  obtain ⟨v0, vs0, d0, ds0, q0, hv0, rfl, t0, hA⟩ := Lift.tr_cons hA
  obtain ⟨v1, vs1, d1, ds1, q1, hv1, rfl, t1, hA⟩ := Lift.tr_cons hA
  obtain ⟨v2, vs2, d2, ds2, q2, hv2, rfl, t2, hA⟩ := Lift.tr_cons hA
  obtain ⟨rfl, rfl⟩ := Lift.tr_nil hA
  simp only [Rows.uptoBulkAll] at hk
  obtain ⟨m, h0, r0, r1⟩ := Lift.tr_int (k := .u16) rfl t0
  obtain ⟨n, h1, r2, r3⟩ := Lift.tr_int (k := .u8) rfl t1
  obtain ⟨a, c, xs, h2, hr, hxs⟩ := tr_acts rfl t2 (by omega)
  obtain ⟨l', rfl⟩ : ∃ l : List Value, args = l.toArray := ⟨args.toList, by simp⟩
  simp only [List.toList_toArray] at hv0
  subst hv0 hv1 hv2
  obtain rfl := Lift.val_int rfl (hval 0 _ _ rfl rfl) h0
  obtain rfl := Lift.val_int rfl (hval 1 _ _ rfl rfl) h1
  obtain rfl := Lift.val_slice rfl (hval 2 _ _ rfl rfl) h2
  have j0 : (0 : Int) ≤ m := r0
  have j1 : m ≤ 65535 := r1
  have j2 : (0 : Int) ≤ n := r2
  have j3 : n ≤ 255 := r3
  exact Lift.calls_of fun K h => spec j0 j1 j2 j3 hr hxs h
theorem own : ownKnob Tryz.prog.godebug = none := by kernel_rfl
theorem contract (H : Type) (enc : TypeId × Value → H) (W : World) (base : Nat) (args : Array Value) (ds gs : List (DataW H)) (before : List MemPlace) (hval : ∀ (j : Nat) t v, Tryz.f4.params[j]? = some t → args[j]? = some v → Value.okWide Tryz.prog W .any base t v)
    (hW : DataW.Whole enc Tryz.prog Tryz.f4.params.toList Rows.storeTellsSpec.vars false W args.toList ds gs before) (hk : Rows.uptoBulkAll (ds ++ gs) ≤ 1048576) :
    Calls Tryz.prog 4 args W fun e W' => ∃ v, e = .returned v ∧ Rows.storeTellsSpec.post enc Tryz.prog Tryz.f4 false true false false W args v W' := by
  have hgs : gs = [] := by
    obtain ⟨p, q, _, hV, _⟩ := hW
    cases gs <;> simp_all [DataW.TrodVars, Rows.storeTellsSpec]
  subst hgs
  rw [List.append_nil] at hk
  have hA : ∃ p, DataW.TrodAll enc P W 0 (fun _ => true) true Tryz.f4.params.toList args.toList ds p := by
    obtain ⟨p, q, hA, _⟩ := hW
    exact ⟨p, hA⟩
  refine (walk base args ds hval hA hk).mono fun e W' ⟨he, hb⟩ => ?_
  exact ⟨_, he, Lift.law_post' (by kernel_rfl) rfl rfl rfl (fun ds h => by first | (rcases ds with _ | ⟨d1, _ | ⟨d2, _ | ⟨d3, _ | ⟨d4, ds⟩⟩⟩⟩ <;> first | rfl | (exfalso; simp [Tryz.f4] at h; done))) (by kernel_rfl) hW hb⟩
noncomputable def flat : Nat → DataW Unit → List Value
  | 0, _ => []
  | n + 1, .lit (.int k i) => [.int k i]
  | n + 1, .agg l => l.flatMap (flat n)
  | _, _ => []
noncomputable def lay (name : String) (d : DataW Unit) (h : Array Obj) : Array Obj := h.modify ((Tryz.prog.globalNamed name).getD 0) fun
  | .cells _ t frozen => .cells (flat 3 d).toArray t frozen
  | o => o
/-- the settled world, utf8's two tables laid -/
noncomputable def laidWorld (os : Os) : World :=
  { World.holding Tryz.prog os ⟨#[], #[], []⟩ with heap := lay "unicode/utf8.first" Rows.laid_unicode_utf8_first (lay "unicode/utf8.acceptRanges" Rows.laid_unicode_utf8_acceptRanges (World.holding Tryz.prog os ⟨#[], #[], []⟩).heap) }
theorem laid_met (os : Os) : laidMet Tryz.prog Rows.storeTellsRow.laid ((laidWorld os).forCall (fun _ _ => 0) ⟨#[], #[.int .u16 0, .int .u8 0, .slice none 0 0], []⟩).memory :=
  laidMet_of_run' 8 (by kernel_rfl) (by kernel_rfl)
theorem reads (os : Os) {H : Type} (enc : TypeId × Value → H) : ∃ places, DataW.whole enc Tryz.prog ((laidWorld os).forCall (fun _ _ => 0) ⟨#[], #[.int .u16 0, .int .u8 0, .slice none 0 0], []⟩).memory Tryz.f4.params.toList Rows.storeTellsSpec.vars false #[.int .u16 0, .int .u8 0, .slice none 0 0].toList 8 = some ([.lit (.int .u16 0), .lit (.int .u8 0), .nil], [], places) :=
  ⟨[], by kernel_rfl⟩
set_option maxRecDepth 100000 in
theorem lifted (os : Os) (started : os.Started) (H : Type) (enc : TypeId × Value → H) (F : Stop.Interp) :
    ReturnsInHanded {} Tryz.checked os 4 .any ((Rows.OpenSpec.upto Rows.storeTellsSpec).preRow enc Tryz.prog Tryz.f4 Rows.storeTellsUptoRow.domain false Rows.storeTellsUptoRow.laid) (((Rows.OpenSpec.upto Rows.storeTellsSpec).at F).post enc Tryz.prog Tryz.f4 false true false false) := by
  obtain ⟨places, hx⟩ := reads os enc
  refine returnsInHanded_of_row (C := Tryz.checked) (s := Rows.OpenSpec.upto Rows.storeTellsSpec) own started (by kernel_rfl) Tryz.func4
    (witness_row_at (enc := enc) (C := Tryz.checked) false (laidWorld os) #[.int .u16 0, .int .u8 0, .slice none 0 0] rfl (by kernel_rfl) (by kernel_rfl) (by kernel_rfl)
      (OpenSpec.preRow_of_cond 8 hx (by kernel_rfl) (fun k hk => by cases hk; kernel_rfl) (by kernel_rfl) (laid_met os))) ?_
  intro W base args ds gs before hval hW _ hcond _ hL _ _
  exact contract H enc W base args ds gs before hval hW (of_decide_eq_true (hcond _ rfl))
theorem over : Rows.StoreTellsUptoSaid :=
  OpenClaim.holds_of_cond 4 Tryz.f4 rfl rfl rfl rfl rfl rfl rfl ⟨rfl, rfl, rfl, rfl, rfl⟩ rfl rfl rfl rfl rfl (by kernel_rfl) Tryz.func4 (by kernel_rfl)
    (of_decide_eq_true (by kernel_rfl)) (by unfold Func.isWrapper; first | (rw [if_pos (by decide +kernel)]; kernel_rfl) | (rw [if_neg (by decide +kernel)]; exact ⟨rfl, rfl⟩))
    (fun os started H enc _ F => by rw [OpenClaim.pre_eq_preRow]; exact lifted os started H enc F)
theorem plain (f : FuncId) (fn : Func) (hf : Tryz.pinned.checked.prog.funcNamed "tollhouse/tollhouselaw21.StoreTells" = some f) (hfn : Tryz.pinned.checked.prog.funcs[f]? = some fn) :
    true = Tryz.pinned.checked.prog.looks [] ∧ ∀ (j : Nat) t, fn.params[j]? = some t → Tryz.pinned.checked.prog.wantsStandIn t = false := by
  obtain rfl : f = 4 := Option.some.inj ((show Tryz.prog.funcNamed "tollhouse/tollhouselaw21.StoreTells" = some 4 by kernel_rfl).symm.trans hf) |>.symm
  obtain rfl : fn = Tryz.f4 := (Option.some.inj (Tryz.func4.symm.trans hfn)).symm
  refine ⟨by kernel_rfl, fun j t ht => ?_⟩
  have := List.all_eq_true.1 (show (Tryz.f4.params.toList.all fun t => !Tryz.prog.wantsStandIn t) = true by kernel_rfl) t (by simpa using Array.mem_of_getElem? ht)
  exact (by simpa using this : Tryz.prog.wantsStandIn t = false)
theorem proved : Rows.StoreTellsUptoCardSaid :=
  Claim7.holds_tied_plain_at .later [] _ _ _ _ over (fun _ h => by cases h) (by kernel_rfl) (fun _ h => by cases h) storeTellsUpto_row_tie rfl ⟨rfl, rfl⟩ (by kernel_rfl) rfl plain (by kernel_rfl)

end Go.Proofs.YtfofnagocedlgaaGreatDoor.storeTells
