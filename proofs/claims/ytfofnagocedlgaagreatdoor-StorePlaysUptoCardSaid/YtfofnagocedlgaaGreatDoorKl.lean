/- The texts Sr3 Su, laid together. -/
import Derived.Test.YtfofnagocedlgaaGreatDoorKk
section
/-
  THE DOCUMENT'S STORE (layer 21): New, Drop, Put.
-/
set_option maxRecDepth 100000
set_option linter.unusedVariables false
set_option linter.unusedSectionVars false
set_option linter.unusedSimpArgs false
set_option maxHeartbeats 0
namespace Go.Proofs.YtfofnagocedlgaaGreatDoor.Tx
open Go Sh Sl
open Go.RowKit
attribute [local irreducible] condK ArK NilK OpK FnK StK joinK loopK DrawK andK PuK NxK EnK vS uS bS callS invokeS
theorem its_pre {X : List (Option Et)} {i j : Nat} {x : Et} : ∀ {N : Nat}, (its X N)[i]? = some (j, x) → (its X N).take i = its X j
  | 0, h => by simp [its] at h
  | N + 1, h => by
    have e : its X (N + 1) = its X N ++ itO N (X[N]?).join := rfl
    rw [e] at h ⊢
    rcases Nat.lt_or_ge i (its X N).length with h1 | h1
    · rw [List.getElem?_append_left h1] at h
      rw [List.take_append_of_le_length (by omega)]
      exact its_pre h
    · rw [List.getElem?_append_right h1] at h
      have h2 := itO_len N (X[N]?).join
      have h3 := (List.getElem?_eq_some_iff.1 h).1
      have h4 : i = (its X N).length := by omega
      rw [h4, Nat.sub_self] at h
      rw [h4, List.take_left' rfl]
      cases ho : (X[N]?).join with
      | none => rw [ho] at h; simp [itO] at h
      | some z =>
        rw [ho] at h
        simp only [itO, List.getElem?_cons_zero, Option.some.injEq, Prod.mk.injEq] at h
        rw [h.1]
section
variable {e : Env} {ctx ctx' rest R : List HProp} {M : Hp} {b : Nat} {X : List (Option Et)} {tr kp : List Int} {bytes most n : Nat} {Z : List It} {a : Option Addr} {c lb : Nat}
theorem its_nn {N : Nat} : ∀ k, its (nn N) k = []
  | 0 => rfl
  | k + 1 => by
    unfold its
    rw [its_nn k, nn_at]; rfl
/-- behind the first i of those that were there -/
def gAt (pd : Et → Bool) (s : St3) (i : Nat) : St3 := ((its s.X 64).take i).foldl (gStep pd) s
theorem gAt_at {pd : Et → Bool} {s : St3} {i j : Nat} {x : Et} (hX : s.X.length = 64) (h : (its s.X 64)[i]? = some (j, x)) : gAt pd s i = ⟨gX pd s.X j, gL pd s.X j s.tr, gL pd s.X j s.kp⟩ ∧ (gAt pd s i).X[j]? = some (some x) := by
  obtain ⟨h1, h2⟩ := its_mem.1 (List.mem_of_getElem? h)
  have e1 : gAt pd s i = ⟨gX pd s.X j, gL pd s.X j s.tr, gL pd s.X j s.kp⟩ := by
    unfold gAt
    rw [its_pre h, gone_fold hX j (by omega)]
  refine ⟨e1, ?_⟩
  rw [e1]
  exact gX_at h2
theorem gAt_next {pd : Et → Bool} {s : St3} {i j : Nat} {x : Et} (h : (its s.X 64)[i]? = some (j, x)) : gAt pd s (i + 1) = if pd x = true then ⟨(gAt pd s i).X.set j none, Lr.out (gAt pd s i).tr j, Lr.out (gAt pd s i).kp j⟩ else gAt pd s i := by
  unfold gAt
  rw [take_snoc h, List.foldl_append]
  rfl
theorem gAt_all {pd : Et → Bool} {s : St3} (hX : s.X.length = 64) : gAt pd s (its s.X 64).length = gone3 pd s := by
  unfold gAt
  rw [List.take_length, gone_fold hX 64 (Nat.le_refl _)]; rfl
theorem gAt_0 {pd : Et → Bool} {s : St3} : gAt pd s 0 = s := rfl
/-- the number of those that go among the first i -/
def gNum (pd : Et → Bool) (Z : List It) (i : Nat) : Nat := ((Z.take i).filter fun p => pd p.2).length
theorem gNum_next {pd : Et → Bool} {Z : List It} {i : Nat} {p : It} (h : Z[i]? = some p) : gNum pd Z (i + 1) = gNum pd Z i + (if pd p.2 = true then 1 else 0) := by
  unfold gNum
  rw [take_snoc h, List.filter_append, List.length_append]
  by_cases hp : pd p.2 = true <;> simp [hp]
theorem gNum_le {pd : Et → Bool} {Z : List It} {i : Nat} : gNum pd Z i ≤ i := by
  unfold gNum
  exact Nat.le_trans (List.length_filter_le _ _) (by simp; omega)
theorem gNum_all {pd : Et → Bool} {X : List (Option Et)} : ∀ k, ((its X k).filter fun p => pd p.2).length = gN pd X k
  | 0 => by simp [its, gN]
  | k + 1 => by
    unfold its
    rw [List.filter_append, List.length_append, gNum_all k]
    cases ho : X[k]? with
    | none =>
      have : gN pd X (k + 1) = gN pd X k := by
        unfold gN
        have hl : X.length ≤ k := List.getElem?_eq_none_iff.1 ho
        rw [List.take_of_length_le (by omega), List.take_of_length_le hl]
      rw [this]; rfl
    | some o =>
      rw [gN_next ho]
      cases o with
      | none => rfl
      | some x =>
        show _ + ([(k, x)].filter _).length = _ + (if qo pd (some x) = true then 1 else 0)
        by_cases hp : pd x = true <;> simp [qo, hp]
theorem filt_len {pd : Et → Bool} (hpd : ∀ y z, dE y = dE z → pd y = pd z) : ∀ {Z W : List It}, Z.map dI = W.map dI → (Z.filter fun p => pd p.2).length = (W.filter fun p => pd p.2).length
  | [], [], _ => rfl
  | [], _ :: _, h => by cases h
  | _ :: _, [], h => by cases h
  | p :: Z, q :: W, h => by
    simp only [List.map_cons, List.cons.injEq] at h
    have ih := filt_len hpd h.2
    have := hpd _ _ (Prod.mk.inj h.1).2
    by_cases hq : pd q.2 = true
    · simp [List.filter_cons, this, hq, ih]
    · simp [List.filter_cons, this, hq, ih]
theorem rdrop_spec {K : Int → WP} {url : Bs} (h : ∀ M', Hp.le M M' → Ent e (RS M' b (gX (fun x => decide (x.url = url)) X 64) (gL (fun x => decide (x.url = url)) X 64 tr) (gL (fun x => decide (x.url = url)) X 64 kp) bytes most :: Sl.ro M' :: rest) (K (gN (fun x => decide (x.url = url)) X 64 : Int))) :
    Ent e (RS M b X tr kp bytes most :: Sl.ro M :: rest) (ref21_Store_Drop (ptr b) (ba url) K) := by
  (refine Ent.fn ref21_Store_Drop_ok ?_; unfold ref21_Store_Drop_sh)
  refine RS.open fun lb Z a c hk => ?_
  have hz := hk.z64
  have hX := hk.ok.len
  obtain ⟨pd, hpd⟩ : ∃ pd : Et → Bool, pd = fun x => decide (x.url = url) := ⟨_, rfl⟩
  rw [← hpd] at h
  have hpe : ∀ y z, dE y = dE z → pd y = pd z := fun y z hh => by rw [hpd]; dsimp only; rw [(dE_iff.1 hh).1]
  have hshut : Imp (pt b [.slice a Z.length c, ptr lb, .int .i64 bytes, .int .i64 most] :: Lr.RRep lb tr kp (most * 2 / 3) :: Sl.ro M :: rest) (RS M b X tr kp bytes most :: Sl.ro M :: rest) := RS.shut hk
  (refine Ent.go ?_)
  refine Ent.imp hshut ?_
  refine Ent.rngL1 (k0 := .int .i64) Z.length (fun k (v : Int) => (exs fun (M' : Hp) => sepL [pur (Hp.le M M' ∧ v = (gNum pd Z k : Int)), RS M' b (gAt pd ⟨X, tr, kp⟩ k).X (gAt pd ⟨X, tr, kp⟩ k).tr (gAt pd ⟨X, tr, kp⟩ k).kp bytes most, Sl.ro M']) :: rest) rfl ?_ ?_
  · exact Imp.exs M (Imp.g3 (Imp.pur ⟨Hp.le_refl _, rfl⟩ (Imp.refl _)))
  intro k hk2 K' hK v
  refine Ent.exs fun M' => Ent.g3 (Ent.pur fun ⟨hM, hv⟩ => ?_)
  subst hv
  have hnl := gNum_le (pd := pd) (Z := Z) (i := k)
  refine Ent.wlen ?_
  by_cases hl : k < Z.length
  · obtain ⟨p, hp⟩ : ∃ p, Z[k]? = some p := ⟨_, List.getElem?_eq_getElem hl⟩
    obtain ⟨x, hx1, hx2, hx3, hx4⟩ := hk.at hp
    obtain ⟨g1, g2⟩ := gAt_at (pd := pd) (s := ⟨X, tr, kp⟩) hX hx1
    have g3 := gAt_next (pd := pd) (s := ⟨X, tr, kp⟩) hx1
    have g4 := gNum_next (pd := pd) hp
    have hpx : pd p.2 = pd x := hpe _ _ hx2
    have hrd := hk.rd.mono hM
    refine Ent.wT ?_
    refine Ent.wix hrd hp fun b1 o1 hp1 => ?_
    refine Ent.woR ?_
    refine Ent.wfSq (l := itC p) ?_
    refine Ent.woB ?_
    refine Ent.cond (fun hc => ?_) fun hc => ?_
    · have hu : p.2.url = url := by simpa [ba_inj] using hc
      have hy : pd x = true := by rw [← hpx, hpd]; exact decide_eq_true hu
      rw [if_pos hy] at g3
      rw [hpx, if_pos hy] at g4
      refine Ent.wix hrd hp fun b1 o1 hp1 => ?_
      refine Ent.wfIp (l := itC p) ?_
      refine rout_spec g2 fun M2 hM2 => ?_
      refine Ent.war ?_
      refine Ent.war ?_
      refine Ent.imp ?_ (hK hl _)
      refine Imp.exs M2 (Imp.g3 (Imp.pur ⟨Hp.le_trans hM hM2, by rw [g4]; omega⟩ ?_))
      rw [g3]
      exact Imp.refl _
    · have hu : p.2.url ≠ url := by simpa [ba_inj] using hc
      have hy : ¬ pd x = true := by rw [← hpx, hpd]; simpa using hu
      rw [if_neg hy] at g3
      rw [hpx, if_neg hy] at g4
      refine Ent.war ?_
      refine Ent.imp ?_ (hK hl _)
      refine Imp.exs M' (Imp.g3 (Imp.pur ⟨hM, by rw [g4]; omega⟩ ?_))
      rw [g3]
      exact Imp.refl _
  · have hke : k = (its X 64).length := by rw [← hk.zl]; omega
    have e1 : gAt pd ⟨X, tr, kp⟩ k = gone3 pd ⟨X, tr, kp⟩ := by rw [hke]; exact gAt_all hX
    have e2 : gNum pd Z k = gN pd X 64 := by
      unfold gNum
      rw [List.take_of_length_le (by omega), filt_len hpe hk.eq, gNum_all]
    rw [e1, e2]
    refine Ent.wF ?_
    exact h M' hM
theorem rnew_s_spec {K : Value → Int → WP} {by_ en : Int} (h1 : newB by_ en = false → Ent e (Sl.ro M :: rest) (K (.pointer none) 1))
    (h0 : ∀ b bytes most : Nat, by_ = bytes → en = most → bytes ≤ 262144 → most ≤ 64 → Ent e (RS M b (List.replicate 64 none) [] [] bytes most :: Sl.ro M :: rest) (K (ptr b) 0)) : Ent e (Sl.ro M :: rest) (ref21_New by_ en K) := by
  (refine Ent.fn ref21_New_ok ?_; unfold ref21_New_sh)
  refine Ent.join ?_
  have bad : ¬ (0 ≤ by_ ∧ by_ ≤ 262144 ∧ 0 ≤ en ∧ en ≤ 64) → Ent e (Sl.ro M :: rest) (K (.pointer none) 1) := fun hh => h1 (by unfold newB; exact decide_eq_false hh)
  by_cases c1 : by_ < 0
  · (refine Ent.go ?_)
    exact bad (by omega)
  refine Ent.wF ?_
  by_cases c2 : by_ > 262144
  · (refine Ent.go ?_)
    exact bad (by omega)
  refine Ent.wF ?_
  by_cases c3 : en < 0
  · (refine Ent.go ?_)
    exact bad (by omega)
  refine Ent.wF ?_
  by_cases c4 : en > 64
  · (refine Ent.go ?_)
    exact bad (by omega)
  obtain ⟨bytes, rfl⟩ := Int.eq_ofNat_of_zero_le (by omega : 0 ≤ by_)
  obtain ⟨most, rfl⟩ := Int.eq_ofNat_of_zero_le (by omega : 0 ≤ en)
  refine Ent.wF ?_
  (refine Ent.go ?_)
  refine Ent.opI ((st_quo (by decide) ?_).still) ?_
  · rw [Int.tdiv_eq_ediv_of_nonneg (by omega)]
    exact in_i64 (by omega) (by omega)
  have e0 : (2 * (most : Int)).tdiv 3 = ((most * 2 / 3 : Nat) : Int) := by
    rw [Int.tdiv_eq_ediv_of_nonneg (by omega)]; omega
  rw [e0]
  refine Lr.rnew_spec (fun hh => absurd ⟨by omega, by omega⟩ hh) fun lb _ _ => ?_
  rw [Int.toNat_natCast]
  (refine Ent.go ?_)
  refine Ent.box' fun b => ?_
  refine Ent.imp ?_ (h0 b bytes most rfl rfl (by omega) (by omega))
  refine Imp.trans ?_ (RS.shut (lb := lb) (Z := []) (a := none) (c := 0) ⟨SOk.new (by omega) (by omega), by simp, by simp, (by rw [its_nn 64]), rfl, by simp, Nat.le_refl _⟩)
  (focus ((repeat ((with_reducible apply Imp.pick); (repeat (first | exact Pick.hd | apply Pick.tl)))); (repeat (first | exact Imp.refl _ | exact Imp.nil _ | apply Imp.drop)); done))
theorem itcs_take (Z : List It) (n : Nat) (h : n ≤ Z.length) : (itcs Z).take (n * 10) = itcs (Z.take n) ∧ (itcs Z).drop (n * 10) = itcs (Z.drop n) := by
  have e1 : itcs Z = itcs (Z.take n) ++ itcs (Z.drop n) := by rw [← itcs_app, List.take_append_drop]
  have e2 : (itcs (Z.take n)).length = n * 10 := by rw [itcs_len, List.length_take, Nat.min_eq_left h]
  rw [e1]
  exact ⟨List.take_left' e2, List.drop_left' e2⟩
theorem itcs_one {Z : List It} : ∀ v ∈ itcs Z, v.oneCell' = true := by
  intro v hv
  unfold itcs at hv
  obtain ⟨l, hl, hvl⟩ := List.mem_flatten.1 hv
  obtain ⟨p, _, rfl⟩ := List.mem_map.1 hl
  simp only [itC, ec, List.mem_cons, List.not_mem_nil, or_false] at hvl
  rcases hvl with rfl | rfl | rfl | rfl | rfl | rfl | rfl | rfl | rfl | rfl <;> rfl
theorem ROk.put {M' : Hp} {y y0 : Et} {a5 : Option Addr} {c5 k : Nat} (hk : ROk M X tr kp bytes most Z a c) (hM : Hp.le M M') (hf : X[k]? = some none) (hkm : k < most) (hpre : ∀ j, j < k → ∃ x, X[j]? = some (some x)) (hd : dE y = dE y0) (hy : RdEM M' y) (hy0 : RdEM M' y0) (hb : EB y) (hb0 : EB y0)
    (hs : Tx.used X + size y0 ≤ bytes) (hr : RdM M' a5 (((Z.take k ++ [(k, y)] ++ Z.drop k).map itC).flatten)) (hc : (Z.take k ++ [(k, y)] ++ Z.drop k).length ≤ c5) : ROk M' (X.set k (some y0)) ((k : Int) :: tr) kp bytes most (Z.take k ++ [(k, y)] ++ Z.drop k) a5 c5 := by
  have hX := hk.ok.len
  have hms := hk.ok.ms
  have hno : (k : Int) ∉ tr ++ kp := fun h => by
    obtain ⟨z, hz⟩ := (hk.ok.mem k).2 h
    rw [hf] at hz; cases hz
  refine ⟨(hk.ok.mono hM).put hf hkm hy0 hb0 hs, List.nodup_cons.2 ⟨hno, hk.nd⟩, fun z hz => ?_, ?_, hr, fun p hp => ?_, hc⟩
  · rcases List.mem_cons.1 hz with rfl | hz
    · omega
    · exact hk.ids z hz
  · rw [its_put (by omega) hf hpre 64 (by omega)]
    simp only [List.map_append, List.map_take, List.map_drop, hk.eq, List.map_cons, List.map_nil, dI, hd]
  · rcases List.mem_append.1 hp with hp | hp
    · rcases List.mem_append.1 hp with hp | hp
      · obtain ⟨h1, h2⟩ := hk.en p (List.mem_of_mem_take hp)
        exact ⟨h1.mono hM, h2⟩
      · rw [List.mem_singleton.1 hp]; exact ⟨hy, hb⟩
    · obtain ⟨h1, h2⟩ := hk.en p (List.mem_of_mem_drop hp)
      exact ⟨h1.mono hM, h2⟩
theorem rput_spec {K : Int → WP} {x y0 : Et} (hr : RdE rest x) (hb : EB x) (hy0 : size x ≤ bytes → 0 < most → dE y0 = dE x ∧ RdEM M y0)
    (h7 : ∀ M', Hp.le M M' → (size x > bytes ∨ most = 0) → Ent e (RS M' b (gone3 (pdP x) ⟨X, tr, kp⟩).X (gone3 (pdP x) ⟨X, tr, kp⟩).tr (gone3 (pdP x) ⟨X, tr, kp⟩).kp bytes most :: Sl.ro M' :: rest) (K 7))
    (h0 : ∀ M', Hp.le M M' → size x ≤ bytes → 0 < most → ∀ s2, s2 = evS most bytes (size x) 65 (gone3 (pdP x) ⟨X, tr, kp⟩) →
      Ent e (RS M' b (s2.X.set (free s2.X) (some y0)) ((free s2.X : Int) :: s2.tr) s2.kp bytes most :: Sl.ro M' :: rest) (K 0)) :
    Ent e (RS M b X tr kp bytes most :: Sl.ro M :: rest) (ref21_Store_Put (ptr b) (.agg (ec x).toArray) K) := by
  have hsz := size_b hb
  have hwl := fsz_len x.wl
  have hwb := hb.w
  (refine Ent.fn ref21_Store_Put_ok ?_; unfold ref21_Store_Put_sh)
  refine Ent.box' fun eb => ?_
  refine Ent.bring (A := RS M b X tr kp bytes most) ?_
  refine RS.open fun lb Z a c hk => ?_
  have hz := hk.z64
  have hX := hk.ok.len
  have hby := hk.ok.by_
  have hms := hk.ok.ms
  have hpe : ∀ y z, dE y = dE z → pdP x y = pdP x z := fun y z hh => by
    obtain ⟨h1, _, _, h4, _⟩ := dE_iff.1 hh
    unfold pdP
    rw [h1, h4]
  have hshut : Imp (pt b [.slice a Z.length c, ptr lb, .int .i64 bytes, .int .i64 most] :: Lr.RRep lb tr kp (most * 2 / 3) :: pt eb (ec x) :: Sl.ro M :: rest) (RS M b X tr kp bytes most :: Sl.ro M :: pt eb (ec x) :: rest) := (RS.shut hk).trans (by (focus ((repeat ((with_reducible apply Imp.pick); (repeat (first | exact Pick.hd | apply Pick.tl)))); (repeat (first | exact Imp.refl _ | exact Imp.nil _ | apply Imp.drop)); done)))
  (refine Ent.go ?_)
  refine Ent.imp hshut ?_
  refine Ent.rngL0 Z.length (fun k => (exs fun (M' : Hp) => sepL [pur (Hp.le M M'), RS M' b (gAt (pdP x) ⟨X, tr, kp⟩ k).X (gAt (pdP x) ⟨X, tr, kp⟩ k).tr (gAt (pdP x) ⟨X, tr, kp⟩ k).kp bytes most, Sl.ro M']) :: pt eb (ec x) :: rest) rfl ?_ ?_
  · exact Imp.exs M (Imp.g3 (Imp.pur (Hp.le_refl _) (Imp.refl _)))
  intro k hk2 K' hK
  refine Ent.exs fun M' => Ent.g3 (Ent.pur fun hM => ?_)
  refine Ent.wlen ?_
  by_cases hl : k < Z.length
  · obtain ⟨p, hp⟩ : ∃ p, Z[k]? = some p := ⟨_, List.getElem?_eq_getElem hl⟩
    obtain ⟨z, hx1, hx2, hx3, hx4⟩ := hk.at hp
    obtain ⟨g1, g2⟩ := gAt_at (pd := pdP x) (s := ⟨X, tr, kp⟩) hX hx1
    have g3 := gAt_next (pd := pdP x) (s := ⟨X, tr, kp⟩) hx1
    have hpx : pdP x p.2 = pdP x z := hpe _ _ hx2
    have hrd := hk.rd.mono hM
    obtain ⟨hr1, hr2⟩ := hk.en p (List.mem_of_getElem? hp)
    have hpl := fsz_len p.2.wl
    have hpb := hr2.w
    refine Ent.wT ?_
    refine Ent.join1 (kd := .bool) (fun t => pur (t = pdP x z) :: RS M' b (gAt (pdP x) ⟨X, tr, kp⟩ k).X (gAt (pdP x) ⟨X, tr, kp⟩ k).tr (gAt (pdP x) ⟨X, tr, kp⟩ k).kp bytes most :: Sl.ro M' :: pt eb (ec x) :: rest) ?_ ?_
    rotate_left
    · intro j3 hj3
      refine Ent.draw [Sl.ro M', pt eb (ec x)] (by (focus ((repeat ((with_reducible apply Imp.pick); (repeat (first | exact Pick.hd | apply Pick.tl)))); (repeat (first | exact Imp.refl _ | exact Imp.nil _ | apply Imp.drop)); done))) ?_
      refine Ent.wixQ hrd hp fun b1 o1 hp1 => ?_
      refine Ent.wqR ?_
      refine Ent.wgSq (l := itC p) ?_
      refine Ent.wgS ?_
      refine Ent.wqB ?_
      refine Ent.cond (fun hc => ?_) fun hc => ?_
      · have hu : p.2.url = x.url := by simpa [ba_inj] using hc
        refine Ent.wixQ hrd hp fun b1 o1 hp1 => ?_
        refine Ent.wqR ?_
        refine Ent.wgRq (l := itC p) ?_
        refine Ent.wgR ?_
        refine ref_same16_spec ((hr1.mono hM).w.rd (by (repeat (first | exact Has.hd | apply Has.tl)))) (hr.mono (by (focus (repeat (first | exact Imp.refl _ | exact Imp.nil _ | apply Imp.drop))))).w (by omega) (by omega) ?_
        refine Ent.wand ?_
        refine (hj3 _).imp (Imp.pur ?_ (Imp.refl _))
        rw [← hpx]
        unfold pdP
        rw [decide_eq_true hu, Bool.true_and]
      · have hu : p.2.url ≠ x.url := by simpa [ba_inj] using hc
        refine (hj3 _).imp (Imp.pur ?_ (Imp.refl _))
        rw [← hpx]
        exact (pd_ne hu).symm
    intro t
    refine Ent.pur fun ht => ?_
    subst ht
    refine Ent.cond (fun hc => ?_) fun hc => ?_
    · rw [if_pos hc] at g3
      refine Ent.wix hrd hp fun b1 o1 hp1 => ?_
      refine Ent.wfIp (l := itC p) ?_
      refine rout_spec g2 fun M2 hM2 => ?_
      refine Ent.war ?_
      refine Ent.imp ?_ (hK hl)
      refine Imp.exs M2 (Imp.g3 (Imp.pur (Hp.le_trans hM hM2) ?_))
      rw [g3]
      exact Imp.refl _
    · rw [if_neg (by rw [hc]; decide)] at g3
      refine Ent.war ?_
      refine Ent.imp ?_ (hK hl)
      refine Imp.exs M' (Imp.g3 (Imp.pur hM ?_))
      rw [g3]
      exact Imp.refl _
  have hke : k = (its X 64).length := by rw [← hk.zl]; omega
  have e1 : gAt (pdP x) ⟨X, tr, kp⟩ k = gone3 (pdP x) ⟨X, tr, kp⟩ := by rw [hke]; exact gAt_all hX
  rw [e1]
  clear hK hshut
  refine Ent.wF ?_
  obtain ⟨s0, hs0⟩ : ∃ s0, s0 = gone3 (pdP x) ⟨X, tr, kp⟩ := ⟨_, rfl⟩
  rw [← hs0] at h0 h7 ⊢
  refine RS.open fun lb Z1 a1 c1 hk1 => ?_
  have hshut : Imp (pt b [.slice a1 Z1.length c1, ptr lb, .int .i64 bytes, .int .i64 most] :: Lr.RRep lb s0.tr s0.kp (most * 2 / 3) :: Sl.ro M' :: pt eb (ec x) :: rest) (RS M' b s0.X s0.tr s0.kp bytes most :: Sl.ro M' :: pt eb (ec x) :: rest) := RS.shut hk1
  refine Ent.join1 (kd := .bool) (fun t => pur (t = decide (size x > bytes ∨ most = 0)) :: RS M' b s0.X s0.tr s0.kp bytes most :: Sl.ro M' :: pt eb (ec x) :: rest) ?_ ?_
  rotate_left
  · intro j4 hj4
    refine Ent.draw [pt b [.slice a1 Z1.length c1, ptr lb, .int .i64 bytes, .int .i64 most], pt eb (ec x)] (by (focus ((repeat ((with_reducible apply Imp.pick); (repeat (first | exact Pick.hd | apply Pick.tl)))); (repeat (first | exact Imp.refl _ | exact Imp.nil _ | apply Imp.drop)); done))) ?_
    refine Ent.stR (v := .agg (ec x).toArray) (st_loadA (n := 9) (cs := ec x) (.tl .hd) rfl rfl rfl) ?_
    refine Ent.whI ?_
    refine ref_size_spec (hr.mono (by (focus (repeat (first | exact Imp.refl _ | exact Imp.nil _ | apply Imp.drop))))) hb ?_
    refine Ent.wand ?_
    refine Ent.condD (fun h1 => ?_) fun h1 => ?_
    · refine Ent.imp ?_ (hj4 _)
      exact Imp.trans hshut (Imp.pur (decide_eq_true (by omega)).symm (Imp.refl _))
    · refine Ent.whI ?_
      refine Ent.imp ?_ (hj4 _)
      refine Imp.trans hshut (Imp.pur ?_ (Imp.refl _))
      by_cases hm : most = 0
      · rw [decide_eq_true (by omega : size x > bytes ∨ most = 0), hm]; rfl
      · rw [decide_eq_false (by omega : ¬ (size x > bytes ∨ most = 0))]
        exact beq_eq_false_iff_ne.2 (by omega)
  intro t
  refine Ent.pur fun ht => ?_
  subst ht
  refine Ent.cond (fun hc => ?_) fun hc => ?_
  · refine Ent.imp ?_ (h7 M' hM (of_decide_eq_true hc))
    (focus ((repeat ((with_reducible apply Imp.pick); (repeat (first | exact Pick.hd | apply Pick.tl)))); (repeat (first | exact Imp.refl _ | exact Imp.nil _ | apply Imp.drop)); done))
  clear h7 hshut hk1
  have hc' := of_decide_eq_false hc
  -- those that go for it
  refine Ent.imp (ctx' := RS M' b s0.X s0.tr s0.kp bytes most :: Sl.ro M' :: pt eb (ec x) :: rest) (by (focus ((repeat ((with_reducible apply Imp.pick); (repeat (first | exact Pick.hd | apply Pick.tl)))); (repeat (first | exact Imp.refl _ | exact Imp.nil _ | apply Imp.drop)); done))) ?_
  refine RS.open fun lb Z1 a1 c1 hk1 => ?_
  have hl0 : (s0.tr ++ s0.kp).length ≤ 64 := Lr.len_le 64 _ hk1.nd hk1.ids
  refine Ent.imp (RS.shut hk1) ?_
  clear hk1
  refine Ent.loop0 (fun N => exs (fun (q : St3 × Hp) => sepL [pur (evS most bytes (size x) 65 s0 = evS most bytes (size x) N q.1 ∧ q.1.tr.length + q.1.kp.length < N ∧ Hp.le M' q.2), RS q.2 b q.1.X q.1.tr q.1.kp bytes most, Sl.ro q.2]) :: pt eb (ec x) :: rest) 65 ?_ ?_
  · refine Imp.exs (s0, M') (Imp.g3 (Imp.pur ⟨rfl, ?_, Hp.le_refl _⟩ (Imp.refl _)))
    rw [List.length_append] at hl0
    dsimp only
    omega
  intro N K' hK
  refine Ent.exs fun ⟨s, M2⟩ => Ent.g3 (Ent.pur fun ⟨f1, f2, f3⟩ => ?_)
  dsimp only at f1 f2 f3
  dsimp only
  obtain ⟨N', rfl⟩ : ∃ N', N = N' + 1 := ⟨N - 1, by omega⟩
  refine RS.open fun lb Z1 a1 c1 hk1 => ?_
  have hz1 := hk1.z64
  have hus := hk1.ok.us
  have hcnt : Z1.length = cnt s.X := by
    rw [hk1.zl, cnt_ents, ← List.length_map (f := Prod.snd), its_snd 64 (Nat.le_of_eq hk1.ok.len.symm), List.take_of_length_le (Nat.le_of_eq hk1.ok.len)]
  have hshut : Imp (pt b [.slice a1 Z1.length c1, ptr lb, .int .i64 bytes, .int .i64 most] :: Lr.RRep lb s.tr s.kp (most * 2 / 3) :: Sl.ro M2 :: pt eb (ec x) :: rest) (RS M2 b s.X s.tr s.kp bytes most :: Sl.ro M2 :: pt eb (ec x) :: rest) := RS.shut hk1
  refine Ent.join1 (kd := .bool) (fun v => pur (v = full most bytes (size x) s) :: RS M2 b s.X s.tr s.kp bytes most :: Sl.ro M2 :: pt eb (ec x) :: rest) ?_ ?_
  rotate_left
  · intro j7 hj7
    refine Ent.draw [pt b [.slice a1 Z1.length c1, ptr lb, .int .i64 bytes, .int .i64 most], pt eb (ec x)] (by (focus ((repeat ((with_reducible apply Imp.pick); (repeat (first | exact Pick.hd | apply Pick.tl)))); (repeat (first | exact Imp.refl _ | exact Imp.nil _ | apply Imp.drop)); done))) ?_
    refine Ent.whR ?_
    refine Ent.wsI ?_
    refine Ent.whI ?_
    refine Ent.condD (fun h1 => ?_) fun h1 => ?_
    · refine Ent.imp ?_ (hj7 _)
      refine Imp.trans hshut (Imp.pur ?_ (Imp.refl _))
      unfold full
      rw [decide_eq_true (by omega)]; rfl
    · refine Ent.stR (v := .agg (ec x).toArray) (st_loadA (n := 9) (cs := ec x) (.tl .hd) rfl rfl rfl) ?_
      refine Ent.whI ?_
      refine rused_spec hk1 (by (repeat (first | exact Has.hd | apply Has.tl))) (by (repeat (first | exact Has.hd | apply Has.tl))) ?_
      refine Ent.wand ?_
      refine ref_size_spec (hr.mono (by (focus (repeat (first | exact Imp.refl _ | exact Imp.nil _ | apply Imp.drop))))) hb ?_
      refine Ent.wand ?_
      refine Ent.ar (in_i64 (by omega) (by omega)) ?_
      refine Ent.imp ?_ (hj7 _)
      refine Imp.trans hshut (Imp.pur ?_ (Imp.refl _))
      unfold full
      rw [decide_eq_false (by omega : ¬ most ≤ cnt s.X), Bool.false_or]
      exact decide_eq_decide.2 (by omega)
  intro t
  refine Ent.pur fun ht => ?_
  subst ht
  refine Ent.cond (fun hc2 => ?_) fun hc2 => ?_
  · -- one goes
    have hne : s.tr ++ s.kp ≠ [] := by
      intro h1
      have hno : ∀ (i : Nat) y, s.X[i]? ≠ some (some y) := fun i y hy => by
        have := (hk1.ok.mem i).1 ⟨y, hy⟩
        rw [h1] at this; cases this
      obtain ⟨u1, u2⟩ := used_none hno
      simp only [full, u1, u2, Bool.or_eq_true, decide_eq_true_eq] at hc2
      omega
    obtain ⟨v1, v2⟩ := vic_mem hne
    obtain ⟨i1, i2⟩ := hk1.ids _ v2
    obtain ⟨i, hi⟩ := Int.eq_ofNat_of_zero_le i1
    obtain ⟨y, hy⟩ := (hk1.ok.mem i).2 (by rw [← hi]; exact v2)
    refine Ent.imp (ctx' := RS M2 b s.X s.tr s.kp bytes most :: Sl.ro M2 :: pt eb (ec x) :: rest) (Imp.refl _) ?_
    refine RS.open fun lb Z1 a1 c1 hk1 => ?_
    (refine Ent.go ?_)
    refine Ent.imp (ctx' := Lr.RRep lb s.tr s.kp (most * 2 / 3) :: pt b [.slice a1 Z1.length c1, ptr lb, .int .i64 bytes, .int .i64 most] :: Sl.ro M2 :: pt eb (ec x) :: rest) (by (focus ((repeat ((with_reducible apply Imp.pick); (repeat (first | exact Pick.hd | apply Pick.tl)))); (repeat (first | exact Imp.refl _ | exact Imp.nil _ | apply Imp.drop)); done))) ?_
    refine Lr.rvictim_spec hk1.lens.1 hk1.lens.2 ?_
    refine Ent.imp ((Imp.perm (.swap _ _ _)).trans (RS.shut hk1)) ?_
    rw [hi]
    refine rout_spec hy fun M3 hM3 => ?_
    refine Ent.imp ?_ (hK N' (by omega))
    refine Imp.exs (ev1 s, M3) (Imp.g3 (Imp.pur ⟨?_, ?_, Hp.le_trans f3 hM3⟩ ?_))
    · rw [f1, evS_step hc2]
    · dsimp only [ev1]
      rw [← List.length_append]
      have : (Lr.out s.tr (Lr.vic s.tr s.kp).1 ++ Lr.out s.kp (Lr.vic s.tr s.kp).1).length < (s.tr ++ s.kp).length := by
        rcases List.mem_append.1 v2 with h1 | h1
        · have := out_lt h1
          have := out_len s.kp (Lr.vic s.tr s.kp).1
          simp only [List.length_append]; omega
        · have := out_lt h1
          have := out_len s.tr (Lr.vic s.tr s.kp).1
          simp only [List.length_append]; omega
      simp only [List.length_append] at this ⊢
      omega
    · unfold ev1
      rw [hi]
      exact Imp.refl _
  -- it is laid
  clear hk1 hz1 hus hcnt hshut
  refine RS.open fun lb Z1 a1 c1 hk1 => ?_
  have hz1 := hk1.z64
  have hse : s = evS most bytes (size x) 65 s0 := by rw [f1, evS_stop hc2]
  simp only [full, Bool.or_eq_false_iff, decide_eq_false_iff_not] at hc2
  obtain ⟨p1, p2, p3⟩ := cnt_lt (X := s.X) (most := most) (by omega) (by rw [hk1.ok.len]; exact hms) hk1.ok.lt
  obtain ⟨d0, m0⟩ := hy0 (by omega) (by omega)
  obtain ⟨n0, hn0⟩ : ∃ n0, n0 = free s.X := ⟨_, rfl⟩
  rw [← hn0] at p1 p2 p3
  have h0' := fun M' h1 => h0 M' h1 (by omega) (by omega) s hse
  rw [← hn0] at h0'
  clear h0 hK hse
  have hcap := hk1.cap
  obtain ⟨r1, r2⟩ := its_run p3 n0 (Nat.le_refl _)
  have hX1 := hk1.ok.len
  have hat : ∀ j, j < n0 → ∃ p, Z1[j]? = some p ∧ p.1 = j := fun j hj => by
    obtain ⟨z, hz⟩ := p3 j hj
    have h1 := r2 j z hj hz
    have hjk : ∀ d, (its s.X (n0 + d))[j]? = some (j, z) := by
      intro d
      induction d with
      | zero => exact h1
      | succ d ih =>
        show (its s.X (n0 + d) ++ _)[j]? = _
        rw [List.getElem?_append_left (List.getElem?_eq_some_iff.1 ih).1]; exact ih
    have h2 := hjk (64 - n0)
    rw [show n0 + (64 - n0) = 64 by omega] at h2
    have h3 := (List.getElem?_eq_some_iff.1 h2).1
    rw [← hk1.zl] at h3
    obtain ⟨p, hp⟩ : ∃ p, Z1[j]? = some p := ⟨_, List.getElem?_eq_getElem h3⟩
    obtain ⟨z', g1, _⟩ := hk1.at hp
    rw [h2] at g1
    exact ⟨p, hp, by cases g1; rfl⟩
  have hnz : n0 ≤ Z1.length := by
    rcases Nat.eq_zero_or_pos n0 with h1 | h1
    · omega
    · obtain ⟨p, hp, _⟩ := hat (n0 - 1) (by omega)
      have := (List.getElem?_eq_some_iff.1 hp).1
      omega
  refine Ent.rngL0 n0 (fun k => pt b [.slice a1 Z1.length c1, ptr lb, .int .i64 bytes, .int .i64 most] :: Lr.RRep lb s.tr s.kp (most * 2 / 3) :: Sl.ro M2 :: pt eb (ec x) :: rest) rfl (Imp.refl _) ?_
  intro k hk2 K' hK
  refine Ent.wnR ?_
  refine Ent.wlen ?_
  by_cases hkn : k < n0
  · obtain ⟨p, hp, hp1⟩ := hat k hkn
    refine Ent.wT ?_
    refine Ent.wnR ?_
    refine Ent.wix hk1.rd hp fun b1 o1 hpp => ?_
    refine Ent.wfIp (l := itC p) ?_
    refine Ent.wT ?_ (by rw [hp1]; exact beq_self_eq_true _)
    refine Ent.war ?_
    exact hK hkn
  obtain rfl : k = n0 := by omega
  clear hK
  have c1' : RdM M2 (Sl.cut a1 0 c1 10) (itcs (Z1.take k)) := by
    have h1 := RdM.cut (n := 0) (c := c1) (sz := 10) (h := (show RdM M2 a1 (itcs Z1) from hk1.rd)) (by rw [itcs_len]; omega)
    rw [Nat.zero_mul, List.drop_zero] at h1
    have h2 := h1.sub (k * 10)
    rwa [(itcs_take Z1 k hnz).1] at h2
  have c2' : RdM M2 (Sl.cut a1 k c1 10) (itcs (Z1.drop k)) := by
    have h1 := RdM.cut (n := k) (c := c1) (sz := 10) (h := (show RdM M2 a1 (itcs Z1) from hk1.rd)) (by rw [itcs_len]; omega)
    rwa [(itcs_take Z1 k hnz).2] at h1
  have hkZ : ∀ p, Z1[k]? = some p → p.1 ≠ k := fun p hp => by
    obtain ⟨z, g1, _⟩ := hk1.at hp
    have := its_free (j := 0) p2 p3 64 (by omega) g1
    dsimp only at this
    omega
  have htl : (Z1.take k).length = k := by rw [List.length_take, Nat.min_eq_left hnz]
  have hdl : (Z1.drop k).length = Z1.length - k := List.length_drop
  rcases Nat.lt_or_ge k Z1.length with hlt | hlt
  case' inl =>
    obtain ⟨p, hp⟩ : ∃ p, Z1[k]? = some p := ⟨_, List.getElem?_eq_getElem hlt⟩
    have hp1 := hkZ p hp
    refine Ent.wT ?_
    refine Ent.wnR ?_
    refine Ent.wix hk1.rd hp fun b1 o1 hpp => ?_
    refine Ent.wfIp (l := itC p) ?_
    refine Ent.wF ?_ (beq_eq_false_iff_ne.2 (by omega))
  case' inr =>
    refine Ent.wF ?_
  all_goals
    refine Ent.wnR ?_
    refine Ent.opR (st_slH rfl rfl (by omega) (by omega)).still ?_
    rw [Int.toNat_natCast]
    refine Ent.slN (sz := 10) ?_
    refine Ent.appN (m := k) (news := itcs (Z1.take k)) (sz := 10) (c1'.rd (by (repeat (first | exact Has.hd | apply Has.tl)))) (fun a3 c3 => ?_) (hl := by rw [itcs_len, htl]) (h1 := itcs_one) (hb := by dsimp only; omega)
    rw [Nat.zero_add, List.nil_append]
    refine Ent.wlA (cs := ec x) ?_
    refine own_spec (hr.mono (by (focus (repeat (first | exact Imp.refl _ | exact Imp.nil _ | apply Imp.drop))))) hb fun y hy => ?_
    refine Ent.woR ?_
    refine Ent.app1 (sz := 10) (cs := itC (k, y)) (fun a4 c4 => ?_)
    refine Ent.wnR ?_
    refine Ent.opR (st_slL rfl rfl (by omega) (by omega)).still ?_
    rw [Int.toNat_natCast]
    refine Ent.appN (m := Z1.length - k) (news := itcs (Z1.drop k)) (sz := 10) (c2'.rd (by (repeat (first | exact Has.hd | apply Has.tl)))) (fun a5 c5 => ?_) (hl := by rw [itcs_len, hdl]) (h1 := itcs_one) (hb := by dsimp only; omega)
    (refine Ent.go ?_)
    have hz2 : k + 1 + (Z1.length - k) = (Z1.take k ++ [(k, y)] ++ Z1.drop k).length := by simp only [List.length_append, htl, hdl, List.length_cons, List.length_nil]
    have hz3 : itcs (Z1.take k) ++ itC (k, y) ++ itcs (Z1.drop k) = itcs (Z1.take k ++ [(k, y)] ++ Z1.drop k) := by rw [itcs_app, itcs_app]; simp [itcs]
    rw [hz2, hz3]
    have hno : (k : Int) ∉ s.tr ++ s.kp := fun h => by
      obtain ⟨z, hz⟩ := (hk1.ok.mem k).2 h
      rw [p2] at hz; cases hz
    obtain ⟨Z2, hZ2⟩ : ∃ Z2, Z2 = Z1.take k ++ [(k, y)] ++ Z1.drop k := ⟨_, rfl⟩
    rw [← hZ2]
    refine Ent.imp (ctx' := Lr.RRep lb s.tr s.kp (most * 2 / 3) :: OwnE y (Sl.ro M2 :: SlO a5 Z2.length c5 10 (itcs Z2) :: pt b [.slice a5 Z2.length c5, ptr lb, .int .i64 bytes, .int .i64 most] :: rest)) (by (focus ((repeat ((with_reducible apply Imp.pick); (repeat (first | exact Pick.hd | apply Pick.tl)))); (repeat (first | exact Imp.refl _ | exact Imp.nil _ | apply Imp.drop)); done))) ?_
    refine Lr.radd_spec hk1.lens.1 hk1.lens.2 (fun hh => absurd (by unfold Lr.addC; rw [if_neg (by omega), if_neg hno]) hh) fun _ _ _ => ?_
    refine Ent.imp (ctx' := OwnE y (Sl.ro M2 :: Lr.RRep lb ((k : Int) :: s.tr) s.kp (most * 2 / 3) :: SlO a5 Z2.length c5 10 (itcs Z2) :: pt b [.slice a5 Z2.length c5, ptr lb, .int .i64 bytes, .int .i64 most] :: rest)) (by (focus ((repeat ((with_reducible apply Imp.pick); (repeat (first | exact Pick.hd | apply Pick.tl)))); (repeat (first | exact Imp.refl _ | exact Imp.nil _ | apply Imp.drop)); done))) ?_
    refine keepE fun M3 hM3 hry => ?_
    refine Ent.imp (ctx' := SlO a5 Z2.length c5 10 (itcs Z2) :: Sl.ro M3 :: Lr.RRep lb ((k : Int) :: s.tr) s.kp (most * 2 / 3) :: pt b [.slice a5 Z2.length c5, ptr lb, .int .i64 bytes, .int .i64 most] :: rest) (by (focus ((repeat ((with_reducible apply Imp.pick); (repeat (first | exact Pick.hd | apply Pick.tl)))); (repeat (first | exact Imp.refl _ | exact Imp.nil _ | apply Imp.drop)); done))) ?_
    refine Ent.keepS fun M4 hM4 hrz _ hc5 _ => ?_
    have hM04 : Hp.le M M4 := Hp.le_trans (Hp.le_trans hM f3) (Hp.le_trans hM3 hM4)
    refine Ent.imp ?_ (h0' M4 hM04)
    refine Imp.trans (b := pt b [.slice a5 Z2.length c5, ptr lb, .int .i64 bytes, .int .i64 most] :: Lr.RRep lb ((k : Int) :: s.tr) s.kp (most * 2 / 3) :: Sl.ro M4 :: rest) (by (focus ((repeat ((with_reducible apply Imp.pick); (repeat (first | exact Pick.hd | apply Pick.tl)))); (repeat (first | exact Imp.refl _ | exact Imp.nil _ | apply Imp.drop)); done))) ?_
    subst hZ2
    have hsz0 : size y0 = size x := size_of d0
    exact RS.shut (hk1.put (Hp.le_trans hM3 hM4) p2 p1 p3 (hy.trans d0.symm) (hry.mono hM4) (m0.mono hM04) (EB.of hy hb) (EB.of d0 hb) (by omega) hrz hc5)
end
end Go.Proofs.YtfofnagocedlgaaGreatDoor.Tx
end
section
/-
  THE STORE (layer 21): Copy; both have the same.
-/
set_option maxRecDepth 100000
set_option linter.unusedVariables false
set_option linter.unusedSectionVars false
set_option linter.unusedSimpArgs false
set_option maxHeartbeats 0
namespace Go.Proofs.YtfofnagocedlgaaGreatDoor.Tx
open Go Sh Sl
open Go.RowKit
attribute [local irreducible] condK ArK NilK OpK FnK StK joinK loopK DrawK andK PuK NxK EnK vS uS bS callS invokeS
section
variable {e : Env} {ctx ctx' rest R : List HProp} {M : Hp} {b : Nat} {X : List (Option Et)} {tr kp : List Int} {bytes most n : Nat} {Z : List It} {a : Option Addr} {c lb : Nat}
theorem SC_setList {lb lb' : Nat} {bytes most used : Int} (hX : X.length = 64) : (SC X lb bytes most used).set (0 + 640) (ptr lb') = SC X lb' bytes most used := by
  unfold SC
  rw [List.set_append_right _ _ (by rw [flat10, hX]; omega), flat10, hX]
  rfl
theorem copy_s_spec {K : Value → WP} (h : ∀ b', Ent e (SRep M b' X tr kp bytes most n :: SRep M b X tr kp bytes most n :: rest) (K (ptr b'))) : Ent e (SRep M b X tr kp bytes most n :: rest) (store_Store_Copy (ptr b) K) := by
  (refine Ent.fn store_Store_Copy_ok ?_; unfold store_Store_Copy_sh)
  refine SRep.open fun lb hk => ?_
  have hX := hk.len
  have hlen := SC_len (lb := lb) (bytes := bytes) (most := most) (used := used X) hX
  refine Ent.opB (by apply Pu.still; exact st_nilP rfl (.inr rfl)) ?_
  refine Ent.wF ?_
  refine Ent.nil ?_
  refine Ent.wlA (cs := SC X lb bytes most (used X)) ?_ (hv := by rw [List.drop_zero, List.take_of_length_le (Nat.le_of_eq hlen)]) (hn := hlen)
  refine Ent.alloc' (fun xb => ?_)
  refine Ent.wstoA (l' := SC X lb bytes most (used X)) ?_ (vs := SC X lb bytes most (used X)) (hl := ?_) (hu := by (repeat (first | exact Upd.hd | apply Upd.tl))) (hv := ?_) (hn := hlen) (ho := ?_)
  · refine Ent.nil ?_
    refine Ent.opR (st_field (off := 640) rfl).still ?_
    refine Ent.opR (st_load (.tl .hd) rfl (SC_list hX)) ?_
    refine Ent.imp (ctx' := Lr.LRep lb tr kp (most * 2 / 3) n :: pt xb (SC X lb bytes most (used X)) :: pt b (SC X lb bytes most (used X)) :: rest) (by (focus ((repeat ((with_reducible apply Imp.pick); (repeat (first | exact Pick.hd | apply Pick.tl)))); (repeat (first | exact Imp.refl _ | exact Imp.nil _ | apply Imp.drop)); done))) ?_
    refine Lr.copy_spec fun lb' => ?_
    refine Ent.opR (st_field (off := 640) rfl).still ?_
    have hset := SC_setList (lb := lb) (lb' := lb') (bytes := bytes) (most := most) (used := used X) hX
    refine Ent.store (b := xb) (off := 0 + 640) (l := SC X lb bytes most (used X)) (ctx' := Lr.LRep lb' tr kp (most * 2 / 3) n :: Lr.LRep lb tr kp (most * 2 / 3) n :: pt xb (SC X lb' bytes most (used X)) :: pt b (SC X lb bytes most (used X)) :: rest) (by rw [hset]; (repeat (first | exact Upd.hd | apply Upd.tl))) rfl rfl (by rw [hlen]; decide) ?_
    refine Ent.imp ?_ (h xb)
    refine Imp.trans (b := pt xb (SC X lb' bytes most (used X)) :: Lr.LRep lb' tr kp (most * 2 / 3) n :: pt b (SC X lb bytes most (used X)) :: Lr.LRep lb tr kp (most * 2 / 3) n :: rest) (by (focus ((repeat ((with_reducible apply Imp.pick); (repeat (first | exact Pick.hd | apply Pick.tl)))); (repeat (first | exact Imp.refl _ | exact Imp.nil _ | apply Imp.drop)); done))) ?_
    exact (SRep.shut hk).trans (Imp.cons (SRep.shut hk))
  · rw [List.take_zero, List.nil_append, List.drop_eq_nil_of_le (by rw [hlen]; exact Nat.le_of_eq rfl), List.append_nil]
  · refine List.all_eq_true.2 fun v hv => ?_
    rcases List.mem_append.1 hv with hv | hv
    · obtain ⟨l, hl, hvl⟩ := List.mem_flatten.1 hv
      obtain ⟨o, _, rfl⟩ := List.mem_map.1 hl
      simp only [slC, ec, List.cons_append, List.nil_append, List.mem_cons, List.not_mem_nil, or_false] at hvl
      rcases hvl with rfl | rfl | rfl | rfl | rfl | rfl | rfl | rfl | rfl | rfl <;> rfl
    · simp only [List.mem_cons, List.not_mem_nil, or_false] at hv
      rcases hv with rfl | rfl | rfl | rfl <;> rfl
  · exact Nat.le_of_eq rfl
theorem same_law_spec {K : Bool → WP} {rb : Nat} (h : ∀ M', Hp.le M M' → Ent e (SRep M' b X tr kp bytes most n :: RS M' rb X tr kp bytes most :: Sl.ro M' :: rest) (K true)) :
    Ent e (SRep M b X tr kp bytes most n :: RS M rb X tr kp bytes most :: Sl.ro M :: rest) (law21_same (ptr b) (ptr rb) K) := by
  (refine Ent.fn law21_same_ok ?_; unfold law21_same_sh)
  refine Ent.imp (ctx' := SRep M b X tr kp bytes most n :: Sl.ro M :: RS M rb X tr kp bytes most :: rest) (by (focus ((repeat ((with_reducible apply Imp.pick); (repeat (first | exact Pick.hd | apply Pick.tl)))); (repeat (first | exact Imp.refl _ | exact Imp.nil _ | apply Imp.drop)); done))) ?_
  refine entries_spec fun M' ys a c hM hys hrd => ?_
  refine Ent.imp (ctx' := RS M' rb X tr kp bytes most :: SRep M' b X tr kp bytes most n :: SlO a ys.length c 9 (ecs ys) :: Sl.ro M' :: rest) (Imp.trans (b := RS M rb X tr kp bytes most :: SRep M' b X tr kp bytes most n :: SlO a ys.length c 9 (ecs ys) :: Sl.ro M' :: rest) (by (focus ((repeat ((with_reducible apply Imp.pick); (repeat (first | exact Pick.hd | apply Pick.tl)))); (repeat (first | exact Imp.refl _ | exact Imp.nil _ | apply Imp.drop)); done))) (RS.mono hM)) ?_
  refine RS.open fun lb Z a1 c1 hk => ?_
  have hX := hk.ok.len
  have hz := hk.z64
  have hsn : (its X 64).map (·.2) = ents X := by rw [its_snd 64 (Nat.le_of_eq hX.symm), List.take_of_length_le (Nat.le_of_eq hX)]
  have hlen : ys.length = Z.length := by
    have h1 := congrArg List.length hys
    have h2 := congrArg List.length hsn
    simp only [List.length_map] at h1 h2
    rw [hk.zl]; omega
  have hus := hk.ok.us
  refine Ent.join ?_
  refine Ent.wlen ?_
  refine Ent.wnR ?_
  refine Ent.wlen ?_
  refine Ent.wF ?_ (bne_eq_false_iff_eq.2 (by omega))
  refine Ent.bring (A := SRep M' b X tr kp bytes most n) ?_
  refine used_spec ?_
  refine rused_spec (Z := Z) (a := a1) (c := c1) (v1 := ptr lb) (by_ := bytes) (ms := most) hk (by (repeat (first | exact Has.hd | apply Has.tl))) (by (repeat (first | exact Has.hd | apply Has.tl))) ?_
  refine Ent.wF ?_
  refine Ent.wlen ?_
  refine Ent.imp (ctx' := SlO a ys.length c 9 (ecs ys) :: Sl.ro M' :: pt rb [.slice a1 Z.length c1, ptr lb, .int .i64 bytes, .int .i64 most] :: SRep M' b X tr kp bytes most n :: Lr.RRep lb tr kp (most * 2 / 3) :: rest) (by (focus ((repeat ((with_reducible apply Imp.pick); (repeat (first | exact Pick.hd | apply Pick.tl)))); (repeat (first | exact Imp.refl _ | exact Imp.nil _ | apply Imp.drop)); done))) ?_
  refine Ent.keepS fun M2 hM2 hry _ _ _ => ?_
  have hry' : RdM M2 a ((ys.map ec).flatten) := hry
  refine Ent.rngL0 ys.length (fun k => Sl.ro M2 :: pt rb [.slice a1 Z.length c1, ptr lb, .int .i64 bytes, .int .i64 most] :: SRep M' b X tr kp bytes most n :: Lr.RRep lb tr kp (most * 2 / 3) :: rest) rfl (Imp.refl _) ?_
  intro k hk2 K' hK
  by_cases hl : k < ys.length
  · obtain ⟨y, hy⟩ : ∃ y, ys[k]? = some y := ⟨_, List.getElem?_eq_getElem hl⟩
    obtain ⟨p, hp⟩ : ∃ p, Z[k]? = some p := ⟨_, List.getElem?_eq_getElem (by omega)⟩
    obtain ⟨x, g1, g2, g3, g4⟩ := hk.at hp
    have hd : dE y = dE x := by
      have h1 := congrArg (fun l => l[k]?) hys
      have h2 := congrArg (fun l => l[k]?) hsn
      simp only [List.getElem?_map, hy, g1, Option.map_some] at h1 h2
      rw [← h2] at h1
      simpa using h1
    obtain ⟨r1, r2⟩ := hrd y (List.mem_of_getElem? hy)
    obtain ⟨r3, r4⟩ := hk.en p (List.mem_of_getElem? hp)
    refine Ent.wT ?_
    refine Ent.draw [Sl.ro M2, pt rb [.slice a1 Z.length c1, ptr lb, .int .i64 bytes, .int .i64 most]] (by (focus ((repeat ((with_reducible apply Imp.pick); (repeat (first | exact Pick.hd | apply Pick.tl)))); (repeat (first | exact Imp.refl _ | exact Imp.nil _ | apply Imp.drop)); done))) ?_
    refine Ent.wjAm hry' hy ?_
    refine Ent.whR ?_
    refine Ent.wixQ (hk.rd.mono hM2) hp fun b1 o1 hp1 => ?_
    refine Ent.wgAp (l := itC p) (cs := ec p.2) ?_
    refine same_e_spec ((r1.mono hM2).rd (by (repeat (first | exact Has.hd | apply Has.tl)))) ((r3.mono hM2).rd (by (repeat (first | exact Has.hd | apply Has.tl)))) r2 r4 ?_
    refine Ent.wand ?_
    refine Ent.wF ?_ (by rw [decide_eq_true (hd.trans g2.symm)]; rfl)
    refine Ent.war ?_
    exact hK hl
  · refine Ent.wF ?_
    refine Ent.imp ?_ (h M2 (Hp.le_trans hM hM2))
    refine Imp.trans (b := SRep M' b X tr kp bytes most n :: pt rb [.slice a1 Z.length c1, ptr lb, .int .i64 bytes, .int .i64 most] :: Lr.RRep lb tr kp (most * 2 / 3) :: Sl.ro M2 :: rest) (by (focus ((repeat ((with_reducible apply Imp.pick); (repeat (first | exact Pick.hd | apply Pick.tl)))); (repeat (first | exact Imp.refl _ | exact Imp.nil _ | apply Imp.drop)); done))) ?_
    exact (SRep.mono hM2).trans (Imp.cons (RS.shut (hk.mono hM2)))
end
end Go.Proofs.YtfofnagocedlgaaGreatDoor.Tx
end
