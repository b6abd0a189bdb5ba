/- CollapseOnce: A SLOT IS OF ONE JOB; NEVER MORE WAITERS THAN MAY BE; WHO JOINED IS TOLD IN ORDER; NOBODY JOINS WHAT IS SPOILT (any number of waiters, any calls, the first 200): the whole statement. -/
import Derived.Test.YtgbihlbgkkpciaaCc
import Derived.Test.YtgbihlbgkkpciaaLift
set_option linter.unusedVariables false
set_option linter.unusedSimpArgs false
set_option maxRecDepth 100000
set_option maxHeartbeats 0
namespace Go.Proofs.Ytgbihlbgkkpciaa.collapseOnce
open Go Sh Sl Co
open Go.ChangeShapes Go.WideShapes Go.ChangeAt Go.RowKit
section
attribute [local irreducible] condK ArK NilK OpK FnK StK joinK loopK DrawK andK PuK NxK EnK vS uS bS callS invokeS
variable {e : Env} {ctx rest : List HProp}
abbrev Ac := Int × Int × Int × ByteArray × Bool
abbrev actC (x : Ac) : List Value := [.int .i64 x.1, .int .i64 x.2.1, .int .i64 x.2.2.1, .string x.2.2.2.1, .bool x.2.2.2.2]
abbrev Gh := List Ent1 × List JE × List (Int × Int) × List (Int × ByteArray)
def LR (b jb rj rs ru most : Nat) : HProp := exs fun (x : Gh) => sepL [pur (LI x.1 x.2.1 x.2.2.1 x.2.2.2), TR b x.1 most, pt jb [.map (some rj)], Mp (intK .i64) jsv rj x.2.1, Own JO x.2.1, Mp (intK .i64) iv rs x.2.2.1, Mp (intK .i64) sv ru x.2.2.2]
variable {b jb rj rs ru most : Nat} {X : List Ent1} {J : List JE} {S : List (Int × Int)} {U : List (Int × ByteArray)}
theorem LR.open {p : WP} (h : ∀ X J S U, LI X J S U → Ent e (TR b X most :: pt jb [.map (some rj)] :: Mp (intK .i64) jsv rj J :: Own JO J :: Mp (intK .i64) iv rs S :: Mp (intK .i64) sv ru U :: rest) p) : Ent e (LR b jb rj rs ru most :: rest) p :=
  Ent.exs fun x => Ent.g7 (Ent.pur fun hk => h x.1 x.2.1 x.2.2.1 x.2.2.2 hk)
theorem LR.shut (hk : LI X J S U) : Imp (TR b X most :: pt jb [.map (some rj)] :: Mp (intK .i64) jsv rj J :: Own JO J :: Mp (intK .i64) iv rs S :: Mp (intK .i64) sv ru U :: rest) (LR b jb rj rs ru most :: rest) :=
  Imp.exs (X, J, S, U) (Imp.g7 (Imp.pur hk (Imp.refl _)))
theorem ctl {ctx : List HProp} {k : WP} (h : Ent e ctx k) : Ent e ctx k := h
theorem spec {K : Bool → WP} {wt : Int} {a : Option Addr} {c : Nat} {xs : List Ac} (k0 : 0 ≤ wt) (k1 : wt ≤ 255) (hx : Rd ctx a ((xs.map actC).flatten)) (h : Ent e ctx (K true)) :
    Ent e ctx (law24_CollapseOnce wt (.slice a xs.length c) K) := by
  (refine Ent.fn law24_CollapseOnce_ok ?_; unfold law24_CollapseOnce_sh)
  (refine Ent.go ?_)
  have e1 : wt.tmod 17 = wt % 17 := Int.tmod_eq_emod_of_nonneg k0
  rw [e1]
  have q0 : 0 ≤ wt % 17 := Int.emod_nonneg _ (by omega)
  have q1 : wt % 17 < 17 := Int.emod_lt_of_pos _ (by omega)
  refine new_spec (fun hb => by omega) fun b most hm _ => ?_
  rw [hm]
  refine Ent.join ?_
  refine awake_spec ?_
  (refine Ent.go ?_)
  refine Ent.mmake (intK .i64) iv fun rs => ?_
  refine Ent.mmake (intK .i64) jsv fun rj => ?_
  refine Ent.alloc' fun jb => ?_
  (refine Ent.go ?_)
  refine Ent.mmake (intK .i64) sv fun ru => ?_
  (refine Ent.go ?_)
  refine Ent.rngL0 xs.length (fun k => pur (k ≤ 200) :: LR b jb rj rs ru most :: ctx) rfl ?_ ?_
  · refine Imp.pur (by omega) ?_
    refine Imp.trans ?_ (LR.shut LI.nil)
    refine Imp.trans (b := TR b [] most :: pt jb [.map (some rj)] :: Mp (intK .i64) jsv rj [] :: Mp (intK .i64) iv rs [] :: Mp (intK .i64) sv ru [] :: ctx) (by (focus ((repeat ((with_reducible apply Imp.pick); (repeat (first | exact Pick.hd | apply Pick.tl)))); (repeat (first | exact Imp.refl _ | exact Imp.nil _ | apply Imp.drop)); done))) ?_
    exact Imp.cons (Imp.cons (Imp.cons (Own.nil (Imp.refl _))))
  intro k hk K' hK
  refine Ent.pur fun hk2 => ?_
  by_cases hl : k < xs.length
  rotate_left
  · (refine Ent.go ?_)
    refine Ent.imp ?_ h
    (focus (repeat (first | exact Imp.refl _ | exact Imp.nil _ | apply Imp.drop)))
  obtain ⟨x, hxk⟩ : ∃ x, xs[(k : Int).toNat]? = some x := ⟨_, List.getElem?_eq_getElem hl⟩
  (refine Ent.go ?_)
  refine Ent.wiAh ?_
  refine Ent.alloc' fun ab => ?_
  (refine Ent.go ?_)
  by_cases hk4 : k = 200
  · (refine Ent.go ?_)
    refine Ent.imp ?_ h
    (focus (repeat (first | exact Imp.refl _ | exact Imp.nil _ | apply Imp.drop)))
  refine Ent.wF ?_ (by simp; omega)
  obtain ⟨wh, cn, sl, url, sh⟩ := x
  refine Ent.imp (ctx' := pt ab (actC (wh, cn, sl, url, sh)) :: LR b jb rj rs ru most :: ctx) (by (focus ((repeat ((with_reducible apply Imp.pick); (repeat (first | exact Pick.hd | apply Pick.tl)))); (repeat (first | exact Imp.refl _ | exact Imp.nil _ | apply Imp.drop)); done))) ?_
  refine Ent.join0 (LR b jb rj rs ru most :: ctx) ?_ ?_
  rotate_left
  · intro j4 hj4
    have fin : ∀ {X J S U}, LI X J S U → Ent e (TR b X most :: pt jb [.map (some rj)] :: Mp (intK .i64) jsv rj J :: Own JO J :: Mp (intK .i64) iv rs S :: Mp (intK .i64) sv ru U :: pt ab (actC (wh, cn, sl, url, sh)) :: ctx) j4 := fun {X J S U} hi => by
      refine Ent.imp (LR.shut hi) ?_
      refine Ent.imp ?_ hj4
      (focus ((repeat ((with_reducible apply Imp.pick); (repeat (first | exact Pick.hd | apply Pick.tl)))); (repeat (first | exact Imp.refl _ | exact Imp.nil _ | apply Imp.drop)); done))
    clear hj4
    refine Ent.bring (A := LR b jb rj rs ru most) ?_
    refine LR.open fun X J S U hi => ?_
    (refine Ent.go ?_)
    refine Ent.condE (fun hw => ?_) fun hw => ?_
    · -- Begin
      (refine Ent.go ?_)
      refine begin_spec (fun hc => ?_) fun hc g1 g2 g3 g4 p => ?_
      · refine Ent.wF ?_ (beq_eq_false_iff_ne.2 hc)
        exact fin hi
      refine Ent.wT ?_
      refine Ent.draw [pt jb [.map (some rj)], pt ab (actC (wh, cn, sl, url, sh))] (by (focus ((repeat ((with_reducible apply Imp.pick); (repeat (first | exact Pick.hd | apply Pick.tl)))); (repeat (first | exact Imp.refl _ | exact Imp.nil _ | apply Imp.drop)); done))) ?_
      (refine Ent.go ?_)
      refine Ent.slice (out := [.int .i64 sl]) (z := [.int .i64 0]) (sz := 1) rfl rfl rfl rfl (by decide) (by decide) (by rfl) fun sb => ?_
      (refine Ent.go ?_)
      refine Ent.mset (K := intK .i64) (vf := jsv) (a := cn) (b := ((some ⟨sb, 0, none⟩, 1, [sl]) : Option Addr × Nat × List Int)) (by (repeat (first | exact Upd.hd | apply Upd.tl))) rfl rfl ?_
      (refine Ent.go ?_)
      refine Ent.mset (K := intK .i64) (vf := iv) (a := cn) (b := 0) (by (repeat (first | exact Upd.hd | apply Upd.tl))) rfl rfl ?_
      (refine Ent.go ?_)
      refine Ent.mset (K := intK .i64) (vf := sv) (a := cn) (b := url) (by (repeat (first | exact Upd.hd | apply Upd.tl))) rfl rfl ?_
      refine Ent.imp ?_ (fin (hi.begin (p := p) (sh := sh) (url := url) (a := some ⟨sb, 0, none⟩) (k := 1) g4 g1 g3))
      refine Imp.trans (SlO.imp (n := 1) rfl) ?_
      refine Imp.trans (b := JO (cn, some ⟨sb, 0, none⟩, 1, [sl]) :: Own JO J :: TR b (mset cn (p, ⟨url, sh, false, sl, []⟩) X) most :: pt jb [.map (some rj)] :: Mp (intK .i64) jsv rj (mset cn (some ⟨sb, 0, none⟩, 1, [sl]) J) :: Mp (intK .i64) iv rs (mset cn 0 S) :: Mp (intK .i64) sv ru (mset cn url U) :: pt ab (actC (wh, cn, sl, url, sh)) :: ctx) ?_ ?_
      · unfold JO
        (focus ((repeat ((with_reducible apply Imp.pick); (repeat (first | exact Pick.hd | apply Pick.tl)))); (repeat (first | exact Imp.refl _ | exact Imp.nil _ | apply Imp.drop)); done))
      · refine (Own.new (hi.j0 g4)).trans ?_
        (focus ((repeat ((with_reducible apply Imp.pick); (repeat (first | exact Pick.hd | apply Pick.tl)))); (repeat (first | exact Imp.refl _ | exact Imp.nil _ | apply Imp.drop)); done))
    refine Ent.condE (fun hw => ?_) fun hw => ?_
    · -- Join
      (refine Ent.go ?_)
      refine join_spec (fun e1 he => ?_) fun c p j hf hp g1 g2 g3 g4 => ?_
      · refine Ent.wF ?_ ?_
        · exact fin hi
        · rcases he with ⟨rfl, _⟩ | ⟨_, _, ⟨rfl, _⟩ | ⟨_, ⟨rfl, _⟩ | ⟨_, rfl, _⟩⟩⟩ <;> rfl
      refine Ent.wT ?_
      have hsp : j.sp = false ∧ j.url = url := by
        unfold wantB at hp
        simp only [Bool.and_eq_true, Bool.not_eq_true', decide_eq_true_eq] at hp
        exact ⟨hp.2, hp.1.1⟩
      have hs := hi.s1 hf
      rw [hsp.1] at hs
      have hu := hi.u1 hf
      rw [hsp.2] at hu
      obtain ⟨a9, c9, hj⟩ := hi.j1 hf
      refine Ent.join ?_
      refine Ent.opI (st_mgetT (K := intK .i64) (vf := iv) (a := c) (b := 0) (by (repeat (first | exact Has.hd | apply Has.tl))) rfl rfl hs) ?_
      (refine Ent.go ?_)
      refine Ent.opR (st_mgetT (K := intK .i64) (vf := sv) (a := c) (b := url) (by (repeat (first | exact Has.hd | apply Has.tl))) rfl rfl hu) ?_
      refine Ent.opS (st_fieldV (l := [.string url]) (off := 0) rfl rfl rfl).still ?_
      (refine Ent.go ?_)
      refine Ent.wF ?_ (by simp)
      have hlw : j.ws.length ≤ 16 := hi.lw _ (mfind_mem hf)
      have hal : (al j).length ≤ 17 := hi.len (mfind_mem hj)
      refine TR.open fun rt hkt => ?_
      have hjw : j.ws.length < 16 := by
        have h1 := hkt.wt
        have h2 := hkt.mx
        have h3 : wsum (mset c (p, { j with ws := j.ws ++ [sl] }) X) + j.ws.length = wsum X + (j.ws ++ [sl]).length := wsum_set hf
        have h4 : j.ws.length ≤ wsum X := len_wsum (mfind_mem hf)
        omega
      refine Ent.imp (TR.shut hkt) ?_
      refine Ent.draw [pt jb [.map (some rj)], pt ab (actC (wh, cn, sl, url, sh)), Mp (intK .i64) jsv rj J] (by (focus ((repeat ((with_reducible apply Imp.pick); (repeat (first | exact Pick.hd | apply Pick.tl)))); (repeat (first | exact Imp.refl _ | exact Imp.nil _ | apply Imp.drop)); done))) ?_
      (refine Ent.go ?_)
      refine Ent.stR (st_mgetV (K := intK .i64) (vf := jsv) (a := c) (b := (a9, c9, al j)) (v := .slice a9 (al j).length c9) (by (repeat (first | exact Has.hd | apply Has.tl))) rfl rfl hj rfl) ?_
      (refine Ent.go ?_)
      refine Ent.bring (A := Own JO J) ?_
      refine Ent.imp (Own.take hj) ?_
      refine Ent.imp (ctx' := SlO a9 (al j).length c9 1 (ii (al j)) :: Own JO (mdel c J) :: TR b (mset c (p, { j with ws := j.ws ++ [sl] }) X) most :: pt jb [.map (some rj)] :: Mp (intK .i64) jsv rj J :: Mp (intK .i64) iv rs S :: Mp (intK .i64) sv ru U :: pt ab (actC (wh, cn, sl, url, sh)) :: ctx) (Imp.refl _) ?_
      refine Ent.app1a (by (focus ((repeat ((with_reducible apply Imp.pick); (repeat (first | exact Pick.hd | apply Pick.tl)))); (repeat (first | exact Imp.refl _ | exact Imp.nil _ | apply Imp.drop)); done))) (fun a2 c2' => ?_)
      (refine Ent.go ?_)
      refine Ent.msetV (K := intK .i64) (vf := jsv) (a := c) (b := ((a2, c2', al j ++ [sl]) : Option Addr × Nat × List Int)) (by (repeat (first | exact Upd.hd | apply Upd.tl))) rfl rfl (by simp) ?_
      refine Ent.imp ?_ (fin (hi.join (a := a2) (k := c2') hf hj hjw g3))
      refine Imp.trans (b := JO (c, a2, c2', al j ++ [sl]) :: Own JO (mdel c J) :: TR b (mset c (p, { j with ws := j.ws ++ [sl] }) X) most :: pt jb [.map (some rj)] :: Mp (intK .i64) jsv rj (mset c (a2, c2', al j ++ [sl]) J) :: Mp (intK .i64) iv rs S :: Mp (intK .i64) sv ru U :: pt ab (actC (wh, cn, sl, url, sh)) :: ctx) ?_ ?_
      · have e3 : ii (al j ++ [sl]) = ii (al j) ++ [.int .i64 sl] := by simp [ii]
        have e4 : (al j ++ [sl]).length = (al j).length + 1 := by simp
        unfold JO
        dsimp only
        rw [e3, e4]
        (focus ((repeat ((with_reducible apply Imp.pick); (repeat (first | exact Pick.hd | apply Pick.tl)))); (repeat (first | exact Imp.refl _ | exact Imp.nil _ | apply Imp.drop)); done))
      · refine Own.put.trans ?_
        (focus ((repeat ((with_reducible apply Imp.pick); (repeat (first | exact Pick.hd | apply Pick.tl)))); (repeat (first | exact Imp.refl _ | exact Imp.nil _ | apply Imp.drop)); done))
    refine Ent.condE (fun hw => ?_) fun hw => ?_
    · -- Leave
      (refine Ent.go ?_)
      refine leave_spec (fun hno => ?_) fun c p j hf hp => ?_
      · (refine Ent.go ?_)
        exact fin hi
      (refine Ent.go ?_)
      refine Ent.callF (by rfl) ?_
      refine Ent.imp (ctx' := pt jb [.map (some rj)] :: Mp (intK .i64) jsv rj J :: Own JO J :: TR b (mset c (p, lv j sl) X) most :: Mp (intK .i64) iv rs S :: Mp (intK .i64) sv ru U :: pt ab (actC (wh, cn, sl, url, sh)) :: ctx) (by (focus ((repeat ((with_reducible apply Imp.pick); (repeat (first | exact Pick.hd | apply Pick.tl)))); (repeat (first | exact Imp.refl _ | exact Imp.nil _ | apply Imp.drop)); done))) ?_
      refine out_spec hi.jn (fun x hx => hi.len hx) fun J' hJ' => ?_
      refine Ent.imp ?_ (fin (hi.leave hf hp hJ'))
      (focus ((repeat ((with_reducible apply Imp.pick); (repeat (first | exact Pick.hd | apply Pick.tl)))); (repeat (first | exact Imp.refl _ | exact Imp.nil _ | apply Imp.drop)); done))
    refine Ent.condE (fun hw => ?_) fun hw => ?_
    · -- Spoil
      (refine Ent.go ?_)
      refine spoil_spec ?_
      refine Ent.mrange (K := intK .i64) (vf := sv) (by (repeat (first | exact Pick.hd | apply Pick.tl))) rfl fun i => ?_
      refine Ent.loop0 (fun N => exs (fun (y : List (Int × ByteArray) × List (Int × ByteArray) × List (Int × Int)) => sepL [pur ((y.1 ++ y.2.1).Perm U ∧ N = y.2.1.length ∧ (∀ c, (c, url) ∈ y.1 → mfind c y.2.2 = some 1) ∧ (∀ c, (c, url) ∉ y.1 → mfind c y.2.2 = mfind c S)), MpI (intK .i64) sv ru i U (y.1.map (·.1)), Mp (intK .i64) iv rs y.2.2]) :: TR b (X.map (spo url)) most :: pt jb [.map (some rj)] :: Mp (intK .i64) jsv rj J :: Own JO J :: pt ab (actC (wh, cn, sl, url, sh)) :: ctx) U.length ?_ ?_
      · refine Imp.exs ([], U, S) (Imp.g3 (Imp.pur ⟨.refl _, rfl, (fun c hc => by cases hc), fun c _ => rfl⟩ ?_))
        (focus ((repeat ((with_reducible apply Imp.pick); (repeat (first | exact Pick.hd | apply Pick.tl)))); (repeat (first | exact Imp.refl _ | exact Imp.nil _ | apply Imp.drop)); done))
      intro N K2 hK2
      refine Ent.exs fun ⟨dn, rm, S2⟩ => Ent.g3 (Ent.pur fun ⟨f1, f2, f3, f4⟩ => ?_)
      dsimp only at f1 f2 f3 f4
      dsimp only
      subst f2
      refine Ent.mnextP (by (repeat (first | exact Pick.hd | apply Pick.tl))) f1 hi.un (fun hrm => ?_) (fun a q rm' hp hm f6 => ?_)
      · subst hrm
        rw [List.append_nil] at f1
        refine Ent.imp ?_ (fin (hi.spoil (url := url) (S' := S2) (fun c hc => f3 c (f1.symm.subset hc)) (fun c hc => f4 c fun hc2 => hc (f1.subset hc2))))
        refine MpI.imp.trans ?_
        (focus ((repeat ((with_reducible apply Imp.pick); (repeat (first | exact Pick.hd | apply Pick.tl)))); (repeat (first | exact Imp.refl _ | exact Imp.nil _ | apply Imp.drop)); done))
      · refine Ent.mentry (K := intK .i64) (k1 := .int .i64) (k2 := .raw) (x := a) (y := sv q) (by (repeat (first | exact Has.hd | apply Has.tl))) hm rfl rfl ?_
        refine Ent.alloc' fun ub => ?_
        (refine Ent.go ?_)
        have hrl : rm'.length < rm.length := by have := hp.length_eq; simp at this; omega
        refine Ent.cond (fun hu => ?_) fun hu => ?_
        · have hu' : q = url := of_decide_eq_true hu
          subst hu'
          refine Ent.mset (K := intK .i64) (vf := iv) (a := a) (b := 1) (by (repeat (first | exact Upd.hd | apply Upd.tl))) rfl rfl ?_
          refine Ent.imp ?_ (hK2 rm'.length hrl)
          refine Imp.exs (dn ++ [(a, q)], rm', mset a 1 S2) (Imp.g3 (Imp.pur ⟨f6, rfl, fun c hc => ?_, fun c hc => ?_⟩ ?_))
          · rw [mfind_set]
            split
            · rfl
            · rename_i hne
              refine f3 c ?_
              rcases List.mem_append.1 hc with hc | hc
              · exact hc
              · simp only [List.mem_singleton, Prod.mk.injEq] at hc; exact absurd hc.1 hne
          · rw [mfind_set]
            have : c ≠ a := fun he => hc (by subst he; simp)
            rw [if_neg this]
            exact f4 c fun hc2 => hc (List.mem_append_left _ hc2)
          · dsimp only
            rw [dn_snoc]
            (focus ((repeat ((with_reducible apply Imp.pick); (repeat (first | exact Pick.hd | apply Pick.tl)))); (repeat (first | exact Imp.refl _ | exact Imp.nil _ | apply Imp.drop)); done))
        · have hu' : q ≠ url := of_decide_eq_false hu
          refine Ent.imp ?_ (hK2 rm'.length hrl)
          refine Imp.exs (dn ++ [(a, q)], rm', S2) (Imp.g3 (Imp.pur ⟨f6, rfl, fun c hc => ?_, fun c hc => ?_⟩ ?_))
          · refine f3 c ?_
            rcases List.mem_append.1 hc with hc | hc
            · exact hc
            · simp only [List.mem_singleton, Prod.mk.injEq] at hc; exact absurd hc.2.symm hu'
          · exact f4 c fun hc2 => hc (List.mem_append_left _ hc2)
          · dsimp only
            rw [dn_snoc]
            (focus ((repeat ((with_reducible apply Imp.pick); (repeat (first | exact Pick.hd | apply Pick.tl)))); (repeat (first | exact Imp.refl _ | exact Imp.nil _ | apply Imp.drop)); done))
    refine Ent.condE (fun hw => ?_) fun hw => ?_
    · -- End
      (refine Ent.go ?_)
      refine end_spec (fun hf => ?_) fun p j a9 c9 hf => ?_
      · refine Ent.alloc' fun eb => ?_
        (refine Ent.go ?_)
        refine Ent.imp ?_ (fin hi)
        (focus ((repeat ((with_reducible apply Imp.pick); (repeat (first | exact Pick.hd | apply Pick.tl)))); (repeat (first | exact Imp.refl _ | exact Imp.nil _ | apply Imp.drop)); done))
      refine Ent.alloc' fun eb => ?_
      unfold jc
      (refine Ent.go ?_)
      obtain ⟨a8, c8, hj⟩ := hi.j1 hf
      have hlw : j.ws.length ≤ 16 := hi.lw _ (mfind_mem hf)
      have hal : (al j).length ≤ 17 := hi.len (mfind_mem hj)
      have hs := hi.s1 hf
      have hu := hi.u1 hf
      refine Ent.join1 (kd := .raw) (fun v => exs (fun (y : Option Addr × Nat) => sepL [pur (v = .slice y.1 (if 0 ≤ j.ld then [j.ld] else []).length y.2), SlO y.1 (if 0 ≤ j.ld then [j.ld] else []).length y.2 1 (ii (if 0 ≤ j.ld then [j.ld] else []))]) :: SlO a9 j.ws.length c9 1 (ii j.ws) :: pt eb [.string j.url, .bool j.sh, .bool j.sp, .int .i64 j.ld, .slice a9 j.ws.length c9] :: TR b (mdel cn X) most :: pt jb [.map (some rj)] :: Mp (intK .i64) jsv rj J :: Own JO J :: Mp (intK .i64) iv rs S :: Mp (intK .i64) sv ru U :: pt ab (actC (wh, cn, sl, url, sh)) :: ctx) ?_ ?_
      rotate_left
      · intro k' hk'
        by_cases h0 : 0 ≤ j.ld
        · rw [if_pos h0] at hk'
          (refine Ent.go ?_)
          refine Ent.slN (sz := 1) ?_
          refine Ent.app1 (fun a2 c2 => ?_)
          refine Ent.imp ?_ (hk' _)
          refine Imp.exs (a2, c2) (Imp.g2 (Imp.pur rfl ?_))
          show Imp _ (SlO a2 1 c2 1 (ii [j.ld]) :: _)
          (focus ((repeat ((with_reducible apply Imp.pick); (repeat (first | exact Pick.hd | apply Pick.tl)))); (repeat (first | exact Imp.refl _ | exact Imp.nil _ | apply Imp.drop)); done))
        · rw [if_neg h0] at hk'
          (refine Ent.go ?_)
          refine Ent.imp ?_ (hk' _)
          refine Imp.exs (none, 0) (Imp.g2 (Imp.pur rfl ?_))
          refine Imp.slN ?_
          (focus ((repeat ((with_reducible apply Imp.pick); (repeat (first | exact Pick.hd | apply Pick.tl)))); (repeat (first | exact Imp.refl _ | exact Imp.nil _ | apply Imp.drop)); done))
      intro all
      refine Ent.exs fun ⟨a7, c7⟩ => Ent.g2 (Ent.pur fun hall => ?_)
      dsimp only at hall
      dsimp only
      subst hall
      refine Ent.bring (A := SlO a9 j.ws.length c9 1 (ii j.ws)) ?_
      refine Ent.rdS fun hrd _ => ?_
      (refine Ent.go ?_)
      have hl1 : (if 0 ≤ j.ld then [j.ld] else []).length ≤ 1 := by split <;> simp
      refine Ent.appN (hrd _ (by (repeat (first | exact Has.hd | apply Has.tl)))) (h1 := by intro v hv; simp only [ii, List.mem_map] at hv; obtain ⟨_, _, rfl⟩ := hv; rfl) (fun a6 c6 => ?_)
      have e5 : (if 0 ≤ j.ld then [j.ld] else []).length + j.ws.length = (al j).length := by unfold al; simp
      have e6 : ii (if 0 ≤ j.ld then [j.ld] else []) ++ ii j.ws = ii (al j) := by unfold al; simp [ii]
      rw [e5, e6]
      refine Ent.join ?_
      (refine Ent.go ?_)
      refine Ent.opR (st_mgetV (K := intK .i64) (vf := jsv) (a := cn) (b := (a8, c8, al j)) (v := .slice a8 (al j).length c8) (by (repeat (first | exact Has.hd | apply Has.tl))) rfl rfl hj rfl) ?_
      (refine Ent.go ?_)
      refine Ent.opI (st_mgetT (K := intK .i64) (vf := iv) (a := cn) (b := (if j.sp then 1 else 0)) (by (repeat (first | exact Has.hd | apply Has.tl))) rfl rfl hs) ?_
      have e7 : decide ((if j.sp then (1 : Int) else 0) > 0) = j.sp := by cases j.sp <;> rfl
      rw [e7]
      (refine Ent.go ?_)
      refine Ent.wF ?_ (by simp)
      (refine Ent.go ?_)
      refine Ent.opR (st_mgetT (K := intK .i64) (vf := sv) (a := cn) (b := j.url) (by (repeat (first | exact Has.hd | apply Has.tl))) rfl rfl hu) ?_
      refine Ent.opS (st_fieldV (l := [.string j.url]) (off := 0) rfl rfl rfl).still ?_
      (refine Ent.go ?_)
      refine Ent.wF ?_ (by simp)
      (refine Ent.go ?_)
      refine Ent.bring (A := SlO a6 _ c6 1 _) ?_
      refine Ent.rdS fun hr6 _ => ?_
      refine Ent.bring (A := Own JO J) ?_
      refine Ent.imp (Own.take hj) ?_
      refine Ent.imp (ctx' := SlO a8 (al j).length c8 1 (ii (al j)) :: SlO a6 (al j).length c6 1 (ii (al j)) :: Own JO (mdel cn J) :: TR b (mdel cn X) most :: pt jb [.map (some rj)] :: Mp (intK .i64) jsv rj J :: Mp (intK .i64) iv rs S :: Mp (intK .i64) sv ru U :: pt ab (actC (wh, cn, sl, url, sh)) :: ctx) (by
        show Imp (SlO a8 (al j).length c8 1 (ii (al j)) :: _) _
        (focus ((repeat ((with_reducible apply Imp.pick); (repeat (first | exact Pick.hd | apply Pick.tl)))); (repeat (first | exact Imp.refl _ | exact Imp.nil _ | apply Imp.drop)); done))) ?_
      refine Ent.rdS fun hr8 _ => ?_
      refine Ent.rngL0 (al j).length (fun k => SlO a8 (al j).length c8 1 (ii (al j)) :: SlO a6 (al j).length c6 1 (ii (al j)) :: Own JO (mdel cn J) :: TR b (mdel cn X) most :: pt jb [.map (some rj)] :: Mp (intK .i64) jsv rj J :: Mp (intK .i64) iv rs S :: Mp (intK .i64) sv ru U :: pt ab (actC (wh, cn, sl, url, sh)) :: ctx) rfl (Imp.refl _) ?_
      intro n hn K3 hK3
      by_cases hnl : n < (al j).length
      · obtain ⟨x, hx⟩ : ∃ x, (al j)[(n : Int).toNat]? = some x := ⟨_, List.getElem?_eq_getElem (by simpa using hnl)⟩
        have hx2 : (ii (al j))[(n : Int).toNat]? = some (.int .i64 x) := by simp only [ii, List.getElem?_map, hx]; rfl
        refine Ent.wT ?_ (by simpa using hnl)
        refine Ent.draw _ (Imp.refl _) ?_
        refine Ent.wjIr (n := (al j).length) (hr6 _ (by (repeat (first | exact Has.hd | apply Has.tl)))) ?_ rfl rfl rfl (by omega) (by omega) hx2
        (refine Ent.go ?_)
        refine Ent.stR (st_mgetV (K := intK .i64) (vf := jsv) (a := cn) (b := (a8, c8, al j)) (v := .slice a8 (al j).length c8) (by (repeat (first | exact Has.hd | apply Has.tl))) rfl rfl hj rfl) ?_
        refine Ent.wjIr (n := (al j).length) (hr8 _ (by (repeat (first | exact Has.hd | apply Has.tl)))) ?_ rfl rfl rfl (by omega) (by omega) hx2
        refine Ent.wF ?_ (by simp)
        (refine Ent.go ?_)
        exact hK3 hnl
      · refine Ent.wF ?_ (by simpa using hnl)
        (refine Ent.go ?_)
        refine Ent.mdel (K := intK .i64) (vf := jsv) (a := cn) (by (repeat (first | exact Upd.hd | apply Upd.tl))) rfl rfl ?_
        (refine Ent.go ?_)
        refine Ent.mdel (K := intK .i64) (vf := sv) (a := cn) (by (repeat (first | exact Upd.hd | apply Upd.tl))) rfl rfl ?_
        refine Ent.imp ?_ (fin (hi.fin hf hj))
        (focus ((repeat ((with_reducible apply Imp.pick); (repeat (first | exact Pick.hd | apply Pick.tl)))); (repeat (first | exact Imp.refl _ | exact Imp.nil _ | apply Imp.drop)); done))
    · exact fin hi
  -- the look at all
  clear hxk
  refine LR.open fun X J S U hi => ?_
  refine Ent.mmake (intK .i64) iv fun re => ?_
  (refine Ent.go ?_)
  refine Ent.mrange (K := intK .i64) (vf := jsv) (by (repeat (first | exact Pick.hd | apply Pick.tl))) rfl fun i => ?_
  refine Ent.loop0 (fun N => exs (fun (y : List JE × List JE × List (Int × Int)) => sepL [pur ((y.1 ++ y.2.1).Perm J ∧ N = y.2.1.length ∧ (∀ s, s ∉ y.1.flatMap (fun x => x.2.2.2) → mfind s y.2.2 = none)), MpI (intK .i64) jsv rj i J (y.1.map (·.1)), Mp (intK .i64) iv re y.2.2]) :: TR b X most :: pt jb [.map (some rj)] :: Own JO J :: Mp (intK .i64) iv rs S :: Mp (intK .i64) sv ru U :: ctx) J.length ?_ ?_
  · refine Imp.exs ([], J, []) (Imp.g3 (Imp.pur ⟨.refl _, rfl, fun c _ => rfl⟩ ?_))
    (focus ((repeat ((with_reducible apply Imp.pick); (repeat (first | exact Pick.hd | apply Pick.tl)))); (repeat (first | exact Imp.refl _ | exact Imp.nil _ | apply Imp.drop)); done))
  intro N K2 hK2
  refine Ent.exs fun ⟨dn, rm, E⟩ => Ent.g3 (Ent.pur fun ⟨f1, f2, f3⟩ => ?_)
  dsimp only at f1 f2 f3
  dsimp only
  subst f2
  refine Ent.mnextP (by (repeat (first | exact Pick.hd | apply Pick.tl))) f1 hi.jn (fun hrm => ?_) (fun a q rm' hp hm f6 => ?_)
  · refine Ent.bring (A := TR b X most) ?_
    refine TR.open fun rt hkt => ?_
    refine Ent.imp (TR.shut hkt) ?_
    refine waiting_spec ?_
    have hwt := hkt.wt
    refine Ent.wF ?_ (decide_eq_false (by omega))
    (refine Ent.go ?_)
    refine Ent.imp ?_ (hK hl)
    refine Imp.pur (by omega) ?_
    refine Imp.trans ?_ (LR.shut hi)
    refine Imp.trans (b := MpI (intK .i64) jsv rj i J (dn.map (·.1)) :: TR b X most :: pt jb [.map (some rj)] :: Own JO J :: Mp (intK .i64) iv rs S :: Mp (intK .i64) sv ru U :: ctx) (by (focus ((repeat ((with_reducible apply Imp.pick); (repeat (first | exact Pick.hd | apply Pick.tl)))); (repeat (first | exact Imp.refl _ | exact Imp.nil _ | apply Imp.drop)); done))) ?_
    refine MpI.imp.trans ?_
    (focus ((repeat ((with_reducible apply Imp.pick); (repeat (first | exact Pick.hd | apply Pick.tl)))); (repeat (first | exact Imp.refl _ | exact Imp.nil _ | apply Imp.drop)); done))
  · obtain ⟨a0, k0', l⟩ := q
    refine Ent.mentry (K := intK .i64) (k1 := .raw) (k2 := .raw) (x := (.int .i64 a : Value)) (y := jsv (a0, k0', l)) (by (repeat (first | exact Has.hd | apply Has.tl))) hm rfl rfl ?_
    have hll : l.length ≤ 17 := hi.len hm
    have hnd : ((dn ++ [(a, a0, k0', l)] ++ rm').flatMap fun x => x.2.2.2).Nodup := (f6.flatMap_right _).symm.nodup hi.slots
    have hnd2 : ((dn.flatMap fun x => x.2.2.2) ++ l).Nodup := by
      simp only [List.flatMap_append, List.flatMap_cons, List.flatMap_nil, List.append_nil] at hnd
      exact (List.nodup_append.1 hnd).1
    have hjs := mfind_of_mem hi.jn hm
    refine Ent.bring (A := Own JO J) ?_
    refine Ent.imp (Own.take hjs) ?_
    refine Ent.imp (ctx' := SlO a0 l.length k0' 1 (ii l) :: Mp (intK .i64) iv re E :: Own JO (mdel a J) :: MpI (intK .i64) jsv rj i J (dn.map (·.1) ++ [a]) :: TR b X most :: pt jb [.map (some rj)] :: Mp (intK .i64) iv rs S :: Mp (intK .i64) sv ru U :: ctx) (by
      show Imp (SlO a0 l.length k0' 1 (ii l) :: _) _
      (focus ((repeat ((with_reducible apply Imp.pick); (repeat (first | exact Pick.hd | apply Pick.tl)))); (repeat (first | exact Imp.refl _ | exact Imp.nil _ | apply Imp.drop)); done))) ?_
    refine Ent.rdS fun hr8 _ => ?_
    (refine Ent.go ?_)
    refine Ent.rngL0 l.length (fun k => exs (fun (E : List (Int × Int)) => sepL [pur (∀ s, s ∉ dn.flatMap (fun x => x.2.2.2) → s ∉ l.take k → mfind s E = none), Mp (intK .i64) iv re E]) :: SlO a0 l.length k0' 1 (ii l) :: Own JO (mdel a J) :: MpI (intK .i64) jsv rj i J (dn.map (·.1) ++ [a]) :: TR b X most :: pt jb [.map (some rj)] :: Mp (intK .i64) iv rs S :: Mp (intK .i64) sv ru U :: ctx) rfl ?_ ?_
    · refine Imp.exs E (Imp.g2 (Imp.pur (fun s hs _ => f3 s hs) ?_))
      (focus ((repeat ((with_reducible apply Imp.pick); (repeat (first | exact Pick.hd | apply Pick.tl)))); (repeat (first | exact Imp.refl _ | exact Imp.nil _ | apply Imp.drop)); done))
    intro n hn K3 hK3
    refine Ent.exs fun E2 => Ent.g2 (Ent.pur fun f7 => ?_)
    by_cases hnl : n < l.length
    · obtain ⟨x, hx⟩ : ∃ x, l[(n : Int).toNat]? = some x := ⟨_, List.getElem?_eq_getElem (by simpa using hnl)⟩
      have hx2 : (ii l)[(n : Int).toNat]? = some (.int .i64 x) := by simp only [ii, List.getElem?_map, hx]; rfl
      rw [Int.toNat_natCast] at hx
      have htk : l.take (n + 1) = l.take n ++ [x] := by rw [List.take_add_one, hx]; rfl
      have hnx : x ∉ dn.flatMap (fun x => x.2.2.2) ∧ x ∉ l.take n := by
        have h1 := List.nodup_append.1 hnd2
        refine ⟨fun hm1 => h1.2.2 x hm1 x (List.mem_of_getElem? hx) rfl, fun hm2 => ?_⟩
        have h2 := h1.2.1.sublist (List.take_sublist (n + 1) l)
        rw [htk] at h2
        exact (List.nodup_append.1 h2).2.2 x hm2 x (by simp) rfl
      refine Ent.wT ?_ (by simpa using hnl)
      refine Ent.wiIr (n := l.length) (hr8 _ (by (repeat (first | exact Has.hd | apply Has.tl)))) ?_ rfl rfl rfl (by omega) (by omega) hx2
      refine Ent.opI (st_mgetF (K := intK .i64) (vf := iv) (a := x) (z := .int .i64 0) (by (repeat (first | exact Has.hd | apply Has.tl))) rfl rfl (f7 x hnx.1 hnx.2) (by kernel_rfl)) ?_
      (refine Ent.go ?_)
      refine Ent.mset (K := intK .i64) (vf := iv) (a := x) (b := 1) (by (repeat (first | exact Upd.hd | apply Upd.tl))) rfl rfl ?_
      (refine Ent.go ?_)
      refine Ent.imp ?_ (hK3 hnl)
      refine Imp.exs (mset x 1 E2) (Imp.g2 (Imp.pur (fun s hs hs2 => ?_) ?_))
      · rw [htk] at hs2
        rw [mfind_set, if_neg (fun he => hs2 (by simp [he]))]
        exact f7 s hs fun hs3 => hs2 (List.mem_append_left _ hs3)
      · (focus ((repeat ((with_reducible apply Imp.pick); (repeat (first | exact Pick.hd | apply Pick.tl)))); (repeat (first | exact Imp.refl _ | exact Imp.nil _ | apply Imp.drop)); done))
    · have hnn : n = l.length := by omega
      subst hnn
      rw [List.take_of_length_le (Nat.le_refl _)] at f7
      refine Ent.wF ?_ (by simp)
      have hrl : rm'.length < rm.length := by have := hp.length_eq; simp at this; omega
      refine Ent.imp ?_ (hK2 rm'.length hrl)
      refine Imp.exs (dn ++ [(a, a0, k0', l)], rm', E2) (Imp.g3 (Imp.pur ⟨f6, rfl, fun s hs => ?_⟩ ?_))
      · simp only [List.flatMap_append, List.flatMap_cons, List.flatMap_nil, List.append_nil, List.mem_append, not_or] at hs
        exact f7 s hs.1 hs.2
      · dsimp only
        rw [dn_snoc]
        refine Imp.trans (b := JO (a, a0, k0', l) :: Own JO (mdel a J) :: MpI (intK .i64) jsv rj i J (dn.map (·.1) ++ [a]) :: Mp (intK .i64) iv re E2 :: TR b X most :: pt jb [.map (some rj)] :: Mp (intK .i64) iv rs S :: Mp (intK .i64) sv ru U :: ctx) ?_ ?_
        · unfold JO
          (focus ((repeat ((with_reducible apply Imp.pick); (repeat (first | exact Pick.hd | apply Pick.tl)))); (repeat (first | exact Imp.refl _ | exact Imp.nil _ | apply Imp.drop)); done))
        · refine (Own.uncons.trans (Own.perm (mdel_perm hjs).symm)).trans ?_
          (focus ((repeat ((with_reducible apply Imp.pick); (repeat (first | exact Pick.hd | apply Pick.tl)))); (repeat (first | exact Imp.refl _ | exact Imp.nil _ | apply Imp.drop)); done))
end
theorem walk {H : Type} {enc : TypeId × Value → H} {W : World} (base : Nat) (args : Array Value) (ds : List (DataW H)) (hval : ∀ (j : Nat) t v, Try.f7.params[j]? = some t → args[j]? = some v → Value.okWide Try.prog W .any base t v)
    (hA : ∃ p, DataW.TrodAll enc P W 0 (fun _ => true) true Try.f7.params.toList args.toList ds p) :
    Calls P 7 args W fun e W' => e = .returned (.bool true) ∧ Below W.heap.size W W' := by
  obtain ⟨p, hA⟩ := hA
  have hp : Try.f7.params.toList = [5, 48] := rfl
  rw [hp] at hA
  obtain ⟨v0, vs0, d0, ds0, q0, hv0, rfl, t0, hA⟩ := Lift.tr_cons hA
  obtain ⟨v1, vs1, d1, ds1, q1, hv1, rfl, t1, hA⟩ := Lift.tr_cons hA
  obtain ⟨rfl, rfl⟩ := Lift.tr_nil hA
  obtain ⟨n, h0, r0, r1⟩ := Lift.tr_int (k := .u8) rfl t0
  obtain ⟨a, m, c, xs, h1, hn, hcc, hr, hN, hcb, hsum⟩ := Lift.tr_slice (X := Ac) actC (fun _ => True) (fun _ => 0) (x := 57) rfl rfl (fun cs d h => by
    obtain ⟨gs, hl, hc, hb, hf⟩ := Lift.tr_struct rfl rfl h
    obtain ⟨y0, i0, u0⟩ := hf 0 _ _ _ _ rfl rfl
    obtain ⟨y1, i1, u1⟩ := hf 1 _ _ _ _ rfl rfl
    obtain ⟨y2, i2, u2⟩ := hf 2 _ _ _ _ rfl rfl
    obtain ⟨y3, i3, u3⟩ := hf 3 _ _ _ _ rfl rfl
    obtain ⟨y4, i4, u4⟩ := hf 4 _ _ _ _ rfl rfl
    match cs, hc with
    | [c0, c1, c2, c3, c4], _ =>
      obtain ⟨n0, h0, _⟩ := Lift.tr_int (k := .i64) rfl u0
      obtain ⟨n1, h1, _⟩ := Lift.tr_int (k := .i64) rfl u1
      obtain ⟨n2, h2, _⟩ := Lift.tr_int (k := .i64) rfl u2
      obtain ⟨n3, h3, _⟩ := Lift.tr_str rfl u3
      obtain ⟨n4, h4⟩ := Lift.tr_bool rfl u4
      simp only [List.drop_zero, List.take_succ_cons, List.take_zero, List.drop_succ_cons, List.cons.injEq, and_true] at h0 h1 h2 h3 h4
      subst h0 h1 h2 h3 h4
      exact ⟨(n0, n1, n2, ba n3, n4), rfl, trivial, Nat.zero_le _⟩) t1
  obtain ⟨l, rfl⟩ : ∃ l : List Value, args = l.toArray := ⟨args.toList, by simp⟩
  simp only [List.toList_toArray] at hv0
  subst hv0 hv1
  obtain rfl := Lift.val_int rfl (hval 0 _ _ rfl rfl) h0
  obtain rfl := Lift.val_slice rfl (hval 1 _ _ rfl rfl) h1
  subst hn
  have j0 : (0 : Int) ≤ n := r0
  have j1 : n ≤ 255 := r1
  exact Lift.calls_of fun K h => spec j0 j1 hr h
theorem own : ownKnob Try.prog.godebug = none := by kernel_rfl
theorem contract (H : Type) (enc : TypeId × Value → H) (W : World) (base : Nat) (args : Array Value) (ds gs : List (DataW H)) (before : List MemPlace) (hval : ∀ (j : Nat) t v, Try.f7.params[j]? = some t → args[j]? = some v → Value.okWide Try.prog W .any base t v)
    (hW : DataW.Whole enc Try.prog Try.f7.params.toList Rows.collapseOnceSpec.vars false W args.toList ds gs before) :
    Calls Try.prog 7 args W fun e W' => ∃ v, e = .returned v ∧ Rows.collapseOnceSpec.post enc Try.prog Try.f7 false true false false W args v W' := by
  have hA : ∃ p, DataW.TrodAll enc P W 0 (fun _ => true) true Try.f7.params.toList args.toList ds p := by
    obtain ⟨p, q, hA, _⟩ := hW
    exact ⟨p, hA⟩
  refine (walk base args ds hval hA).mono fun e W' ⟨he, hb⟩ => ?_
  exact ⟨_, he, Lift.law_post' (by kernel_rfl) rfl rfl rfl (fun ds h => by first | (rcases ds with _ | ⟨d1, _ | ⟨d2, _ | ⟨d3, _ | ⟨d4, ds⟩⟩⟩⟩ <;> first | rfl | (exfalso; simp [Try.f7] at h; done))) (by kernel_rfl) hW hb⟩
set_option maxRecDepth 100000 in
theorem lifted (os : Os) (started : os.Started) (H : Type) (enc : TypeId × Value → H) :
    ReturnsInHanded {} Try.checked os 7 .any (Rows.collapseOnceSpec.pre6 enc Try.prog Try.f7 Rows.collapseOnceRow.domain false) (Rows.collapseOnceSpec.post enc Try.prog Try.f7 false true false false) := by
  refine returnsInHanded_of_change (C := Try.checked) own started (by kernel_rfl) Try.func7
    (ChangeSpec.witness6 (enc := enc) (C := Try.checked) false ⟨#[], #[.int .u8 0, .slice none 0 0], []⟩ 8 (by kernel_rfl) (by kernel_rfl) (by kernel_rfl) (by kernel_rfl)) ?_
  intro W base args ds gs before hval hW _ _
  exact contract H enc W base args ds gs before hval hW
theorem proved : Rows.CollapseOnceSaid :=
  OpenClaim.holds_of_wide 7 Try.f7 rfl rfl rfl rfl rfl rfl rfl ⟨rfl, rfl, rfl, rfl, rfl⟩ rfl rfl rfl rfl rfl (by kernel_rfl) Try.func7 (by kernel_rfl)
    (of_decide_eq_true (by kernel_rfl)) (by unfold Func.isWrapper; first | (rw [if_pos (by decide +kernel)]; kernel_rfl) | (rw [if_neg (by decide +kernel)]; exact ⟨rfl, rfl⟩))
    (fun os started H enc _ => lifted os started H enc)

end Go.Proofs.Ytgbihlbgkkpciaa.collapseOnce
