/-
  THE EVALUATOR IS SOUND (calls; rounds; every operation; regions in the text's order).
-/
import Derived.Test.YtiabhghlhnnnjaaGreatDoorEp
import Derived.Test.YtiabhghlhnnnjaaGreatDoorRf
set_option linter.unusedVariables false
set_option linter.unusedSimpArgs false
set_option maxRecDepth 100000
noncomputable section
namespace Go.Proofs.YtiabhghlhnnnjaaGreatDoor.Ev
open Go Sh Sl
variable {e : Env} {R : HProp}
/-- what stands behind a function's temporaries: nothing, the mark of a block of deferred calls, that it is a round -/
def MarkOk (L : Lo) (ro : Option Nat) (n : Nat) (fr : Fr) (ds : List Deferred) : Prop :=
  (fr.get n = none ∧ ds = [] ∧ ro = none) ∨ (∃ d off p, fr.get n = some (.ptr d off) ∧ L d = some p ∧ ds = [{ target := .collected p.b, args := #[] }] ∧ ro = none) ∨ (fr.get n = some .undef ∧ ds = [])
structure FrOk (L : Lo) (ro : Option Nat) (n : Nat) (fr : Fr) (a : Act) : Prop where
  size : a.tmps.size = n
  at_ : AgrE L (fun _ => False) n fr a.tmps
  mark : MarkOk L ro n fr a.defers
theorem MarkOk.sub {L M : Lo} {ro : Option Nat} {n : Nat} {fr : Fr} {ds : List Deferred} (hl : Lo.sub L M) (h : MarkOk L ro n fr ds) : MarkOk M ro n fr ds := by
  rcases h with h | ⟨d, off, p, h1, h2, h3⟩ | h
  · exact .inl h
  · exact .inr (.inl ⟨d, off, p, h1, hl _ _ h2, h3⟩)
  · exact .inr (.inr h)
theorem MarkOk.set {L : Lo} {ro : Option Nat} {n d : Nat} {fr : Fr} {ds : List Deferred} {v : EV} (hd : d < n) (h : MarkOk L ro n fr ds) : MarkOk L ro n (fr.set v d) ds := by
  have := Tr.get_set_other v fr d n (Nat.ne_of_gt hd)
  unfold MarkOk
  rw [this]; exact h
theorem FrOk.le {L M : Lo} {ro : Option Nat} {n : Nat} {fr : Fr} {a : Act} (hl : Lo.le L M) (h : FrOk L ro n fr a) : FrOk M ro n fr a := ⟨h.size, h.at_.le hl, h.mark.sub hl.1⟩
theorem fitsC_ok {n d : Nat} (h : fitsC n (some d) = true) : d < n := by
  have : blt d n = true := h
  rw [blt_eq] at this; simpa using this
theorem AgrE.set {L : Lo} {n d : Nat} {fr : Fr} {tmps : Array Value} {v : EV} {x : Value} (hs : tmps.size = n) (h : AgrE L (fun _ => False) n fr tmps) (hd : d < n) (hv : Real L v x) : AgrE L (fun _ => False) n (fr.set v d) (tmps.setIfInBounds d x) := fun t u ht _ hu => by
  by_cases e1 : t = d
  · subst e1
    rw [Tr.get_set_same v u fr t hu]
    exact ⟨x, by simp [hs, ht], hv⟩
  · rw [Tr.get_set_other v fr d t e1] at hu
    obtain ⟨y, h1, h2⟩ := h t u ht (fun h => h) hu
    exact ⟨y, by rw [Array.getElem?_setIfInBounds_ne (Ne.symm e1)]; exact h1, h2⟩
theorem FrOk.put {L : Lo} {ro : Option Nat} {n : Nat} {fr : Fr} {a : Act} (h : FrOk L ro n fr a) {d : Option Tmp} (hd : fitsC n d = true) {v : EV} {x : Value} (hv : Real L v x) : FrOk L ro n (putF fr d v) (a.put d x) := by
  cases d with
  | none => exact h
  | some d =>
    have hdn := fitsC_ok hd
    exact ⟨by simp [Act.put, h.size], h.at_.set h.size hdn hv, h.mark.set hdn⟩
/-- the package's variables lie where the evaluator has them -/
def Glo (pg : Pg) (L : Lo) : Prop := ∀ g i, pg.gi g = some i → ∃ p, L i = some p ∧ p.adr 0 = ⟨g, 0, none⟩
theorem Glo.sub {pg : Pg} {L M : Lo} (hl : Lo.sub L M) (h : Glo pg L) : Glo pg M := fun g i hi => by
  obtain ⟨p, h1, h2⟩ := h g i hi
  exact ⟨p, hl _ _ h1, h2⟩
theorem opr_ok {pg : Pg} {L : Lo} {n : Nat} {fr : Fr} {a : Act} (hA : AgrE L (fun _ => False) n fr a.tmps) (hg : Glo pg L) {q : Operand} (hq : qFit n q = true) {v : EV} (hv : (oqC pg.gi q).get fr = some v) : Real L v (a.eval q) := by
  cases q with
  | tmp t =>
    have ht : t < n := by have := hq; simp only [qFit, blt_eq, decide_eq_true_eq] at this; exact this
    obtain ⟨x, h1, h2⟩ := hA t v ht (fun h => h) hv
    have : a.eval (.tmp t) = x := by simp [Act.eval, h1]
    rw [this]; exact h2
  | const c =>
    cases hc : ofV c with
    | none => rw [show oqC pg.gi (.const c) = .bad by simp [oqC, hc]] at hv; cases hv
    | some u => rw [show oqC pg.gi (.const c) = .val u by simp [oqC, hc]] at hv; cases hv; exact ofV_ok c _ hc
  | global g =>
    cases hc : pg.gi g with
    | none => rw [show oqC pg.gi (.global g) = .bad by simp [oqC, hc]] at hv; cases hv
    | some i =>
      rw [show oqC pg.gi (.global g) = .val (.ptr i 0) by simp [oqC, hc]] at hv; cases hv
      obtain ⟨p, h1, h2⟩ := hg g i hc
      show Real L (.ptr i 0) (.pointer (some ⟨g, 0, none⟩))
      rw [← h2]; exact .ptr h1
  | func f => cases hv; exact .fn .nil .nil
/-! what is to be shown -/
def exX : Ex → Exit
  | .nor => .normal
  | .exit i => .exit i
  | .goto l => .goto l
  | .ret => .ret
def PostE (e : Env) (R : HProp) (L : Lo) (ro : Option Nat) (n : Nat) (x : Ex) (fr : Fr) (s : St) : Exit → Act → World → Prop := fun ex a w => ex = exX x ∧ ∃ M, Lo.le L M ∧ FrOk M ro n fr a ∧ Rep e R M s w
/-- code behind which its scope stands -/
def ScIn (ro : Option Nat) (b c : Code) (Q : Exit → Act → World → Prop) (a : Act) (w : World) : Prop := ∀ (fb : Frame) (k : List Item) (cs : List Frame), fb.roundOf = (Fw ro).round → (Fw ro).fn fb.fn → (Fw ro).room (cs.length + 1 + 0) →
    ∃ ex a' w', Q ex a' w' ∧ ArrivesIn (Machine.fenced P (Fw ro)) P (lone (fb.atR a (.code c :: .inScope b :: k)) cs w) fb k cs ex a' w'
/-- a loop's round, behind which the loop stands -/
def LpIn (ro : Option Nat) (c : Code) (Q : Exit → Act → World → Prop) (a : Act) (w : World) : Prop := ∀ (fb : Frame) (k : List Item) (cs : List Frame), fb.roundOf = (Fw ro).round → (Fw ro).fn fb.fn → (Fw ro).room (cs.length + 1 + 0) →
    ∃ ex a' w', Q ex a' w' ∧ ArrivesIn (Machine.fenced P (Fw ro)) P (lone (fb.atR a (.code c :: .inLoop c :: k)) cs w) fb k cs ex a' w'
def InSc (ro : Option Nat) (sc : Option Code) (c : Code) (Q : Exit → Act → World → Prop) (a : Act) (w : World) : Prop := match sc with
  | none => c.wpIn (Fw ro) 0 P Q a w ∧ ∀ c', c = .loop c' → LpIn ro c' Q a w
  | some b => ScIn ro b c Q a w
/-- a run with less fuel answers what any run answers -/
def SoundR (e : Env) (R : HProp) (pg : Pg) (run : Run) : Prop := ∀ (n : Nat) (sc : Option Code) (c : Code) (fr : Fr) (s : St) (x : Ex) (fr' : Fr) (s' : St), run n sc c fr s = .ok (x, fr', s') →
  ∀ (ro : Option Nat) (L : Lo) (a : Act) (w : World), Glo pg L → FrOk L ro n fr a → Rep e R L s w → InSc ro sc c (PostE e R L ro n x fr' s') a w
theorem SoundR.wp {pg : Pg} {run : Run} (h : SoundR e R pg run) {n : Nat} {c : Code} {fr fr' : Fr} {s s' : St} {x : Ex} (h1 : run n none c fr s = .ok (x, fr', s')) {ro : Option Nat} {L : Lo} {a : Act} {w : World} (hg : Glo pg L) (hA : FrOk L ro n fr a) (hw : Rep e R L s w) :
    c.wpIn (Fw ro) 0 P (PostE e R L ro n x fr' s') a w := (show _ ∧ _ from h n none c fr s x fr' s' h1 ro L a w hg hA hw).1
def CallAt (e : Env) (R : HProp) (pg : Pg) (f : FuncId) (args : List EV) (s : St) (v : EV) (s' : St) : Prop := ∀ (L : Lo) (xs : List Value) (w : World), Glo pg L → Reals L args xs → Rep e R L s w →
  NextK P (callFunc f xs.toArray) (fun y w' => ∃ M, Lo.le L M ∧ Real M v y ∧ Rep e R M s' w') w
structure PgOk (e : Env) (R : HProp) (pg : Pg) : Prop where
  ft : ∀ f n rs c, pg.ft f = some (.mk n rs c) → ∃ fn, P.funcs[f]? = some fn ∧ fn.body = some c ∧ fn.ntmps = n ∧ fn.results.toList = rs ∧ callable P f = true
  xt : ∀ f x, pg.xt f = some x → ∀ args s v s', x args s = some (v, s') → CallAt e R pg f args s v s'
/-! a function -/
theorem argsF_get : ∀ (l : List EV) (i : Nat) (fr : Fr) (t : Nat) (v : EV), (argsF l i fr).get t = some v → (i ≤ t ∧ l[t - i]? = some v) ∨ fr.get t = some v
  | [], _, _, _, _, h => .inr h
  | u :: l, i, fr, t, v, h => by
    rcases argsF_get l (i + 1) (fr.set u i) t v h with ⟨h1, h2⟩ | h1
    · refine .inl ⟨by omega, ?_⟩
      have : t - i = (t - (i + 1)) + 1 := by omega
      rw [this]; simpa using h2
    · by_cases e1 : t = i
      · subst e1
        have := Tr.get_set_same u v fr t h1
        subst this
        exact .inl ⟨Nat.le_refl _, by simp⟩
      · rw [Tr.get_set_other u fr i t e1] at h1; exact .inr h1
theorem rvsE_ok {L : Lo} {n : Nat} {fr : Fr} {s : St} {a : Act} {w : World} (hA : AgrE L (fun _ => False) n fr a.tmps) (hw : Rep e R L s w) : ∀ (rs : List ResultVar) (l : List EV), rvsE fr s (rs.map (rvC n)) = some l →
    ∃ vs, Reals L l vs ∧ (rs.mapM (m := Sem) (fun | .tmp t => pure (a.tmps.getD t undef) | .cell x t => do loadVar t (← asAddr (a.tmps.getD x undef)))).run P w = .ok vs w
  | [], l, h => by cases h; exact ⟨[], .nil, rfl⟩
  | r :: rs, l, h => by
    obtain ⟨v, h1, h⟩ := ob2_ok (show ob2 (rvE fr s (rvC n r)) (fun v => ob2 (rvsE fr s (rs.map (rvC n))) fun l => some (v :: l)) = some l from h)
    obtain ⟨l', h2, h⟩ := ob2_ok h
    cases h
    obtain ⟨vs, h3, h4⟩ := rvsE_ok hA hw rs l' h2
    cases r with
    | tmp t =>
      cases ht : blt t n with
      | false => rw [show rvC n (.tmp t) = .bad by simp [rvC, ht, cnd]] at h1; cases h1
      | true =>
        rw [show rvC n (.tmp t) = .tmp t by simp [rvC, ht, cnd]] at h1
        rw [blt_eq, decide_eq_true_eq] at ht
        obtain ⟨x, h5, h6⟩ := hA t v ht (fun h => h) h1
        refine ⟨x :: vs, .cons h6 h3, ?_⟩
        have e1 : a.tmps.getD t undef = x := by simp [h5]
        rw [List.mapM_cons]
        simp only [e1, pure_bind]
        rw [Sem.run_bind, h4]
        rfl
    | cell b t =>
      cases hy : ti t with
      | none => rw [show rvC n (.cell b t) = .bad by simp [rvC, hy]] at h1; cases h1
      | some y =>
        cases ht : blt b n with
        | false => rw [show rvC n (.cell b t) = .bad by simp [rvC, hy, ht, cnd]] at h1; cases h1
        | true =>
          rw [show rvC n (.cell b t) = .cell b (isAg y) y.size by simp [rvC, hy, ht, cnd]] at h1
          rw [blt_eq, decide_eq_true_eq] at ht
          obtain ⟨u, h5, h6⟩ := ob2_ok (show ob2 (fr.get b) (fun v => ob2 v.ptr? (p2 (loadE (isAg y) y.size s))) = some v from h1)
          obtain ⟨⟨i, off⟩, h7, h8⟩ := ob2_ok h6
          have := ptr?_ok h7
          subst this
          obtain ⟨x, h9, h10⟩ := hA b _ ht (fun h => h) h5
          obtain ⟨p, h11, rfl⟩ := h10.ptr_inv
          obtain ⟨z, h12, h13⟩ := load_ok hw hy h11 h8
          refine ⟨z :: vs, .cons h12 h3, ?_⟩
          have e1 : a.tmps.getD b undef = .pointer (some (p.adr off)) := by simp [h9]
          have e2 : (loadVar t (p.adr off)).run P w = .ok z w := by simpa [Instr.loadAt, Instr.sureAddr] using h13
          have e3 : (do loadVar t (← asAddr (.pointer (some (p.adr off))))).run P w = .ok z w := by simpa [asAddr] using e2
          rw [List.mapM_cons]
          simp only [e1]
          rw [Sem.run_bind, e3, Result.andThen_ok, Sem.run_bind, h4]
          rfl
def oneV (vs : List Value) : Value := match vs with
  | [v] => v
  | l => .tuple l.toArray
theorem oneE_ok {L : Lo} {l : List EV} {vs : List Value} (h : Reals L l vs) : Real L (oneE l) (oneV vs) := by
  match l, vs, h with
  | [], _, .nil => exact .tup .nil
  | [_], _, .cons h1 .nil => exact h1
  | _ :: _ :: _, _, .cons h1 (.cons h2 t) => exact .tup (.cons h1 (.cons h2 t))
theorem takeE_ok {L : Lo} {ro : Option Nat} {n : Nat} {fr : Fr} {s s' : St} {a : Act} {w : World} (hA : MarkOk L ro n fr a.defers) (hw : Rep e R L s w) (h : takeE n fr s = some s') {fn : Func} {Q : Ending → World → Prop}
    (k : ∀ w', Rep e R L s' w' → LeavesIn Fence.wide 0 P fn a.tmps Q [] .returning w') : LeavesInM Fence.wide 0 P fn a.tmps Q a.defers .returning w := by
  unfold takeE at h
  rcases hA with ⟨h1, h2, h3⟩ | ⟨d, off, p, h1, h2, h3, h4⟩ | ⟨h1, h2⟩
  · rw [h1] at h; cases h
    rw [h2]; exact k w hw
  · rw [h1] at h
    obtain ⟨⟨i, o⟩, h5, h6⟩ := ob2_ok (show ob2 (EV.ptr? (.ptr d off)) (p2 fun d _ => ob2 (s.obj d) fun o => cnd o.dfr? (some (s.put d .dead)) none) = some s' from h)
    cases h5
    obtain ⟨ob1, h7, h8⟩ := ob2_ok (show ob2 (s.obj d) (fun o => cnd o.dfr? (some (s.put d .dead)) none) = some s' from h6)
    obtain ⟨h9, h10⟩ := cnd_some h8
    cases h10
    have hob : ob1 = .dfr := by cases ob1 <;> first | rfl | (cases h9; done)
    subst hob
    obtain ⟨g, hg, hp⟩ := hw.at_ h2 h7
    have hb : w.heap[p.b]? = some (.deferred (some [])) := hg _ _ hp
    rw [h3]
    refine ⟨by simp, .inl ⟨p.b, _, rfl, run_takeDeferred hb, k _ ?_⟩⟩
    exact hw.turn (o2 := .dead) h2 h7 hb (fun g hg => ⟨_, hg⟩) fun g hg => trivial
  · rw [h1] at h; cases h
theorem results_run {a : Act} {w : World} {fn : Func} {vs : List Value} (h : (fn.results.toList.mapM (m := Sem) (fun | .tmp t => pure (a.tmps.getD t undef) | .cell x t => do loadVar t (← asAddr (a.tmps.getD x undef)))).run P w = .ok vs w) :
    (results fn a.tmps).run P w = .ok (oneV vs) w := by
  unfold results
  rw [Array.mapM_eq_mapM_toList, Sem.run_bind]
  have key : ∀ m : Sem (List Value), m.run P w = .ok vs w → (Sem.run P (List.toArray <$> m) w).andThen (fun vs w => Sem.run P (pure (if h : vs.size = 1 then vs[0] else Value.tuple vs)) w) =
      .ok (oneV vs) w := by
    intro m hm
    have : Sem.run P (List.toArray <$> m) w = .ok vs.toArray w := by
      rw [map_eq_pure_bind, Sem.run_bind, hm]; rfl
    rw [this]
    simp only [Result.andThen_ok]
    match vs with
    | [] => rfl
    | [v] => rfl
    | v :: u :: r => simp [oneV]
  exact key _ h
theorem body_ok {pg : Pg} {run : Run} (hr : SoundR e R pg run) {f n : Nat} {rs : List ResultVar} {c : Code} {fn : Func} (hf : P.funcs[f]? = some fn) (hb : fn.body = some c) (hn : fn.ntmps = n) (hrs : fn.results.toList = rs) {args : List EV} (hle : args.length ≤ n)
    {s s' : St} {v : EV} (h : erE n f (rs.map (rvC n)) (run n none c (argsF args 0 (Tr.emp (log2S n))) s) = .ok (v, s')) {L : Lo} {xs : List Value} {w : World} (hg : Glo pg L) (hx : Reals L args xs) (hw : Rep e R L s w) :
    Calls P f xs.toArray w fun en w' => ∃ y, en = .returned y ∧ ∃ M, Lo.le L M ∧ Real M v y ∧ Rep e R M s' w' := by
  subst hn
  cases hrun : run fn.ntmps none c (argsF args 0 (Tr.emp (log2S fn.ntmps))) s with
  | no w l => rw [hrun] at h; cases h
  | ok q =>
    obtain ⟨x, fr', s1⟩ := q
    rw [hrun] at h
    have h : cnd x.is (leftE fn.ntmps (rs.map (rvC fn.ntmps)) fr' s1) (.no 121 [f]) = .ok (v, s') := h
    obtain ⟨hxi, h⟩ := cnd_ok h
    obtain ⟨s2, h1, h⟩ := bo_ok (show bo 129 (takeE fn.ntmps fr' s1) (fun s => bo 120 (rvsE fr' s (rs.map (rvC fn.ntmps))) fun l => .ok (oneE l, s)) = .ok (v, s') from h)
    obtain ⟨l, h2, h⟩ := bo_ok h
    cases h
    have hlen := hx.length
    have hempty : ∀ t v, (argsF args 0 (Tr.emp (log2S fn.ntmps))).get t = some v → args[t]? = some v := fun t v ht => by
      rcases argsF_get _ _ _ _ _ ht with ⟨_, h⟩ | h
      · simpa using h
      · rw [Tr.get_emp] at h; cases h
    have hfr : FrOk L none fn.ntmps (argsF args 0 (Tr.emp (log2S fn.ntmps))) { tmps := xs.toArray ++ Array.replicate (fn.ntmps - xs.toArray.size) undef, defers := [] } := by
      refine ⟨by simp [hlen]; omega, fun t u ht _ hu => ?_, .inl ⟨?_, rfl, rfl⟩⟩
      · obtain ⟨y, h3, h4⟩ := hx.get (hempty t u hu)
        have hi : t < xs.length := (List.getElem?_eq_some_iff.1 h3).1
        exact ⟨y, by simp only [Array.getElem?_append, List.size_toArray, hi, if_true]; simpa using h3, h4⟩
      · cases hh : (argsF args 0 (Tr.emp (log2S fn.ntmps))).get fn.ntmps with
        | none => rfl
        | some u =>
          have := (List.getElem?_eq_some_iff.1 (hempty _ _ hh)).1
          omega
    refine (callsIn_wide (n := 0)).1 (callsIn_of_wp_marks hf hb trivial (wpIn_mono (show c.wpIn Fence.wide 0 P _ _ _ from hr.wp hrun (ro := none) hg hfr hw) fun ex a w' hp => ?_))
    obtain ⟨hex, M, hM, hA, hR⟩ := hp
    have fin : LeavesInM Fence.wide 0 P fn a.tmps (fun en w' => ∃ y, en = .returned y ∧ ∃ M, Lo.le L M ∧ Real M (oneE l) y ∧ Rep e R M s' w') a.defers .returning w' := by
      refine takeE_ok hA.mark hR h1 fun w2 hR2 => ?_
      rw [← hrs] at h2
      obtain ⟨vs, h3, h4⟩ := rvsE_ok hA.at_ hR2 _ _ h2
      exact ⟨_, results_run h4, _, rfl, M, hM, oneE_ok h3, hR2⟩
    cases x <;> (first | (cases hxi; done) | skip) <;> (rw [hex]; exact fin)
theorem callE_fun {pg : Pg} (hpg : PgOk e R pg) {run : Run} (hr : SoundR e R pg run) {f : FuncId} (hxt : pg.xt f = none) {args : List EV} {s s' : St} {v : EV} (h : callE pg run f args s = .ok (v, s')) :
    callable P f = true ∧ ∀ (L : Lo) (xs : List Value) (w : World), Glo pg L → Reals L args xs → Rep e R L s w → Calls P f xs.toArray w fun en w' => ∃ y, en = .returned y ∧ ∃ M, Lo.le L M ∧ Real M v y ∧ Rep e R M s' w' := by
  unfold callE at h
  cases hft : pg.ft f with
  | none => rw [show bfC pg f = .bad by simp [bfC, hxt, hft]] at h; cases h
  | some q =>
    obtain ⟨n, rs, c⟩ := q
    rw [show bfC pg f = .fun_ n (Tr.emp (log2S n)) (rs.map (rvC n)) c by simp [bfC, hxt, hft]] at h
    obtain ⟨h1, h⟩ := cnd_ok (show cnd (Nat.ble (len args) n) (erE n f (rs.map (rvC n)) (run n none c (argsF args 0 (Tr.emp (log2S n))) s)) (.no 123 [f]) = .ok (v, s') from h)
    have h1 := Nat.le_of_ble_eq_true h1
    rw [len_eq] at h1
    obtain ⟨fn, g1, g2, g3, g4, g5⟩ := hpg.ft f n rs c hft
    exact ⟨g5, fun L xs w hg hx hw => body_ok hr g1 g2 g3 g4 h1 h hg hx hw⟩
theorem callE_ok {pg : Pg} (hpg : PgOk e R pg) {run : Run} (hr : SoundR e R pg run) {f : FuncId} {args : List EV} {s s' : St} {v : EV} (h : callE pg run f args s = .ok (v, s')) : CallAt e R pg f args s v s' := by
  cases hxt : pg.xt f with
  | some x =>
    unfold callE at h
    rw [show bfC pg f = .ext x by simp [bfC, hxt]] at h
    obtain ⟨q, h1, h2⟩ := bo_ok (show bo 122 (x args s) .ok = .ok (v, s') from h)
    cases h2
    exact hpg.xt f x hxt args s v s' h1
  | none =>
    obtain ⟨h1, h2⟩ := callE_fun hpg hr hxt h
    intro L xs w hg hx hw
    unfold NextK
    rw [callFunc_run h1]
    exact h2 L xs w hg hx hw
end Go.Proofs.YtiabhghlhnnnjaaGreatDoor.Ev
noncomputable section
namespace Go.Proofs.YtiabhghlhnnnjaaGreatDoor.Ev
open Go Sh Sl
variable {e : Env} {R : HProp}
/-- a loop's record, as the evaluator has it -/
structure LopR (L : Lo) (q : Lp) (r : Loop) : Prop where
  state : lsN r.state = q.st
  pending : r.pending = q.pend.bind exC
  params : r.params = q.ps.toArray
  assign : r.assign = q.asg
  body : r.body = q.body
  size : r.tmps.size = q.n
  mark : q.fr.get q.n = some .undef
  lt : ∀ t ∈ q.ps, t < q.n
  at_ : AgrE L (fun _ => False) q.n q.fr r.tmps
def Lp.o (q : Lp) : EO := .lop q.st q.pend q.n q.ps q.asg q.body q.fr
theorem lop?_ok {o : EO} {q : Lp} (h : o.lop? = some q) : o = q.o := by
  cases o <;> first | (cases h; done) | (cases h; rfl)
theorem pobj_lop {L : Lo} {p : Lc} {q : Lp} {r : Loop} {g : Hp} (hg : g p.b = some (.loop r)) (h : LopR L q r) : pobj L p q.o g :=
  ⟨r, hg, h.state, h.pending, h.params, h.assign, h.body, h.size, ⟨h.mark, h.lt⟩, h.at_⟩
theorem Rep.lop {L : Lo} {s : St} {w : World} (h : Rep e R L s w) {i : Nat} {p : Lc} {q : Lp} (h1 : L i = some p) (h2 : s.obj i = some q.o) : ∃ r, w.heap[p.b]? = some (.loop r) ∧ LopR L q r := by
  obtain ⟨g, hg, r, a, b1, b2, b3, b4, b5, b6, ⟨b7, b8⟩, b9⟩ := h.at_ h1 h2
  exact ⟨r, hg _ _ a, b1, b2, b3, b4, b5, b6, b7, b8, b9⟩
theorem Rep.lopPut {L : Lo} {s : St} {w : World} (h : Rep e R L s w) {i : Nat} {p : Lc} {q q' : Lp} {r r' : Loop} (h1 : L i = some p) (h2 : s.obj i = some q.o) (h3 : w.heap[p.b]? = some (.loop r)) (h4 : LopR L q' r') :
    Rep e R L (s.put i q'.o) (w.putObj p.b (.loop r')) :=
  h.turn h1 h2 h3 (fun g hg => by obtain ⟨r, a, _⟩ := hg; exact ⟨_, a⟩) fun g hg => pobj_lop hg h4
theorem putPs_get : ∀ (ps : List Nat) (args : List EV) (fr fr' : Fr) (n : Nat), (∀ t ∈ ps, t < n) → putPs ps args fr = some fr' → fr'.get n = fr.get n ∧ args.length = ps.length
  | [], [], fr, fr', n, _, h => by cases h; exact ⟨rfl, rfl⟩
  | [], _ :: _, fr, fr', n, _, h => by cases h
  | _ :: _, [], fr, fr', n, _, h => by cases h
  | t :: ps, v :: args, fr, fr', n, hl, h => by
    obtain ⟨h1, h2⟩ := putPs_get ps args (fr.set v t) fr' n (fun t ht => hl t (List.mem_cons_of_mem _ ht)) h
    exact ⟨by rw [h1, Tr.get_set_other v fr t n (Nat.ne_of_gt (hl t List.mem_cons_self))], by simp [h2]⟩
theorem putPs_agr {L : Lo} {n : Nat} : ∀ (ps : List Nat) (args : List EV) (xs : List Value) (fr fr' : Fr) (tmps : Array Value), (∀ t ∈ ps, t < n) → putPs ps args fr = some fr' → Reals L args xs → tmps.size = n → AgrE L (fun _ => False) n fr tmps →
    ((ps.zip xs).foldl (fun tmps (t, a) => tmps.setIfInBounds t a) tmps).size = n ∧ AgrE L (fun _ => False) n fr' ((ps.zip xs).foldl (fun tmps (t, a) => tmps.setIfInBounds t a) tmps)
  | [], _, xs, fr, fr', tmps, _, h, hx, hs, hA => by
    cases hx with
    | nil => cases h; exact ⟨hs, hA⟩
    | cons => cases h
  | t :: ps, _, _, fr, fr', tmps, hl, h, .cons hv hx, hs, hA => by
    have ht := hl t List.mem_cons_self
    exact putPs_agr ps _ _ _ fr' _ (fun t ht => hl t (List.mem_cons_of_mem _ ht)) h hx (by simpa using hs) (hA.set hs ht hv)
  | _ :: _, _, _, fr, fr', tmps, _, h, .nil, hs, hA => by cases h
def exJ : Ex → Option Code := exC
theorem endR_ok {l : Nat} {x : Ex} {s s' : St} {v : EV} (h : endR l x s = .ok (v, s')) {L : Lo} {p : Lc} (hl : L l = some p) {w : World} (hw : Rep e R L s w) :
    ∃ y w', (Instr.endRound p.b (exC x)).run P w = .ok y w' ∧ Real L v y ∧ Rep e R L s' w' := by
  obtain ⟨o, h1, h⟩ := bo_ok (show bo 160 (s.obj l) (fun o => bo 161 o.lop? fun p => cnd (@Ex.rec (fun _ => Bool) true (fun _ => false) (fun _ => false) false x)
    (.ok (.bool true, s.put l (.lop 0 none p.n p.ps p.asg p.body p.fr))) (.ok (.bool false, s.put l (.lop 2 (some x) p.n p.ps p.asg p.body p.fr)))) = .ok (v, s') from h)
  obtain ⟨q, h2, h⟩ := bo_ok h
  have ho := lop?_ok h2
  subst ho
  obtain ⟨r, h3, h4⟩ := hw.lop hl h1
  have hrun := run_endRound (P := P) (exC x) h3
  have two : ∀ c, exC x = some c → (.ok (.bool false, s.put l (.lop 2 (some x) q.n q.ps q.asg q.body q.fr)) : Rs (EV × St)) = .ok (v, s') → ∃ y w', (Instr.endRound p.b (exC x)).run P w = .ok y w' ∧ Real L v y ∧ Rep e R L s' w' := fun c hc hh => by
    cases hh
    rw [hc] at hrun ⊢
    exact ⟨_, _, hrun, .bool false, hw.lopPut (q' := ⟨2, some x, q.n, q.ps, q.asg, q.body, q.fr⟩) hl h1 h3 ⟨rfl, by simp [hc], h4.params, h4.assign, h4.body, h4.size, h4.mark, h4.lt, h4.at_⟩⟩
  cases x with
  | nor =>
    cases h
    exact ⟨_, _, hrun, .bool true, hw.lopPut (q' := ⟨0, none, q.n, q.ps, q.asg, q.body, q.fr⟩) hl h1 h3 ⟨rfl, rfl, h4.params, h4.assign, h4.body, h4.size, h4.mark, h4.lt, h4.at_⟩⟩
  | exit i => exact two _ rfl h
  | goto i => exact two _ rfl h
  | ret => exact two _ rfl h
theorem yield_ok {pg : Pg} {run : Run} (hr : SoundR e R pg run) {args : List EV} {s s' : St} {l : Nat} {v : EV} (h : yieldE run args s l = .ok (v, s')) {L : Lo} {p : Lc} (hl : L l = some p) {xs : List Value} (hx : Reals L args xs)
    {w : World} (hg : Glo pg L) (hw : Rep e R L s w) : NextK P (Instr.yield p.b xs.toArray) (fun y w' => ∃ M, Lo.le L M ∧ Real M v y ∧ Rep e R M s' w') w := by
  obtain ⟨o, h1, h⟩ := bo_ok (show bo 160 (s.obj l) (fun o => bo 161 o.lop? fun p => bo 164 (putPs p.ps args p.fr) fun fr => bd (run p.n none p.asg fr s) (bodyR l run p)) = .ok (v, s') from h)
  obtain ⟨q, h2, h⟩ := bo_ok h
  obtain ⟨fr, h3, h⟩ := bo_ok h
  obtain ⟨⟨x1, fr1, s1⟩, h4, h⟩ := bd_ok h
  have ho := lop?_ok h2
  subst ho
  obtain ⟨r, h5, h6⟩ := hw.lop hl h1
  obtain ⟨k1, k2⟩ := putPs_get q.ps args q.fr fr q.n h6.lt h3
  obtain ⟨k3, k4⟩ := putPs_agr q.ps args xs q.fr fr r.tmps h6.lt h3 hx h6.size h6.at_
  cases x1 with
  | exit i => cases h
  | goto i => cases h
  | ret => cases h
  | nor =>
  obtain ⟨o2, h7, h⟩ := bo_ok (show bo 160 (s1.obj l) (fun o => bo 161 o.lop? fun p => cnd (Nat.beq p.st 0)
    (bd (run q.n none q.body fr1 (s1.put l (.lop 1 p.pend p.n p.ps p.asg p.body p.fr))) (p2 fun e => p2 fun _ s => endR l e s)) (.no 162 [])) = .ok (v, s') from h)
  obtain ⟨q2, h8, h⟩ := bo_ok h
  obtain ⟨h9, h⟩ := cnd_ok h
  obtain ⟨⟨x2, fr2, s2⟩, h10, h⟩ := bd_ok h
  have hend : endR l x2 s2 = .ok (v, s') := h
  have ho := lop?_ok h8
  subst ho
  have hst := Nat.eq_of_beq_eq_true h9
  have hsz : xs.toArray.size = r.params.size := by rw [h6.params]; simp [hx.length, k2]
  unfold NextK
  rw [run_yield h5 hsz]
  have e1 : (r.params.zip xs.toArray).foldl (fun tmps (t, a) => tmps.setIfInBounds t a) r.tmps = (q.ps.zip xs).foldl (fun tmps (t, a) => tmps.setIfInBounds t a) r.tmps := by
    rw [h6.params, ← Array.foldl_toList, Array.toList_zip]
  rw [e1]
  refine roundIn_of_wpIn (F := Fence.wide) trivial ?_
  have hA : FrOk L (some p.b) q.n fr { tmps := (q.ps.zip xs).foldl (fun tmps (t, a) => tmps.setIfInBounds t a) r.tmps, defers := [] } := ⟨k3, k4, .inr (.inr ⟨by rw [k1, h6.mark], rfl⟩)⟩
  rw [h6.assign]
  refine wpIn_mono (show Code.wpIn (Fw (some p.b)) 0 P q.asg _ _ _ from hr.wp h4 (ro := some p.b) hg hA hw) fun ex a1 w1 hp => ?_
  obtain ⟨hex, M, hM, hA1, hR1⟩ := hp
  rw [hex]
  obtain ⟨r2, g1, g2⟩ := hR1.lop (hM.1 _ _ hl) h7
  have hrd : r2.state = .ready := by
    have := g2.state
    rw [hst] at this
    cases hh : r2.state <;> rw [hh] at this <;> first | rfl | (cases this; done)
  refine ⟨_, run_beginRound g1 hrd, ?_⟩
  have hR2 := hR1.lopPut (q' := ⟨1, q2.pend, q2.n, q2.ps, q2.asg, q2.body, q2.fr⟩) (r' := { r2 with state := .busy }) (hM.1 _ _ hl) h7 g1 ⟨rfl, g2.pending, g2.params, g2.assign, g2.body, g2.size, g2.mark, g2.lt, g2.at_⟩
  rw [h6.body]
  refine wpIn_mono (show Code.wpIn (Fw (some p.b)) 0 P q.body _ _ _ from hr.wp h10 (ro := some p.b) (hg.sub hM.1) hA1 hR2) fun ex a2 w2 hp => ?_
  obtain ⟨hex, N, hN, hA2, hR3⟩ := hp
  obtain ⟨y, w3, g3, g4, g5⟩ := endR_ok hend (hN.1 _ _ (hM.1 _ _ hl)) hR3
  rw [hex]
  cases x2 <;> exact ⟨_, _, g3, _, rfl, N, Lo.le_trans hM hN, g4, g5⟩
/-- a call through a value -/
theorem callV_ok {pg : Pg} (hpg : PgOk e R pg) {run : Run} (hr : SoundR e R pg run) {args : List EV} {s s' : St} {u v : EV} (h : callV pg run args s u = .ok (v, s')) {L : Lo} {y : Value} (hu : Real L u y) {xs : List Value} (hx : Reals L args xs)
    {w : World} (hg : Glo pg L) (hw : Rep e R L s w) : NextK P (callS y xs.toArray) (fun y w' => ∃ M, Lo.le L M ∧ Real M v y ∧ Rep e R M s' w') w := by
  unfold callV at h
  cases hy : u.yld? with
  | some l =>
    rw [hy] at h
    have := yld?_ok hy
    subst this
    obtain ⟨p, hl, rfl⟩ := hu.yld_inv
    have h := yield_ok hr h hl hx hg hw
    unfold NextK at h ⊢
    have : (callS (.func (.yield p.b) #[] #[]) xs.toArray).run P w = (Instr.yield p.b xs.toArray).run P w := by simp [callS, Deferred.ofValue, invoke]
    rw [this]; exact h
  | none =>
    rw [hy] at h
    obtain ⟨⟨g, first, cap⟩, h1, h2⟩ := bo_ok (show bo 125 u.fn? (p2 fun g => p2 fun first cap => callE pg run g (app first (app args cap)) s) = .ok (v, s') from h)
    have := fn?_ok h1
    subst this
    obtain ⟨fs, cs, k1, k2, rfl⟩ := hu.fn_inv
    have h2 : callE pg run g (app first (app args cap)) s = .ok (v, s') := h2
    rw [app_eq, app_eq] at h2
    have h := callE_ok hpg hr h2 L (fs ++ (xs ++ cs)) w hg (k1.append (hx.append k2)) hw
    unfold NextK at h ⊢
    have : (callS (.func (.func g) fs.toArray cs.toArray) xs.toArray).run P w = (callFunc g (fs ++ (xs ++ cs)).toArray).run P w := by simp [callS, Deferred.ofValue, invoke]
    rw [this]; exact h
theorem call_ok {pg : Pg} (hpg : PgOk e R pg) {run : Run} (hr : SoundR e R pg run) {L : Lo} {fr : Fr} {ρ : Operand → Value} {o : Oper} {c : Call} {s s' : St} {v : EV} (ho : o.op = .call c) (hb : ∀ b, c.callee ≠ .builtin b) (hρ : ∀ f, ρ (.func f) = .func (.func f) #[] #[])
    (h : (callC pg c).go run fr s = .ok (v, s')) (hO : Ops L pg.gi fr ρ o.op) (hg : Glo pg L) : ActAt e R L s s' ρ o v := by
  intro w hw
  have hop : ∀ q ∈ c.args.toList, ∀ v, (oqC pg.gi q).get fr = some v → Real L v (ρ q) := fun q hq v hv => hO q (by rw [ho]; exact mem_args hq) v hv
  have hargs : (c.args.toList.map ρ).toArray = c.args.map ρ := by rw [← Array.toList_map]
  obtain ⟨dst, op, type, pos, after, guard⟩ := o
  simp only at ho
  subst ho
  cases hc : c.callee with
  | builtin b => exact absurd hc (hb b)
  | invoke r m => rw [show callC pg c = .bad 128 by simp [callC, hc]] at h; cases h
  | value f =>
    have gen : ∀ (h : (Bo.mk fun run fr s => bo 126 (getL (c.args.toList.map (oqC pg.gi)) fr) fun args => bo 127 ((oqC pg.gi f).get fr) (callV pg run args s)).go run fr s = .ok (v, s')),
        NextK P (execOp ρ ⟨dst, .call c, type, pos, after, guard⟩) (fun y w' => ∃ M, Lo.le L M ∧ Real M v y ∧ Rep e R M s' w') w := by
      intro h
      obtain ⟨args, h1, h⟩ := bo_ok (show bo 126 (getL (c.args.toList.map (oqC pg.gi)) fr) (fun args => bo 127 ((oqC pg.gi f).get fr) (callV pg run args s)) = .ok (v, s') from h)
      obtain ⟨u, h2, h⟩ := bo_ok h
      have hu := hO f (by simp [Op.operands, Call.operands, hc]) u h2
      have := callV_ok hpg hr h hu (getL_ok h1 hop) hg hw
      rw [hargs] at this
      have e1 : execOp ρ ⟨dst, .call c, type, pos, after, guard⟩ = callS (ρ f) (c.args.map ρ) := by simp [execOp, resolve, hc, callS]
      rw [e1]; exact this
    cases f with
    | func g =>
      rw [show callC pg c = .mk fun run fr s => bo 126 (getL (c.args.toList.map (oqC pg.gi)) fr) fun args => callE pg run g args s by simp [callC, hc]] at h
      obtain ⟨args, h1, h⟩ := bo_ok (show bo 126 (getL (c.args.toList.map (oqC pg.gi)) fr) (fun args => callE pg run g args s) = .ok (v, s') from h)
      have := callE_ok hpg hr h L _ w hg (getL_ok h1 hop) hw
      rw [hargs] at this
      unfold NextK at this ⊢
      have e1 : (execOp ρ ⟨dst, .call c, type, pos, after, guard⟩).run P w = (callFunc g (c.args.map ρ)).run P w := by simp [execOp, resolve, hc, Deferred.ofValue, invoke, hρ]
      rw [e1]; exact this
    | tmp t => rw [show callC pg c = .mk fun run fr s => bo 126 (getL (c.args.toList.map (oqC pg.gi)) fr) fun args => bo 127 ((oqC pg.gi (.tmp t)).get fr) (callV pg run args s) by simp [callC, hc]] at h; exact gen h
    | const t => rw [show callC pg c = .mk fun run fr s => bo 126 (getL (c.args.toList.map (oqC pg.gi)) fr) fun args => bo 127 ((oqC pg.gi (.const t)).get fr) (callV pg run args s) by simp [callC, hc]] at h; exact gen h
    | global t => rw [show callC pg c = .mk fun run fr s => bo 126 (getL (c.args.toList.map (oqC pg.gi)) fr) fun args => bo 127 ((oqC pg.gi (.global t)).get fr) (callV pg run args s) by simp [callC, hc]] at h; exact gen h
/-! every operation -/
theorem anyC_op {pg : Pg} {o : Op} (h : ∀ c, o ≠ .call c) : anyC pg o = opC pg.gi o := by
  cases o <;> first | rfl | (exact absurd rfl (h _))
/-- what leaves the state alone, or makes something new -/
theorem still_ok {pg : Pg} {L : Lo} {fr : Fr} {ρ : Operand → Value} {o : Oper} {run : Run} {s s' : St} {v : EV} (h : (anyC pg o.op).go run fr s = .ok (v, s')) (hO : Ops L pg.gi fr ρ o.op) :
    (kindE o.op = 1 → s' = s ∧ PureAt L ρ o v) ∧ (kindE o.op = 2 → s' = s ∧ ReadAt e R L s ρ o v) ∧ (kindE o.op = 3 → FreshAt e R L s s' ρ o v) := by
  by_cases hc : ∃ c, o.op = .call c
  · obtain ⟨c, hc⟩ := hc
    have hk : kindE o.op = 1 ∨ kindE o.op = 2 → ∃ b, c.callee = .builtin b := by
      rw [hc]; simp only [kindE]
      cases c.callee <;> simp
    have key : (kindE o.op = 1 ∨ kindE o.op = 2) → s' = s ∧ (ReadAt e R L s ρ o v ∧ (kindE o.op = 1 → PureAt L ρ o v)) := fun hk' => by
      obtain ⟨b, hb⟩ := hk hk'
      have h := h
      rw [hc, show anyC pg (.call c) = builtC b c.argTypes.toList (c.args.toList.map (oqC pg.gi)) by simp [anyC, callC, hb]] at h
      exact built_op hc hb hk' h hO
    refine ⟨fun h1 => ⟨(key (.inl h1)).1, (key (.inl h1)).2.2 h1⟩, fun h2 => ⟨(key (.inr h2)).1, (key (.inr h2)).2.1⟩, fun h3 => ?_⟩
    rw [hc] at h3
    simp only [kindE] at h3
    cases hcc : c.callee with
    | builtin b => rw [hcc] at h3; cases b <;> cases h3
    | value f => rw [hcc] at h3; cases h3
    | invoke f m => rw [hcc] at h3; cases h3
  · have hc : ∀ c, o.op ≠ .call c := fun c h => hc ⟨c, h⟩
    rw [anyC_op hc] at h
    exact ⟨fun h1 => pure_op h1 hc h hO, fun h2 => read_op h2 hc h hO, fun h3 => fresh_op h3 h hO⟩
theorem any_ok {pg : Pg} (hpg : PgOk e R pg) {run : Run} (hr : SoundR e R pg run) {L : Lo} {fr : Fr} {ρ : Operand → Value} {o : Oper} {s s' : St} {v : EV} (hρ : ∀ f, ρ (.func f) = .func (.func f) #[] #[])
    (h : (anyC pg o.op).go run fr s = .ok (v, s')) (hO : Ops L pg.gi fr ρ o.op) (hg : Glo pg L) : ActAt e R L s s' ρ o v := by
  obtain ⟨k1, k2, k3⟩ := still_ok (e := e) (R := R) h hO
  have hk : kindE o.op = 1 ∨ kindE o.op = 2 ∨ kindE o.op = 3 ∨ kindE o.op = 0 := by
    cases o.op <;> simp only [kindE] <;> (first | simp | (split <;> simp))
    all_goals (split <;> simp)
  rcases hk with hk | hk | hk | hk
  · obtain ⟨rfl, h1⟩ := k1 hk; exact (PureAt.read h1).act
  · obtain ⟨rfl, h1⟩ := k2 hk; exact h1.act
  · exact (k3 hk).act
  · by_cases hc : ∃ c, o.op = .call c
    · obtain ⟨c, hc⟩ := hc
      rw [hc] at h
      have h : (callC pg c).go run fr s = .ok (v, s') := h
      by_cases hb : ∃ b, c.callee = .builtin b
      · obtain ⟨b, hb⟩ := hb
        rw [show callC pg c = builtC b c.argTypes.toList (c.args.toList.map (oqC pg.gi)) by simp [callC, hb]] at h
        rw [hc] at hk
        simp only [kindE, hb] at hk
        cases b <;> (first | (cases hk; done) | skip)
        case append => exact act_append hc hb h hO
        case copy => exact act_built hc hb (.inl rfl) h hO
        case clear => exact act_built hc hb (.inr (.inl rfl)) h hO
        case delete => exact act_built hc hb (.inr (.inr rfl)) h hO
        all_goals (exact absurd h (by unfold builtC; split <;> first | (rename_i heq _ _; cases heq; done) | (intro hh; cases hh; done) | simp_all))
      · exact call_ok hpg hr hc (fun b hb' => hb ⟨b, hb'⟩) hρ h hO hg
    · have hc : ∀ c, o.op ≠ .call c := fun c h => hc ⟨c, h⟩
      rw [anyC_op hc] at h
      exact act_op hk hc h hO
end Go.Proofs.YtiabhghlhnnnjaaGreatDoor.Ev
noncomputable section
namespace Go.Proofs.YtiabhghlhnnnjaaGreatDoor.Ev
open Go Sh Sl
variable {e : Env} {R : HProp}
theorem beqB_eq (a b : Bool) : beqB a b = (a == b) := by cases a <;> cases b <;> rfl
theorem grd_ok {ops : Array Oper} {o : Oper} {b : Bo} {run : Run} {fr : Fr} {s s' : St} {v : EV} {L : Lo} {tmps : Array Value} (h : (grdC ops b o.guard).go run fr s = .ok (v, s'))
    (hd : ∀ j want d, o.guard = some (j, want) → (ops[j]?).bind (·.dst) = some d → ∀ u, fr.get d = some u → ∃ x, tmps[d]? = some x ∧ Real L u x) :
    (Region.wanted o (yielded ops tmps) = true ∧ b.go run fr s = .ok (v, s')) ∨ (Region.wanted o (yielded ops tmps) = false ∧ v = .undef ∧ s' = s) := by
  cases hg : o.guard with
  | none => rw [hg] at h; exact .inl ⟨wanted_none hg _, h⟩
  | some jw =>
    obtain ⟨j, want⟩ := jw
    rw [hg] at h
    cases hj : (ops[j]?).bind (·.dst) with
    | none => rw [show grdC ops b (some (j, want)) = .bad 130 by simp [grdC, hj]] at h; cases h
    | some d =>
      rw [show grdC ops b (some (j, want)) = .mk fun run fr s => bo 131 (fr.get d) fun v => bo 132 (wantE want v) fun t => cnd t (b.go run fr s) (.ok (.undef, s)) by simp [grdC, hj]] at h
      obtain ⟨u, h1, h⟩ := bo_ok (show bo 131 (fr.get d) (fun v => bo 132 (wantE want v) fun t => cnd t (b.go run fr s) (.ok (.undef, s))) = .ok (v, s') from h)
      obtain ⟨t, h2, h⟩ := bo_ok h
      obtain ⟨x, h3, h4⟩ := hd j want d hg hj u h1
      have hw := wanted_some hg hj h3
      cases u <;> (first | (cases h2; done) | skip)
      case bool c =>
        have hx := h4.bool_inv
        subst hx
        have h2 : some (beqB c want) = some t := h2
        rw [beqB_eq] at h2
        cases h2
        simp only at hw
        cases hb : (c == want) with
        | true => rw [hb] at h hw; exact .inl ⟨hw, h⟩
        | false => rw [hb] at h hw; cases h; exact .inr ⟨hw, rfl, rfl⟩
      case undef =>
        cases h4
        cases h2
        cases h
        exact .inr ⟨hw, rfl, rfl⟩
theorem opFit_ok {n : Nat} {ops : Array Oper} {o : Oper} (h : opFit n ops o = true) : fitsC n o.dst = true ∧ (∀ q ∈ o.op.operands, qFit n q = true) ∧ ∀ j want d, o.guard = some (j, want) → (ops[j]?).bind (·.dst) = some d → d < n := by
  obtain ⟨h1, h⟩ := band_ok h
  obtain ⟨h2, h3⟩ := band_ok h
  refine ⟨h1, fun q hq => List.all_eq_true.1 h2 q (Array.mem_toList_iff.2 hq), fun j want d hg hd => ?_⟩
  rw [hg] at h3
  simp only [gFit, hd, blt_eq, decide_eq_true_eq] at h3
  exact h3
theorem eval_func (a : Act) (f : FuncId) : a.eval (.func f) = .func (.func f) #[] #[] := rfl
theorem sel_ok {o : Oper} (h : selB o = false) : isSelect o.op = false := by
  unfold selB at h
  split at h
  · cases h
  · exact h
theorem list_ok {pg : Pg} (hpg : PgOk e R pg) {run : Run} (hr : SoundR e R pg run) {ro : Option Nat} {n : Nat} {ops : Array Oper} {L0 : Lo} : ∀ (l : List Oper) (fr : Fr) (s : St) (fr' : Fr) (s' : St), (listC pg n ops l).go run fr s = .ok (fr', s') →
    (∀ o ∈ l, opFit n ops o = true ∧ selB o = false) → ∀ (L : Lo) (a : Act) (w : World), Lo.le L0 L → Glo pg L → FrOk L ro n fr a → Rep e R L s w → wpListIn (Fw ro) 0 P ops (PostE e R L0 ro n .nor fr' s') l a w
  | [], fr, s, fr', s', h, _, L, a, w, hL, hg, hA, hw => by
    cases h
    exact ⟨rfl, L, hL, hA, hw⟩
  | o :: l, fr, s, fr', s', h, hl, L, a, w, hL, hg, hA, hw => by
    obtain ⟨hfit, hsel⟩ := hl o List.mem_cons_self
    obtain ⟨hd, hq, hgd⟩ := opFit_ok hfit
    have hrest := fun o ho => hl o (List.mem_cons_of_mem _ ho)
    have e0 : listC pg n ops (o :: l) = thenC (grdC ops (anyC pg o.op) o.guard) o.dst (listC pg n ops l) := by
      show cnd (fitsC n o.dst) _ _ = _
      rw [hd]; rfl
    rw [e0] at h
    obtain ⟨⟨v, s1⟩, h1, h2⟩ := bd_ok (show bd ((grdC ops (anyC pg o.op) o.guard).go run fr s) (p2 fun v s' => (listC pg n ops l).go run (putF fr o.dst v) s') = .ok (fr', s') from h)
    have h2 : (listC pg n ops l).go run (putF fr o.dst v) s1 = .ok (fr', s') := h2
    unfold wpListIn
    rcases grd_ok (L := L) (tmps := a.tmps) h1 (fun j want d hg hj u hu => hA.at_ d u (hgd j want d hg hj) (fun h => h) hu) with ⟨hwt, h3⟩ | ⟨hwt, rfl, rfl⟩
    · rw [if_pos hwt]
      have hO : Ops L pg.gi fr a.eval o.op := fun q hq' u hu => opr_ok hA.at_ hg (hq q hq') hu
      refine upon_of_next (sel_ok hsel) (any_ok hpg hr (eval_func a) h3 hO hg w hw) fun y w' hy => ?_
      obtain ⟨M, hM, hv, hR⟩ := hy
      exact list_ok hpg hr l _ _ _ _ h2 hrest M _ _ (Lo.le_trans hL hM) (hg.sub hM.1) ((hA.le hM).put hd hv) hR
    · rw [if_neg (by rw [hwt]; simp)]
      exact ⟨fun _ _ => trivial, list_ok hpg hr l _ _ _ _ h2 hrest L _ _ hL hg (hA.put hd .undef) hw⟩
end Go.Proofs.YtiabhghlhnnnjaaGreatDoor.Ev
