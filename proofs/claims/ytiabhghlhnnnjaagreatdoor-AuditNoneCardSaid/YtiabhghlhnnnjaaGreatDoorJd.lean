/-
  THE EVALUATOR IS SOUND (part twenty-six: code).
-/
import Derived.Test.YtiabhghlhnnnjaaGreatDoorJc
set_option linter.unusedVariables false
set_option linter.unusedSimpArgs false
set_option maxRecDepth 100000
noncomputable section
namespace Go.Proofs.YtiabhghlhnnnjaaGreatDoor.Ev
open Go Sh Sl
variable {e : Env} {R : HProp}
/-! scopes and loops -/
/-- behind code in a scope -/
def ScQ (ro : Option Nat) (b : Code) (Q : Exit → Act → World → Prop) : Exit → Act → World → Prop
  | .goto l, a, w => match findLabel b l with
    | some rest => ScIn ro b rest Q a w
    | none => Q (.goto l) a w
  | ex, a, w => Q ex a w
theorem scIn_of_wp {ro : Option Nat} {b c : Code} {Q : Exit → Act → World → Prop} {a : Act} {w : World} (h : c.wpIn (Fw ro) 0 P (ScQ ro b Q) a w) : ScIn ro b c Q a w := by
  intro fb k cs hro hb hr
  obtain ⟨ex, a₁, w₁, hq, harr⟩ := h fb (.inScope b :: k) cs hro hb hr
  have hx : ∀ id, exitTo id (.inScope b :: k) = exitTo id k := fun id => by simp [exitTo]
  cases ex with
  | normal => exact ⟨.normal, a₁, w₁, hq, StepsIn.trans harr (.one (fenced_calm hb hr rfl) stepR_inScope)⟩
  | exit id => exact ⟨.exit id, a₁, w₁, hq, fun k' hk => harr.1 k' (by rw [hx]; exact hk), fun hr' hk => harr.2 hr' (by rw [hx]; exact hk)⟩
  | goto l =>
    simp only [ScQ] at hq
    cases hf : findLabel b l with
    | some rest =>
      rw [hf] at hq
      have hg : gotoIn l (.inScope b :: k) = some (.code rest :: .inScope b :: k) := by simp [gotoIn, hf]
      obtain ⟨e₂, a₂, w₂, hq₂, harr₂⟩ := hq fb k cs hro hb hr
      exact ⟨e₂, a₂, w₂, hq₂, .of_steps (harr.1 _ hg) harr₂⟩
    | none =>
      rw [hf] at hq
      have hg : gotoIn l (.inScope b :: k) = gotoIn l k := by simp [gotoIn, hf]
      exact ⟨.goto l, a₁, w₁, hq, fun k' hk => harr.1 k' (by rw [hg]; exact hk), fun hr' hk => harr.2 hr' (by rw [hg]; exact hk)⟩
  | ret => exact ⟨_, a₁, w₁, hq, harr⟩
  | panic ch => exact ⟨_, a₁, w₁, hq, harr⟩
  | outgrown => exact ⟨_, a₁, w₁, hq, harr⟩
theorem wpIn_scope_of {ro : Option Nat} {c : Code} {Q : Exit → Act → World → Prop} {a : Act} {w : World} (h : ScIn ro c c Q a w) : (Code.scope c).wpIn (Fw ro) 0 P Q a w := by
  intro fb k cs hro hb hr
  obtain ⟨ex, a₁, w₁, hq, harr⟩ := h fb k cs hro hb hr
  exact ⟨ex, a₁, w₁, hq, .of_steps (.one (fenced_calm hb hr rfl) stepR_scope) harr⟩
theorem lpIn_of_wp {ro : Option Nat} {c : Code} {Q : Exit → Act → World → Prop} {a : Act} {w : World} (h : c.wpIn (Fw ro) 0 P (Exit.then (fun a' w' => LpIn ro c Q a' w') Q) a w) : LpIn ro c Q a w := by
  intro fb k cs hro hb hr
  obtain ⟨ex, a₁, w₁, hq, harr⟩ := h fb (.inLoop c :: k) cs hro hb hr
  cases ex with
  | normal =>
    obtain ⟨e₂, a₂, w₂, hq₂, harr₂⟩ := hq fb k cs hro hb hr
    exact ⟨e₂, a₂, w₂, hq₂, .of_steps (StepsIn.trans harr (.one (fenced_calm hb hr rfl) stepR_inLoop)) harr₂⟩
  | exit id => exact ⟨_, a₁, w₁, hq, .pass (x := .inLoop c) rfl (fun _ _ => .inl (by simp)) harr⟩
  | goto l => exact ⟨_, a₁, w₁, hq, .pass (x := .inLoop c) rfl (fun _ _ => .inl (by simp)) harr⟩
  | ret => exact ⟨_, a₁, w₁, hq, .pass (x := .inLoop c) rfl (fun _ _ => .inl (by simp)) harr⟩
  | panic ch => exact ⟨_, a₁, w₁, hq, .pass (x := .inLoop c) rfl (fun _ _ => .inl (by simp)) harr⟩
  | outgrown => exact ⟨_, a₁, w₁, hq, .pass (x := .inLoop c) rfl (fun _ _ => .inl (by simp)) harr⟩
theorem wpIn_loop_of {ro : Option Nat} {c : Code} {Q : Exit → Act → World → Prop} {a : Act} {w : World} (h : LpIn ro c Q a w) : (Code.loop c).wpIn (Fw ro) 0 P Q a w := by
  intro fb k cs hro hb hr
  obtain ⟨ex, a₁, w₁, hq, harr⟩ := h fb k cs hro hb hr
  exact ⟨ex, a₁, w₁, hq, .of_steps (.one (fenced_calm hb hr rfl) stepR_loop) harr⟩
theorem ScIn.mono {ro : Option Nat} {b c : Code} {Q Q' : Exit → Act → World → Prop} {a : Act} {w : World} (h : ScIn ro b c Q a w) (hq : ∀ ex a w, Q ex a w → Q' ex a w) : ScIn ro b c Q' a w := fun fb k cs h1 h2 h3 => by
  obtain ⟨ex, a', w', k1, k2⟩ := h fb k cs h1 h2 h3
  exact ⟨ex, a', w', hq _ _ _ k1, k2⟩
theorem LpIn.mono {ro : Option Nat} {c : Code} {Q Q' : Exit → Act → World → Prop} {a : Act} {w : World} (h : LpIn ro c Q a w) (hq : ∀ ex a w, Q ex a w → Q' ex a w) : LpIn ro c Q' a w := fun fb k cs h1 h2 h3 => by
  obtain ⟨ex, a', w', k1, k2⟩ := h fb k cs h1 h2 h3
  exact ⟨ex, a', w', hq _ _ _ k1, k2⟩
section
variable {pg : Pg} {run : Run} {ro : Option Nat} {n : Nat}
theorem PostE.le {L M : Lo} (hl : Lo.le L M) {x : Ex} {fr : Fr} {s : St} {ex : Exit} {a : Act} {w : World} (h : PostE e R M ro n x fr s ex a w) : PostE e R L ro n x fr s ex a w := by
  obtain ⟨h1, N, h2, h3⟩ := h
  exact ⟨h1, N, Lo.le_trans hl h2, h3⟩
/-- what the evaluator says of a code -/
def CodeOk (e : Env) (R : HProp) (pg : Pg) (run : Run) (n : Nat) (c : Code) : Prop := ∀ (fr : Fr) (s : St) (x : Ex) (fr' : Fr) (s' : St), (codeC pg n c).go run fr s = .ok (x, fr', s') →
  ∀ (ro : Option Nat) (L : Lo) (a : Act) (w : World), Glo pg L → FrOk L ro n fr a → Rep e R L s w → c.wpIn (Fw ro) 0 P (PostE e R L ro n x fr' s') a w
/-- behind code in a scope -/
theorem scp_ok (hr : SoundR e R pg run) {b : Code} {L M : Lo} {x x1 : Ex} {fr1 fr' : Fr} {s1 s' : St} (h : scpE n b run (x1, fr1, s1) = .ok (x, fr', s')) (hle : Lo.le L M) (hg : Glo pg M) {ex : Exit} {a : Act} {w : World} (hex : ex = exX x1) (hA : FrOk M ro n fr1 a) (hw : Rep e R M s1 w) :
    ScQ ro b (PostE e R L ro n x fr' s') ex a w := by
  subst hex
  cases x1 with
  | nor => cases h; exact ⟨rfl, M, hle, hA, hw⟩
  | exit i => cases h; exact ⟨rfl, M, hle, hA, hw⟩
  | ret => cases h; exact ⟨rfl, M, hle, hA, hw⟩
  | goto l =>
    have h : @Option.rec Code (fun _ => Cr) (.ok (.goto l, fr1, s1)) (fun rest => p2 (run n (some b) rest) (fr1, s1)) (findLabel b l) = .ok (x, fr', s') := h
    simp only [exX, ScQ]
    cases hf : findLabel b l with
    | none => rw [hf] at h; cases h; exact ⟨rfl, M, hle, hA, hw⟩
    | some rest =>
      rw [hf] at h
      have h : run n (some b) rest fr1 s1 = .ok (x, fr', s') := h
      exact ScIn.mono (show ScIn ro b rest _ a w from hr n (some b) rest fr1 s1 x fr' s' h ro M a w hg hA hw) fun ex a w hp => hp.le hle
theorem range_of (hpg : PgOk e R pg) (hr : SoundR e R pg run) {g : Operand} {ps : Array Tmp} {asg body : Code} : CodeOk e R pg run n (.rangeFunc g ps asg body) := by
  intro fr s x fr' s' h ro L a w hglo hA hw
  have e0 : codeC pg n (.rangeFunc g ps asg body) = cnd (bnot (band (qFit n g) (ps.toList.all fun p => blt p n))) (.mk fun _ _ _ => .no 157 []) (.mk fun run fr s => cnd (fr.get n).isNone (bo 155 ((oqC pg.gi g).get fr) fun gv => bo 156 gv.fn? (p2 fun f => p2 fun first cap =>
      cnd (band (pg.xt f).isNone ((fr.set .undef n).get n).isSome) (bd (callE pg run f (app first (.yld (Nat.succ s.num) :: cap)) ((s.new .dfr).new (.lop 0 none n ps.toList asg body (fr.set .undef n)))) (p2 fun _ s' => endL n s.num (Nat.succ s.num) fr s')) (.no 159 []))) (.no 157 [])) := rfl
  rw [e0] at h
  cases hb : band (qFit n g) (ps.toList.all fun p => blt p n) with
  | false => rw [hb] at h; cases h
  | true =>
  rw [hb] at h
  obtain ⟨hq, hps⟩ := band_ok hb
  have hlt : ∀ t ∈ ps.toList, t < n := fun t ht => by
    have := List.all_eq_true.1 hps t ht
    rw [blt_eq] at this; simpa using this
  obtain ⟨hnone, h⟩ := cnd_ok (show cnd (fr.get n).isNone (bo 155 ((oqC pg.gi g).get fr) fun gv => bo 156 gv.fn? (p2 fun f => p2 fun first cap =>
      cnd (band (pg.xt f).isNone ((fr.set .undef n).get n).isSome) (bd (callE pg run f (app first (.yld (Nat.succ s.num) :: cap)) ((s.new .dfr).new (.lop 0 none n ps.toList asg body (fr.set .undef n)))) (p2 fun _ s' => endL n s.num (Nat.succ s.num) fr s')) (.no 159 []))) (.no 157 []) = .ok (x, fr', s') from h)
  obtain ⟨gv, h1, h⟩ := bo_ok h
  obtain ⟨⟨f, first, cap⟩, h2, h⟩ := bo_ok h
  have hgv := fn?_ok h2
  subst hgv
  obtain ⟨hc, h⟩ := cnd_ok (show cnd (band (pg.xt f).isNone ((fr.set .undef n).get n).isSome) (bd (callE pg run f (app first (.yld (Nat.succ s.num) :: cap)) ((s.new .dfr).new (.lop 0 none n ps.toList asg body (fr.set .undef n)))) (p2 fun _ s' => endL n s.num (Nat.succ s.num) fr s')) (.no 159 []) = .ok (x, fr', s') from h)
  obtain ⟨hxt, hmk⟩ := band_ok hc
  obtain ⟨⟨v, s2⟩, h3, h⟩ := bd_ok h
  have hendl : endL n s.num (Nat.succ s.num) fr s2 = .ok (x, fr', s') := h
  have hno : fr.get n = none := by simpa using hnone
  have hxt : pg.xt f = none := by simpa using hxt
  have hund : (fr.set .undef n).get n = some .undef := by
    cases hh : (fr.set .undef n).get n with
    | none => rw [hh] at hmk; cases hmk
    | some u => rw [Tr.get_set_same .undef u fr n hh]
  -- it is no round
  have hmark : a.defers = [] ∧ ro = none := by
    rcases hA.mark with ⟨_, h1, h2⟩ | ⟨d, off, p, h1, _⟩ | ⟨h1, _⟩
    · exact ⟨h1, h2⟩
    · rw [hno] at h1; cases h1
    · rw [hno] at h1; cases h1
  obtain ⟨hd0, rfl⟩ := hmark
  have hgval := opr_ok hA.at_ hglo hq h1
  obtain ⟨fs, cs, k1, k2, hgv⟩ := hgval.fn_inv
  obtain ⟨hcall, hcalls⟩ := callE_fun hpg hr hxt h3
  refine wpIn_rangeFunc fun fn _ => ?_
  refine ⟨w.heap.size + 1, [{ target := .collected w.heap.size, args := #[] }], ((w.alloc (.deferred (some []))).alloc (.loop { state := .ready, pending := none, fn, tmps := a.tmps, params := ps, assign := asg, body := body, defers := w.heap.size })), { target := .fn (.func f) cs.toArray, args := fs.toArray ++ #[.func (.yield (w.heap.size + 1)) #[] #[]] }, ((w.alloc (.deferred (some []))).alloc (.loop { state := .ready, pending := none, fn, tmps := a.tmps, params := ps, assign := asg, body := body, defers := w.heap.size })), f,
    fs.toArray ++ #[(.func (.yield (w.heap.size + 1)) #[] #[] : Value)] ++ cs.toArray, ((w.alloc (.deferred (some []))).alloc (.loop { state := .ready, pending := none, fn, tmps := a.tmps, params := ps, assign := asg, body := body, defers := w.heap.size })), run_enterLoop_outer fn a.tmps ps asg body, ?_, fun _ _ => trivial, (by exact callFunc_run hcall _ _), Fw.dp, callsFw ?_⟩
  · have e2 : (#[Operand.const (.func (.yield (w.heap.size + 1)) #[] #[])]).map a.eval = #[.func (.yield (w.heap.size + 1)) #[] #[]] := by simp [Act.eval]
    simp only [resolve, e2, hgv]
    rfl
  · -- the loop's record
    have hn0 := hw.dom.none.1
    obtain ⟨b1, b2⟩ := hw.bear (o := .dfr) (ob := .deferred (some [])) fun g hg => hg
    have hA1 : AgrE (L.up s.num ⟨w.heap.size, 0, 0, 0⟩) (fun _ => False) n (fr.set .undef n) a.tmps := fun t u ht hf hu => by
      rw [Tr.get_set_other .undef fr n t (Nat.ne_of_lt ht)] at hu
      exact (hA.at_.le b1) t u ht hf hu
    have hsz : (w.alloc (.deferred (some []))).heap.size = w.heap.size + 1 := World.size_alloc ..
    have hnum : (s.new EO.dfr).num = s.num + 1 := St.new_num _ _
    obtain ⟨b3, b4⟩ := b2.bear (o := .lop 0 none n ps.toList asg body (fr.set .undef n)) (ob := .loop { state := .ready, pending := none, fn, tmps := a.tmps, params := ps, assign := asg, body := body, defers := w.heap.size }) fun g hg =>
      ⟨_, hg, rfl, rfl, by simp, rfl, rfl, hA.size, ⟨hund, hlt⟩, hA1.le (Lo.le_up _ b2.dom.none.1)⟩
    rw [hsz, hnum] at b3 b4
    have hle := Lo.le_trans b1 b3
    have hargs : Reals ((L.up s.num ⟨w.heap.size, 0, 0, 0⟩).up (s.num + 1) ⟨w.heap.size + 1, 0, 0, 0⟩) (app first (.yld (Nat.succ s.num) :: cap)) (fs ++ (.func (.yield (w.heap.size + 1)) #[] #[] :: cs)) := by
      rw [app_eq]
      exact (k1.le hle).append (.cons (.yld (p := ⟨w.heap.size + 1, 0, 0, 0⟩) (Lo.up_same _ _ _)) (k2.le hle))
    have harr : fs.toArray ++ #[(.func (.yield (w.heap.size + 1)) #[] #[] : Value)] ++ cs.toArray = (fs ++ (.func (.yield (w.heap.size + 1)) #[] #[] :: cs)).toArray := by simp
    rw [harr]
    refine Calls.mono (hcalls _ _ _ (hglo.sub hle.1) hargs b4) ?_
    rintro en w3 ⟨y, rfl, M, hM, hv, hR⟩
    -- behind it
    obtain ⟨o, g1, g2⟩ := bo_ok (show bo 160 (s2.obj (Nat.succ s.num)) (fun o => bo 161 o.lop? fun p => cnd (Nat.beq p.st 1) (.no 158 [])
      (cnd ((fr.set (.ptr s.num 0) n).get n).isSome (.ok (@Option.rec Ex (fun _ => Ex) .nor (fun e => e) p.pend, fr.set (.ptr s.num 0) n, s2.put (Nat.succ s.num) (.lop 3 p.pend p.n p.ps p.asg p.body p.fr))) (.no 158 []))) = .ok (x, fr', s') from hendl)
    obtain ⟨q, g3, g4⟩ := bo_ok g2
    have ho := lop?_ok g3
    subst ho
    cases hst : Nat.beq q.st 1 with
    | true => rw [hst] at g4; cases g4
    | false =>
    rw [hst, cnd_false] at g4
    obtain ⟨g5, g6⟩ := cnd_ok g4
    have hLl : M (s.num + 1) = some ⟨w.heap.size + 1, 0, 0, 0⟩ := hM.1 _ _ (Lo.up_same _ _ _)
    have hLd : M s.num = some ⟨w.heap.size, 0, 0, 0⟩ := hM.1 _ _ (by rw [Lo.up_other _ _ (by omega)]; exact Lo.up_same _ _ _)
    obtain ⟨r, g7, g8⟩ := hR.lop hLl g1
    have hbusy : r.state ≠ .busy := fun hh => by
      have := g8.state
      rw [hh] at this
      rw [← this] at hst; cases hst
    have hR2 := hR.lopPut (q' := ⟨3, q.pend, q.n, q.ps, q.asg, q.body, q.fr⟩) (r' := { r with state := .exhausted }) hLl g1 g7 ⟨rfl, g8.pending, g8.params, g8.assign, g8.body, g8.size, g8.mark, g8.lt, g8.at_⟩
    have hptr : (fr.set (.ptr s.num 0) n).get n = some (.ptr s.num 0) := by
      cases hh : (fr.set (.ptr s.num 0) n).get n with
      | none => rw [hh] at g5; cases g5
      | some u => rw [Tr.get_set_same _ u fr n hh]
    have hLM : Lo.le L M := Lo.le_trans hle hM
    have hA' : FrOk M none n (fr.set (.ptr s.num 0) n) { a with defers := [{ target := .collected w.heap.size, args := #[] }] ++ a.defers } := by
      refine ⟨hA.size, fun t u ht hf hu => ?_, .inr (.inl ⟨s.num, 0, _, hptr, hLd, by simp [hd0], rfl⟩)⟩
      rw [Tr.get_set_other _ fr n t (Nat.ne_of_lt ht)] at hu
      exact (hA.at_.le hLM) t u ht hf hu
    refine ⟨q.pend.bind exC, _, by rw [← g8.pending]; exact run_endLoop g7 hbusy, ?_⟩
    cases g6
    have hpost : ∀ y : Ex, (@Option.rec Ex (fun _ => Ex) .nor (fun e => e) q.pend) = y → PostE e R L none n (@Option.rec Ex (fun _ => Ex) .nor (fun e => e) q.pend) (fr.set (.ptr s.num 0) n) (s2.put (Nat.succ s.num) (.lop 3 q.pend q.n q.ps q.asg q.body q.fr)) (exX y)
        { a with defers := [{ target := .collected w.heap.size, args := #[] }] ++ a.defers } (w3.putObj (w.heap.size + 1) (.loop { r with state := .exhausted })) := fun y hy => ⟨by rw [hy], M, hLM, hA', hR2⟩
    cases hpd : q.pend with
    | none => rw [hpd] at hpost; exact hpost .nor rfl
    | some y =>
      rw [hpd] at hpost
      cases y with
      | nor => exact hpost .nor rfl
      | exit i => exact wpIn_exit (hpost (.exit i) rfl)
      | goto i => exact wpIn_goto (hpost (.goto i) rfl)
      | ret => exact wpIn_ret (hpost .ret rfl)
theorem code_ok (hpg : PgOk e R pg) (hr : SoundR e R pg run) (hm : P.follows .mixedOrders = true) : ∀ c : Code, CodeOk e R pg run n c ∧ (∀ c', c = .loop c' → ∀ (fr : Fr) (s : St) (x : Ex) (fr' : Fr) (s' : St), (codeC pg n c).go run fr s = .ok (x, fr', s') →
    ∀ (ro : Option Nat) (L : Lo) (a : Act) (w : World), Glo pg L → FrOk L ro n fr a → Rep e R L s w → LpIn ro c' (PostE e R L ro n x fr' s') a w) := by
  intro c
  induction c with
  | skip => exact ⟨fun fr s x fr' s' h ro L a w hg hA hw => (by cases h; exact wpIn_skip ⟨rfl, L, Lo.le_refl L, hA, hw⟩), fun c' h => by cases h⟩
  | label l => exact ⟨fun fr s x fr' s' h ro L a w hg hA hw => (by cases h; exact wpIn_label ⟨rfl, L, Lo.le_refl L, hA, hw⟩), fun c' h => by cases h⟩
  | exit id => exact ⟨fun fr s x fr' s' h ro L a w hg hA hw => (by cases h; exact wpIn_exit ⟨rfl, L, Lo.le_refl L, hA, hw⟩), fun c' h => by cases h⟩
  | goto l => exact ⟨fun fr s x fr' s' h ro L a w hg hA hw => (by cases h; exact wpIn_goto ⟨rfl, L, Lo.le_refl L, hA, hw⟩), fun c' h => by cases h⟩
  | ret => exact ⟨fun fr s x fr' s' h ro L a w hg hA hw => (by cases h; exact wpIn_ret ⟨rfl, L, Lo.le_refl L, hA, hw⟩), fun c' h => by cases h⟩
  | refuse why => exact ⟨fun fr s x fr' s' h ro L a w hg hA hw => (by cases h), fun c' h => by cases h⟩
  | region id ops d =>
    refine ⟨fun fr s x fr' s' h ro L a w hg hA hw => ?_, fun c' h => by cases h⟩
    obtain ⟨⟨fr1, s1⟩, h1, h2⟩ := bd_ok (show bd ((regC pg n ops d).go run fr s) (p2 fun fr' s' => .ok (.nor, fr', s')) = .ok (x, fr', s') from h)
    cases h2
    exact reg_ok hpg hr hm h1 hg hA hw
  | seq b c ihb ihc =>
    refine ⟨fun fr s x fr' s' h ro L a w hg hA hw => ?_, fun c' h => by cases h⟩
    obtain ⟨⟨x1, fr1, s1⟩, h1, h2⟩ := bd_ok (show bd ((codeC pg n b).go run fr s) (seqE (codeC pg n c) run) = .ok (x, fr', s') from h)
    refine wpIn_seq (wpIn_mono (ihb.1 _ _ _ _ _ h1 ro L a w hg hA hw) fun ex a w hp => ?_)
    obtain ⟨hex, M, hM, hA1, hR1⟩ := hp
    subst hex
    cases x1 with
    | nor => exact wpIn_mono (ihc.1 _ _ _ _ _ (show (codeC pg n c).go run fr1 s1 = .ok (x, fr', s') from h2) ro M a w (hg.sub hM.1) hA1 hR1) fun ex a w hp => hp.le hM
    | exit i => cases h2; exact ⟨rfl, M, hM, hA1, hR1⟩
    | goto i => cases h2; exact ⟨rfl, M, hM, hA1, hR1⟩
    | ret => cases h2; exact ⟨rfl, M, hM, hA1, hR1⟩
  | cond q b c ihb ihc =>
    refine ⟨fun fr s x fr' s' h ro L a w hg hA hw => ?_, fun c' h => by cases h⟩
    have e0 : codeC pg n (.cond q b c) = cnd (bnot (qFit n q)) (.mk fun _ _ _ => .no 150 []) (.mk fun run fr s => bo 150 ((oqC pg.gi q).get fr) fun v => bo 151 v.bool? fun t => cnd t ((codeC pg n b).go run fr s) ((codeC pg n c).go run fr s)) := rfl
    rw [e0] at h
    cases hq : qFit n q with
    | false => rw [hq] at h; cases h
    | true =>
      rw [hq] at h
      obtain ⟨v, h1, h⟩ := bo_ok (show bo 150 ((oqC pg.gi q).get fr) (fun v => bo 151 v.bool? fun t => cnd t ((codeC pg n b).go run fr s) ((codeC pg n c).go run fr s)) = .ok (x, fr', s') from h)
      obtain ⟨t, h2, h⟩ := bo_ok h
      have := bool?_ok h2
      subst this
      refine wpIn_cond (t := t) ((opr_ok hA.at_ hg hq h1).bool_inv) ?_
      cases t with
      | true => exact ihb.1 _ _ _ _ _ h ro L a w hg hA hw
      | false => exact ihc.1 _ _ _ _ _ h ro L a w hg hA hw
  | block id c ih =>
    refine ⟨fun fr s x fr' s' h ro L a w hg hA hw => ?_, fun c' h => by cases h⟩
    obtain ⟨⟨x1, fr1, s1⟩, h1, h2⟩ := bd_ok (show bd ((codeC pg n c).go run fr s) (blkE id) = .ok (x, fr', s') from h)
    refine wpIn_block (wpIn_mono (ih.1 _ _ _ _ _ h1 ro L a w hg hA hw) fun ex a w hp => ?_)
    obtain ⟨hex, M, hM, hA1, hR1⟩ := hp
    subst hex
    cases x1 with
    | nor => cases h2; exact ⟨rfl, M, hM, hA1, hR1⟩
    | goto i => cases h2; exact ⟨rfl, M, hM, hA1, hR1⟩
    | ret => cases h2; exact ⟨rfl, M, hM, hA1, hR1⟩
    | exit i =>
      have h2 : cnd (Nat.beq i id) (.ok (.nor, fr1, s1)) (.ok (.exit i, fr1, s1)) = (.ok (x, fr', s') : Cr) := h2
      simp only [exX, Exit.inBlock]
      cases hb : Nat.beq i id with
      | true => rw [hb] at h2; cases h2; rw [if_pos (Nat.eq_of_beq_eq_true hb)]; exact ⟨rfl, M, hM, hA1, hR1⟩
      | false => rw [hb] at h2; cases h2; rw [if_neg (Nat.ne_of_beq_eq_false hb)]; exact ⟨rfl, M, hM, hA1, hR1⟩
  | scope c ih =>
    refine ⟨fun fr s x fr' s' h ro L a w hg hA hw => ?_, fun c' h => by cases h⟩
    obtain ⟨⟨x1, fr1, s1⟩, h1, h2⟩ := bd_ok (show bd ((codeC pg n c).go run fr s) (scpE n c run) = .ok (x, fr', s') from h)
    refine wpIn_scope_of (scIn_of_wp (wpIn_mono (ih.1 _ _ _ _ _ h1 ro L a w hg hA hw) fun ex a w hp => ?_))
    obtain ⟨hex, M, hM, hA1, hR1⟩ := hp
    exact scp_ok hr h2 hM (hg.sub hM.1) hex hA1 hR1
  | rangeFunc g ps asg body _ _ => exact ⟨range_of hpg hr, fun c' h => by cases h⟩
  | loop c ih =>
    have key : ∀ (fr : Fr) (s : St) (x : Ex) (fr' : Fr) (s' : St), (codeC pg n (.loop c)).go run fr s = .ok (x, fr', s') → ∀ (ro : Option Nat) (L : Lo) (a : Act) (w : World), Glo pg L → FrOk L ro n fr a → Rep e R L s w → LpIn ro c (PostE e R L ro n x fr' s') a w := by
      intro fr s x fr' s' h ro L a w hg hA hw
      obtain ⟨⟨x1, fr1, s1⟩, h1, h2⟩ := bd_ok (show bd ((codeC pg n c).go run fr s) (lpE n c run) = .ok (x, fr', s') from h)
      refine lpIn_of_wp (wpIn_mono (ih.1 _ _ _ _ _ h1 ro L a w hg hA hw) fun ex a w hp => ?_)
      obtain ⟨hex, M, hM, hA1, hR1⟩ := hp
      subst hex
      cases x1 with
      | nor =>
        have h2 : run n none (.loop c) fr1 s1 = .ok (x, fr', s') := h2
        exact LpIn.mono ((show _ ∧ _ from hr n none (.loop c) fr1 s1 x fr' s' h2 ro M a w (hg.sub hM.1) hA1 hR1).2 c rfl) fun ex a w hp => hp.le hM
      | exit i => cases h2; exact ⟨rfl, M, hM, hA1, hR1⟩
      | goto i => cases h2; exact ⟨rfl, M, hM, hA1, hR1⟩
      | ret => cases h2; exact ⟨rfl, M, hM, hA1, hR1⟩
    exact ⟨fun fr s x fr' s' h ro L a w hg hA hw => wpIn_loop_of (key _ _ _ _ _ h ro L a w hg hA hw), fun c' hc => by cases hc; exact key⟩
end
/-- THE EVALUATOR IS SOUND. -/
theorem run_ok {pg : Pg} (hpg : PgOk e R pg) (hm : P.follows .mixedOrders = true) : ∀ fuel, SoundR e R pg (runE pg fuel)
  | 0 => fun n sc c fr s x fr' s' h => by cases h
  | fuel + 1 => fun n sc c fr s x fr' s' h ro L a w hg hA hw => by
    have ih := run_ok hpg hm fuel
    cases sc with
    | none =>
      have h : (codeC pg n c).go (runE pg fuel) fr s = .ok (x, fr', s') := h
      exact ⟨(code_ok hpg ih hm c).1 _ _ _ _ _ h ro L a w hg hA hw, fun c' hc => (code_ok hpg ih hm c).2 c' hc _ _ _ _ _ h ro L a w hg hA hw⟩
    | some b =>
      obtain ⟨⟨x1, fr1, s1⟩, h1, h2⟩ := bd_ok (show bd ((codeC pg n c).go (runE pg fuel) fr s) (scpE n b (runE pg fuel)) = .ok (x, fr', s') from h)
      refine scIn_of_wp (wpIn_mono ((code_ok hpg ih hm c).1 _ _ _ _ _ h1 ro L a w hg hA hw) fun ex a w hp => ?_)
      obtain ⟨hex, M, hM, hA1, hR1⟩ := hp
      exact scp_ok ih h2 hM (hg.sub hM.1) hex hA1 hR1
theorem main_ok {pg : Pg} (hpg : PgOk e R pg) (hm : P.follows .mixedOrders = true) {fuel : Nat} {f : FuncId} {s s' : St} {v : EV} (hxt : pg.xt f = none) (h : main pg fuel f s = .ok (v, s')) {L : Lo} {w : World} (hg : Glo pg L) (hw : Rep e R L s w) :
    Calls P f #[] w fun en w' => ∃ y, en = .returned y ∧ ∃ M, Lo.le L M ∧ Real M v y ∧ Rep e R M s' w' := (callE_fun hpg (run_ok hpg hm fuel) hxt h).2 L [] w hg .nil hw
end Go.Proofs.YtiabhghlhnnnjaaGreatDoor.Ev
