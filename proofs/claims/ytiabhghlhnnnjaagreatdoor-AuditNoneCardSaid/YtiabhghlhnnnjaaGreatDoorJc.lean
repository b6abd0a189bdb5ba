/-
  THE EVALUATOR IS SOUND (regions that draw their order).
-/
import Derived.Test.YtiabhghlhnnnjaaGreatDoorEu
set_option linter.unusedVariables false
set_option linter.unusedSimpArgs false
set_option maxRecDepth 100000
noncomputable section
namespace Go.Proofs.YtiabhghlhnnnjaaGreatDoor.Ev
open Go Sh Sl
variable {e : Env} {R : HProp}
def dstOf (ops : Array Oper) (i : Nat) : Option Tmp := (ops[i]?).bind (·.dst)
def gB (pg : Pg) (ops : Array Oper) (o : Oper) : Bo := grdC ops (anyC pg o.op) o.guard
/-- an operation that the evaluator has done and the run has not: its number, the frame it was done in, what it yielded, what had been done, what it is to bring forth -/
structure Pe where
  i : Nat
  o : Oper
  fr : Fr
  v : EV
  E : List (Nat × EV)
  u : Option (Nat × EO)
/-- what is fixed of a region -/
structure Rg where
  pg : Pg
  run : Run
  ro : Option Nat
  n : Nat
  ops : Array Oper
  fr0 : Fr
  L0 : Lo
def keys (E : List (Nat × EV)) : List Nat := E.map (·.1)
theorem mem_keys {E : List (Nat × EV)} {i : Nat} : i ∈ keys E ↔ ∃ v, (i, v) ∈ E := by
  unfold keys
  rw [List.mem_map]
  exact ⟨fun ⟨⟨j, v⟩, h1, h2⟩ => ⟨v, by cases h2; exact h1⟩, fun ⟨v, h⟩ => ⟨(i, v), h, rfl⟩⟩
/-- a frame holds what has been done -/
def FrE (g : Rg) (f : Fr) (E : List (Nat × EV)) : Prop := ∀ t v, t < g.n → f.get t = some v → (∃ i, (i, v) ∈ E ∧ dstOf g.ops i = some t) ∨ ((∀ i, i ∈ keys E → dstOf g.ops i ≠ some t) ∧ g.fr0.get t = some v)
theorem FrE.put {g : Rg} {f : Fr} {E : List (Nat × EV)} (h : FrE g f E) {i : Nat} {o : Oper} (ho : g.ops[i]? = some o) (v : EV) : FrE g (putF f o.dst v) ((i, v) :: E) := by
  have hd : dstOf g.ops i = o.dst := by unfold dstOf; rw [ho]; rfl
  have old : ∀ t u, t < g.n → f.get t = some u → o.dst ≠ some t → (∃ j, (j, u) ∈ (i, v) :: E ∧ dstOf g.ops j = some t) ∨ ((∀ j, j ∈ keys ((i, v) :: E) → dstOf g.ops j ≠ some t) ∧ g.fr0.get t = some u) := fun t u ht hu hne => by
    rcases h t u ht hu with ⟨j, h1, h2⟩ | ⟨h1, h2⟩
    · exact .inl ⟨j, List.mem_cons_of_mem _ h1, h2⟩
    · refine .inr ⟨fun j hj => ?_, h2⟩
      rcases List.mem_cons.1 hj with rfl | hj
      · rw [hd]; exact hne
      · exact h1 j hj
  intro t u ht hu
  cases hdo : o.dst with
  | none => rw [hdo] at hu; exact old t u ht hu (by rw [hdo]; simp)
  | some d =>
    rw [hdo] at hu
    by_cases e1 : t = d
    · subst e1
      have := Tr.get_set_same v u f t hu
      subst this
      exact .inl ⟨i, List.mem_cons_self, by rw [hd, hdo]⟩
    · have hu : (f.set v d).get t = some u := hu
      rw [Tr.get_set_other v f d t e1] at hu
      exact old t u ht hu (by rw [hdo]; simp [Ne.symm e1])
/-- it can still be done, and yields what it yielded -/
structure PeOk (g : Rg) (L : Lo) (E : List (Nat × EV)) (s : St) (pl : List (Nat × Pn)) (listed : Array Bool) (pe : Pe) : Prop where
  op : g.ops[pe.i]? = some pe.o
  un : listed[pe.i]? = some false
  mem : (pe.i, pe.v) ∈ E
  sub : ∀ x ∈ pe.E, x ∈ E
  own : pe.i ∉ keys pe.E
  len : pe.E.length < E.length
  frm : FrE g pe.fr pe.E
  aft : Aft (keys pe.E) pe.o
  free : Free g.ops (keys pe.E) pe.i pe.o
  ev : (kindE pe.o.op = 1 ∧ pe.u = none ∧ ∃ s0 s1, (gB g.pg g.ops pe.o).go g.run pe.fr s0 = .ok (pe.v, s1)) ∨
    (kindE pe.o.op = 2 ∧ pe.u = none ∧ (∃ s1, (gB g.pg g.ops pe.o).go g.run pe.fr s = .ok (pe.v, s1)) ∧ (pe.i, askE (gB g.pg g.ops pe.o) g.run pe.fr pe.v) ∈ pl) ∨
    (kindE pe.o.op = 3 ∧ ∃ s0 s1, (gB g.pg g.ops pe.o).go g.run pe.fr s0 = .ok (pe.v, s1) ∧ ((s1.num = s0.num ∧ pe.u = none) ∨
      (s1.num ≠ s0.num ∧ ∃ ob, s1.obj s0.num = some ob ∧ pe.u = some (s0.num, ob) ∧ L.u s0.num = some ob ∧ g.L0.u s0.num = none)))
structure DInv (e : Env) (R : HProp) (g : Rg) (L : Lo) (E : List (Nat × EV)) (fr : Fr) (s : St) (pl : List (Nat × Pn)) (pend : List Pe) (listed : Array Bool) (a : Act) (w : World) : Prop where
  sub : Lo.sub g.L0 L
  rep : Rep e R L s w
  size : listed.size = g.ops.size
  inE : ∀ i, listed[i]? = some true → i ∈ keys E
  cov : ∀ i, i ∈ keys E → listed[i]? = some true ∨ ∃ pe ∈ pend, pe.i = i
  clo : ∀ j, listed[j]? = some true → ∀ x, Wt g.ops j x → listed[x]? = some true
  key : ∀ i v u, (i, v) ∈ E → (i, u) ∈ E → v = u
  frm : FrE g fr E
  tsz : a.tmps.size = g.n
  m1 : ∀ t, t < g.n → ∀ i v, (i, v) ∈ E → listed[i]? = some true → dstOf g.ops i = some t → ∃ x, a.tmps[t]? = some x ∧ Real L v x
  m2 : ∀ t, t < g.n → (∀ i, listed[i]? = some true → dstOf g.ops i ≠ some t) → ∀ v, g.fr0.get t = some v → ∃ x, a.tmps[t]? = some x ∧ Real L v x
  mark : MarkOk L g.ro g.n fr a.defers
  pes : ∀ pe ∈ pend, PeOk g L E s pl listed pe
  shorter : ∀ pe ∈ pend, ∀ pe' ∈ pend, pe'.i ∈ keys pe.E → pe'.E.length < pe.E.length
  uniq : ∀ pe ∈ pend, ∀ pe' ∈ pend, pe.i = pe'.i → pe = pe'
  nums : ∀ pe ∈ pend, ∀ pe' ∈ pend, ∀ x y, pe.u = some x → pe'.u = some y → x.1 = y.1 → pe.i = pe'.i
  us : ∀ x, (∀ pe ∈ pend, ∀ q, pe.u = some q → q.1 ≠ x) → L.u x = g.L0.u x
/-- what stands of a region -/
structure RgOk (e : Env) (R : HProp) (g : Rg) : Prop where
  pg : PgOk e R g.pg
  run : SoundR e R g.pg g.run
  glo : Glo g.pg g.L0
  fit : ∀ (i : Nat) (o : Oper), g.ops[i]? = some o → opFit g.n g.ops o = true ∧ selB o = false
  dst : ∀ (i j : Nat) (d : Tmp), dstOf g.ops i = some d → dstOf g.ops j = some d → i = j
theorem prt_sub {L M : Lo} (hl : Lo.sub L M) {s : St} {i : Nat} (hi : M.f i = L.f i) (h : Hp) (k : prt L s i h) : prt M s i h := by
  unfold prt at k ⊢
  rw [hi]
  cases e : L i with
  | none => trivial
  | some p =>
    rw [e] at k
    cases e2 : s.obj i with
    | none => trivial
    | some o => rw [e2] at k; exact pobj_sub hl p o h k
theorem Rep.wu {L : Lo} {s : St} {w : World} {u : Nat → Option EO} (h : Rep e R L s w) (hd : LoS (L.wu u) s) : Rep e R (L.wu u) s w :=
  ⟨h.sat.imp fun x k => sepL_cons (fun _ z => z) (fun y ky => sepL_le (A := prt L s) (B := prt (L.wu u) s) (fun i _ y ky => prt_sub (L := L) (M := L.wu u) (fun _ _ h => h) rfl y ky) y ky) k, hd⟩
section
variable {g : Rg} {L : Lo} {E : List (Nat × EV)} {fr : Fr} {s : St} {pl : List (Nat × Pn)} {pend : List Pe} {listed : Array Bool} {a : Act} {w : World}
theorem getD_t {listed : Array Bool} {i : Nat} : listed.getD i false = true ↔ listed[i]? = some true := by
  cases h : listed[i]? with
  | none => simp [h]
  | some b => cases b <;> simp [h]
theorem getD_f {listed : Array Bool} {i : Nat} : listed.getD i true = false ↔ listed[i]? = some false := by
  cases h : listed[i]? with
  | none => simp [h]
  | some b => cases b <;> simp [h]
/-- what it waits for has been done -/
theorem ready_wt (hI : DInv e R g L E fr s pl pend listed a w) {j : Nat} {o : Oper} (ho : g.ops[j]? = some o) (hr : ∀ e ∈ o.after, Region.binds .any e = true → listed[e.on]? = some true) {x : Nat} (hx : Wt g.ops j x) : listed[x]? = some true := by
  cases hx with
  | one h he hb => rw [ho] at h; cases h; exact hr _ he hb
  | far h he hb k => rw [ho] at h; cases h; exact hI.clo _ (hr _ he hb) _ k
/-- what a pending one looks at lies there, once it is ready -/
theorem look_ok (hI : DInv e R g L E fr s pl pend listed a w) {pe : Pe} (hpe : pe ∈ pend) (hr : ∀ e ∈ pe.o.after, Region.binds .any e = true → listed[e.on]? = some true) {t : Tmp} (ht : t ∈ pe.o.looksAt g.ops) (htn : t < g.n) {u : EV} (hu : pe.fr.get t = some u) :
    ∃ x, a.tmps[t]? = some x ∧ Real L u x := by
  have hP := hI.pes pe hpe
  rcases hP.frm t u htn hu with ⟨i, h1, h2⟩ | ⟨h1, h2⟩
  · refine hI.m1 t htn i u (hP.sub _ h1) ?_ h2
    have hk : i ∈ keys pe.E := mem_keys.2 ⟨u, h1⟩
    rcases hI.cov i (mem_keys.2 ⟨u, hP.sub _ h1⟩) with h3 | ⟨pe', hpe', rfl⟩
    · exact h3
    · have hP' := hI.pes pe' hpe'
      have hsh := hI.shorter pe hpe pe' hpe' hk
      have hn : pe.i ∉ keys pe'.E := fun hh => by have := hI.shorter pe' hpe' pe hpe hh; omega
      have hne : pe.i ≠ pe'.i := fun hh => hP.own (hh ▸ hk)
      rcases hP'.free pe.i pe.o hP.op hn hne with ⟨ed, he, hb, hon⟩ | ⟨k1, _⟩
      · rw [← hon]; exact hr ed he hb
      · unfold dstOf at h2
        rw [hP'.op] at h2
        exact absurd ht (k1 t h2)
  · refine hI.m2 t htn (fun i hi hd => ?_) u h2
    have hk : i ∉ keys pe.E := fun hk => h1 i hk hd
    have hne : i ≠ pe.i := fun hh => by rw [hh, hP.un] at hi; cases hi
    have hop : ∃ ok, g.ops[i]? = some ok ∧ ok.dst = some t := by
      unfold dstOf at hd
      cases hoi : g.ops[i]? with
      | none => rw [hoi] at hd; cases hd
      | some ok => rw [hoi] at hd; exact ⟨ok, rfl, hd⟩
    obtain ⟨ok, hok, hdk⟩ := hop
    rcases hP.free i ok hok hk hne with ⟨ed, he, hb, hon⟩ | ⟨_, k2⟩
    · have := hI.clo i hi ed.on (.one hok he hb)
      rw [hon, hP.un] at this; cases this
    · exact absurd ht (k2 t hdk)
/-- the same for the operation that is to come -/
theorem look_now (hI : DInv e R g L E fr s pl pend listed a w) {i : Nat} {o : Oper} (ho : g.ops[i]? = some o) (hi : i ∉ keys E) (hr : ∀ e ∈ o.after, Region.binds .any e = true → listed[e.on]? = some true) {t : Tmp} (ht : t ∈ o.looksAt g.ops) (htn : t < g.n) {u : EV} (hu : fr.get t = some u) :
    ∃ x, a.tmps[t]? = some x ∧ Real L u x := by
  rcases hI.frm t u htn hu with ⟨j, h1, h2⟩ | ⟨h1, h2⟩
  · refine hI.m1 t htn j u h1 ?_ h2
    rcases hI.cov j (mem_keys.2 ⟨u, h1⟩) with h3 | ⟨pe', hpe', rfl⟩
    · exact h3
    · have hP' := hI.pes pe' hpe'
      have hn : i ∉ keys pe'.E := fun hh => by
        obtain ⟨v, hv⟩ := mem_keys.1 hh
        exact hi (mem_keys.2 ⟨v, hP'.sub _ hv⟩)
      have hne : i ≠ pe'.i := fun hh => hi (hh ▸ mem_keys.2 ⟨_, hP'.mem⟩)
      rcases hP'.free i o ho hn hne with ⟨ed, he, hb, hon⟩ | ⟨k1, _⟩
      · rw [← hon]; exact hr ed he hb
      · unfold dstOf at h2
        rw [hP'.op] at h2
        exact absurd ht (k1 t h2)
  · exact hI.m2 t htn (fun j hj hd => h1 j (hI.inE j hj) hd) u h2
/-- operands stand for those of the run -/
theorem ops_of {pg : Pg} {f : Fr} (hg : Glo pg L) {n : Nat} {ops : Array Oper} {o : Oper} (hq : ∀ q ∈ o.op.operands, qFit n q = true) (hl : ∀ t ∈ o.looksAt ops, t < n → ∀ u, f.get t = some u → ∃ x, a.tmps[t]? = some x ∧ Real L u x) : Ops L pg.gi f a.eval o.op := by
  intro q hqm v hv
  cases q with
  | tmp t =>
    have ht : t < n := by have := hq _ hqm; simp only [qFit, blt_eq, decide_eq_true_eq] at this; exact this
    have hlo : t ∈ o.looksAt ops := List.mem_append_left _ (List.mem_filterMap.2 ⟨.tmp t, Array.mem_toList_iff.2 hqm, rfl⟩)
    obtain ⟨x, h1, h2⟩ := hl t hlo ht v hv
    have : a.eval (.tmp t) = x := by simp [Act.eval, h1]
    rw [this]; exact h2
  | const c => exact opr_ok (n := 0) (fr := f) (a := a) (fun t _ ht => absurd ht (Nat.not_lt_zero _)) hg (q := .const c) rfl hv
  | global c => exact opr_ok (n := 0) (fr := f) (a := a) (fun t _ ht => absurd ht (Nat.not_lt_zero _)) hg (q := .global c) rfl hv
  | func c => exact opr_ok (n := 0) (fr := f) (a := a) (fun t _ ht => absurd ht (Nat.not_lt_zero _)) hg (q := .func c) rfl hv
theorem guard_of {f : Fr} {n : Nat} {ops : Array Oper} {o : Oper} (hgd : ∀ j want d, o.guard = some (j, want) → (ops[j]?).bind (·.dst) = some d → d < n) (hl : ∀ t ∈ o.looksAt ops, t < n → ∀ u, f.get t = some u → ∃ x, a.tmps[t]? = some x ∧ Real L u x) :
    ∀ j want d, o.guard = some (j, want) → (ops[j]?).bind (·.dst) = some d → ∀ u, f.get d = some u → ∃ x, a.tmps[d]? = some x ∧ Real L u x := fun j want d hg hd u hu => by
  refine hl d ?_ (hgd j want d hg hd) u hu
  unfold Oper.looksAt
  rw [hg]
  exact List.mem_append_right _ (by simp [hd])
end
end Go.Proofs.YtiabhghlhnnnjaaGreatDoor.Ev
noncomputable section
namespace Go.Proofs.YtiabhghlhnnnjaaGreatDoor.Ev
open Go Sh Sl
variable {e : Env} {R : HProp}
section
variable {g : Rg} {L : Lo} {E : List (Nat × EV)} {fr : Fr} {s : St} {pl : List (Nat × Pn)} {pend : List Pe} {listed : Array Bool} {a : Act} {w : World}
/-- a pending one is done now -/
theorem pend_run (hg : RgOk e R g) (hI : DInv e R g L E fr s pl pend listed a w) {pe : Pe} (hpe : pe ∈ pend) (hr : ∀ e ∈ pe.o.after, Region.binds .any e = true → listed[e.on]? = some true) :
    ∃ y L1 w1, ((Region.wanted pe.o (yielded g.ops a.tmps) = true ∧ (execOp a.eval pe.o).run P w = .ok (.value y) w1) ∨ (Region.wanted pe.o (yielded g.ops a.tmps) = false ∧ y = undef ∧ w1 = w)) ∧
      Lo.sub L L1 ∧ Real L1 pe.v y ∧ Rep e R L1 s w1 ∧ (∀ z, (∀ q, pe.u = some q → q.1 ≠ z) → L1.u z = L.u z) ∧ ∀ q, pe.u = some q → L1.u q.1 = none := by
  have hP := hI.pes pe hpe
  obtain ⟨hfit, hsel⟩ := hg.fit pe.i pe.o hP.op
  obtain ⟨hd, hq, hgd⟩ := opFit_ok hfit
  have hlook : ∀ t ∈ pe.o.looksAt g.ops, t < g.n → ∀ u, pe.fr.get t = some u → ∃ x, a.tmps[t]? = some x ∧ Real L u x := fun t ht htn u hu => look_ok hI hpe hr ht htn hu
  have hO : Ops L g.pg.gi pe.fr a.eval pe.o.op := ops_of (hg.glo.sub hI.sub) hq hlook
  have hG := guard_of hgd hlook
  rcases hP.ev with ⟨hk, hu, s0, s1, hgo⟩ | ⟨hk, hu, ⟨s1, hgo⟩, _⟩ | ⟨hk, s0, s1, hgo, hcase⟩
  · rcases grd_ok (L := L) (tmps := a.tmps) hgo hG with ⟨hw, h3⟩ | ⟨hw, hv, _⟩
    · obtain ⟨_, y, h4, h5⟩ := (still_ok (e := e) (R := R) h3 hO).1 hk
      exact ⟨y, L, w, .inl ⟨hw, h5 w⟩, Lo.sub_refl L, h4, hI.rep, fun _ _ => rfl, fun q hq => by rw [hu] at hq; cases hq⟩
    · exact ⟨_, L, w, .inr ⟨hw, rfl, rfl⟩, Lo.sub_refl L, by rw [hv]; exact .undef, hI.rep, fun _ _ => rfl, fun q hq => by rw [hu] at hq; cases hq⟩
  · rcases grd_ok (L := L) (tmps := a.tmps) hgo hG with ⟨hw, h3⟩ | ⟨hw, hv, _⟩
    · obtain ⟨_, h4⟩ := (still_ok (e := e) (R := R) h3 hO).2.1 hk
      obtain ⟨y, h5, h6⟩ := h4 w hI.rep
      exact ⟨y, L, w, .inl ⟨hw, h6⟩, Lo.sub_refl L, h5, hI.rep, fun _ _ => rfl, fun q hq => by rw [hu] at hq; cases hq⟩
    · exact ⟨_, L, w, .inr ⟨hw, rfl, rfl⟩, Lo.sub_refl L, by rw [hv]; exact .undef, hI.rep, fun _ _ => rfl, fun q hq => by rw [hu] at hq; cases hq⟩
  · rcases hcase with ⟨hnum, hu⟩ | ⟨hnum, ob, hob, hu, hLu, hL0⟩
    · rcases grd_ok (L := L) (tmps := a.tmps) hgo hG with ⟨hw, h3⟩ | ⟨hw, hv, _⟩
      · rcases (still_ok (e := e) (R := R) h3 hO).2.2 hk with ⟨_, y, h4, h5⟩ | ⟨ob, m, h4, _⟩
        · exact ⟨y, L, w, .inl ⟨hw, h5 w⟩, Lo.sub_refl L, h4, hI.rep, fun _ _ => rfl, fun q hq => by rw [hu] at hq; cases hq⟩
        · rw [h4, St.new_num] at hnum; omega
      · exact ⟨_, L, w, .inr ⟨hw, rfl, rfl⟩, Lo.sub_refl L, by rw [hv]; exact .undef, hI.rep, fun _ _ => rfl, fun q hq => by rw [hu] at hq; cases hq⟩
    · have hsub : Lo.sub L (L.wu fun z => if z = s0.num then none else L.u z) := fun i p h => h
      have hO' : Ops (L.wu fun z => if z = s0.num then none else L.u z) g.pg.gi pe.fr a.eval pe.o.op := fun q hq v hv => (hO q hq v hv).sub hsub
      rcases grd_ok (L := L) (tmps := a.tmps) hgo hG with ⟨hw, h3⟩ | ⟨hw, _, hs⟩
      · rcases (still_ok (e := e) (R := R) h3 hO').2.2 hk with ⟨h4, _⟩ | ⟨ob2, m, h4, he, hb⟩
        · rw [h4] at hnum; exact absurd rfl hnum
        · rw [h4] at hob
          have := St.new_same hob
          subst this
          obtain ⟨k1, k2, k3⟩ := hI.rep.dom.2 s0.num _ hLu
          have hrep : Rep e R (L.wu fun z => if z = s0.num then none else L.u z) s w := hI.rep.wu ⟨hI.rep.dom.1, fun i o hi => by
            have hi : (if i = s0.num then none else L.u i) = some o := hi
            by_cases hx : i = s0.num
            · rw [if_pos hx] at hi; cases hi
            · rw [if_neg hx] at hi; exact hI.rep.dom.2 i o hi⟩
          obtain ⟨p, y, w1, h5, h6, h7⟩ := hb _ s w (Lo.le_refl _) ⟨k1, by simp [Lo.wu]⟩ k2 k3 hrep
          refine ⟨y, _, w1, .inl ⟨hw, by rw [he]; exact run_vS h5⟩, ?_, h6, h7, fun z hz => ?_, fun q hq => ?_⟩
          · exact Lo.sub_trans hsub (Lo.le_up p k1).1
          · have : s0.num ≠ z := hz (s0.num, _) hu
            show (if z = s0.num then none else L.u z) = L.u z
            rw [if_neg (Ne.symm this)]
          · rw [hu] at hq; cases hq
            show (if s0.num = s0.num then none else L.u s0.num) = none
            rw [if_pos rfl]
      · rw [hs] at hnum; exact absurd rfl hnum
theorem set_true {listed : Array Bool} {i j : Nat} (hi : i < listed.size) : (listed.setIfInBounds i true)[j]? = some true ↔ listed[j]? = some true ∨ j = i := by
  by_cases h : i = j
  · subst h; simp [hi]
  · rw [Array.getElem?_setIfInBounds_ne h]; simp [Ne.symm h]
theorem set_false {listed : Array Bool} {i j : Nat} (h : j ≠ i) : (listed.setIfInBounds i true)[j]? = listed[j]? := Array.getElem?_setIfInBounds_ne (Ne.symm h)
theorem put_at {a : Act} {d : Option Tmp} {y : Value} {n t : Nat} (hs : a.tmps.size = n) (ht : t < n) : (a.put d y).tmps[t]? = if d = some t then some y else a.tmps[t]? := by
  cases d with
  | none => simp [Act.put]
  | some d =>
    by_cases h : d = t
    · subst h; simp [Act.put, hs, ht]
    · have : (some d = some t) = False := by simp [h]
      simp only [this, if_false, Act.put]
      exact Array.getElem?_setIfInBounds_ne h
theorem put_size (a : Act) (d : Option Tmp) (y : Value) : (a.put d y).tmps.size = a.tmps.size := by cases d <;> simp [Act.put]
theorem put_defers (a : Act) (d : Option Tmp) (y : Value) : (a.put d y).defers = a.defers := by cases d <;> rfl
theorem dst_of {ops : Array Oper} {i : Nat} {o : Oper} (h : ops[i]? = some o) : dstOf ops i = o.dst := by unfold dstOf; rw [h]; rfl
theorem lt_of {ops : Array Oper} {i : Nat} {o : Oper} (h : ops[i]? = some o) : i < ops.size := (Array.getElem?_eq_some_iff.1 h).1
/-- the invariant behind a pending one -/
theorem pend_next (hg : RgOk e R g) (hI : DInv e R g L E fr s pl pend listed a w) {pe : Pe} (hpe : pe ∈ pend) (hr : ∀ e ∈ pe.o.after, Region.binds .any e = true → listed[e.on]? = some true) {y : Value} {L1 : Lo} {w1 : World}
    (hsub : Lo.sub L L1) (hv : Real L1 pe.v y) (hrep : Rep e R L1 s w1) (hu : ∀ z, (∀ q, pe.u = some q → q.1 ≠ z) → L1.u z = L.u z) (hu0 : ∀ q, pe.u = some q → L1.u q.1 = none) :
    DInv e R g L1 E fr s pl (pend.filter fun q => !Nat.beq q.i pe.i) (listed.setIfInBounds pe.i true) (a.put pe.o.dst y) w1 := by
  have hP := hI.pes pe hpe
  have hlt : pe.i < listed.size := by rw [hI.size]; exact lt_of hP.op
  have hmem : ∀ q, q ∈ (pend.filter fun q => !Nat.beq q.i pe.i) ↔ q ∈ pend ∧ q.i ≠ pe.i := fun q => by
    rw [List.mem_filter, beq_eq]; simp
  have hdst := dst_of hP.op
  refine ⟨Lo.sub_trans hI.sub hsub, hrep, by simp [hI.size], fun i hi => ?_, fun i hi => ?_, fun j hj x hx => ?_, hI.key, hI.frm, by rw [put_size, hI.tsz], fun t ht i v hiv hi hd => ?_, fun t ht hno v hv0 => ?_, ?_, fun q hq => ?_, fun q hq q' hq' => ?_, fun q hq q' hq' => ?_, fun q hq q' hq' => ?_, fun x hx => ?_⟩
  · rcases (set_true hlt).1 hi with h | rfl
    · exact hI.inE i h
    · exact mem_keys.2 ⟨_, hP.mem⟩
  · rcases hI.cov i hi with h | ⟨q, hq, rfl⟩
    · exact .inl ((set_true hlt).2 (.inl h))
    · by_cases hqi : q.i = pe.i
      · exact .inl ((set_true hlt).2 (.inr hqi))
      · exact .inr ⟨q, (hmem q).2 ⟨hq, hqi⟩, rfl⟩
  · rcases (set_true hlt).1 hj with h | rfl
    · exact (set_true hlt).2 (.inl (hI.clo j h x hx))
    · exact (set_true hlt).2 (.inl (ready_wt hI hP.op hr hx))
  · rw [put_at hI.tsz ht]
    rcases (set_true hlt).1 hi with h | rfl
    · obtain ⟨z, h1, h2⟩ := hI.m1 t ht i v hiv h hd
      by_cases hdt : pe.o.dst = some t
      · have := hg.dst i pe.i t hd (by rw [hdst, hdt])
        subst this
        rw [hP.un] at h; cases h
      · rw [if_neg hdt]; exact ⟨z, h1, h2.sub hsub⟩
    · rw [hdst] at hd
      rw [if_pos hd]
      refine ⟨y, rfl, ?_⟩
      rw [hI.key _ _ _ hiv hP.mem]; exact hv
  · have hne : pe.o.dst ≠ some t := fun hh => hno pe.i ((set_true hlt).2 (.inr rfl)) (by rw [hdst]; exact hh)
    rw [put_at hI.tsz ht, if_neg hne]
    obtain ⟨z, h1, h2⟩ := hI.m2 t ht (fun i hi => hno i ((set_true hlt).2 (.inl hi))) v hv0
    exact ⟨z, h1, h2.sub hsub⟩
  · rw [put_defers]; exact hI.mark.sub hsub
  · obtain ⟨hq, hqi⟩ := (hmem q).1 hq
    have hQ := hI.pes q hq
    refine ⟨hQ.op, by rw [set_false hqi]; exact hQ.un, hQ.mem, hQ.sub, hQ.own, hQ.len, hQ.frm, hQ.aft, hQ.free, ?_⟩
    rcases hQ.ev with h | h | ⟨hk, s0, s1, hgo, h | ⟨h1, ob, h2, h3, h4, h5⟩⟩
    · exact .inl h
    · exact .inr (.inl h)
    · exact .inr (.inr ⟨hk, s0, s1, hgo, .inl h⟩)
    · refine .inr (.inr ⟨hk, s0, s1, hgo, .inr ⟨h1, ob, h2, h3, ?_, h5⟩⟩)
      rw [hu s0.num fun z hz he => hqi (hI.nums q hq pe hpe _ _ h3 hz (by rw [he]))]; exact h4
  · exact hI.shorter q ((hmem q).1 hq).1 q' ((hmem q').1 hq').1
  · exact hI.uniq q ((hmem q).1 hq).1 q' ((hmem q').1 hq').1
  · exact hI.nums q ((hmem q).1 hq).1 q' ((hmem q').1 hq').1
  · by_cases hxp : ∃ q, pe.u = some q ∧ q.1 = x
    · obtain ⟨q, hq, rfl⟩ := hxp
      rw [hu0 q hq]
      rcases hP.ev with ⟨_, h, _⟩ | ⟨_, h, _⟩ | ⟨_, s0, s1, _, ⟨_, h⟩ | ⟨_, ob, _, h3, _, h5⟩⟩
      · rw [h] at hq; cases hq
      · rw [h] at hq; cases hq
      · rw [h] at hq; cases hq
      · rw [h3] at hq; cases hq; exact h5.symm
    · rw [hu x fun q hq he => hxp ⟨q, hq, he⟩]
      refine hI.us x fun q hq z hz he => ?_
      by_cases hqi : q.i = pe.i
      · have := hI.uniq q hq pe hpe hqi
        subst this
        exact hxp ⟨z, hz, he⟩
      · exact hx q ((hmem q).2 ⟨hq, hqi⟩) z hz he
theorem ready_of {i : Nat} {o : Oper} (ho : g.ops[i]? = some o) (hr : i ∈ Region.ready .any g.ops listed) : ∀ e ∈ o.after, Region.binds .any e = true → listed[e.on]? = some true := fun ed he hb => by
  obtain ⟨_, o', ho', hall⟩ := mem_ready.1 hr
  rw [ho] at ho'; cases ho'
  exact getD_t.1 (hall ed he hb)
theorem pend_exec (hg : RgOk e R g) (hI : DInv e R g L E fr s pl pend listed a w) {pe : Pe} (hpe : pe ∈ pend) (hr : pe.i ∈ Region.ready .any g.ops listed) {Q : Exit → Act → World → Prop} {K : Act → World → Prop}
    (k : ∀ L' a' w', DInv e R g L' E fr s pl (pend.filter fun q => !Nat.beq q.i pe.i) (listed.setIfInBounds pe.i true) a' w' → K a' w') : wpOpIn (Fw g.ro) 0 P g.ops Q pe.i K a w := by
  have hP := hI.pes pe hpe
  have hrd := ready_of hP.op hr
  obtain ⟨y, L1, w1, h1, h2, h3, h4, h5, h6⟩ := pend_run hg hI hpe hrd
  have hn := k _ _ _ (pend_next hg hI hpe hrd h2 h3 h4 h5 h6)
  unfold wpOpIn
  simp only [hP.op]
  rcases h1 with ⟨hw, hrun⟩ | ⟨hw, rfl, rfl⟩
  · simp only [hw, if_true]
    refine upon_of_next (c := fun v' w' => v' = y ∧ w' = w1) (sel_ok (hg.fit pe.i pe.o hP.op).2) ?_ fun v' w' hv => ?_
    · unfold NextK; rw [hrun]; exact ⟨rfl, rfl⟩
    · obtain ⟨rfl, rfl⟩ := hv; exact hn
  · simp only [hw, Bool.false_eq_true, if_false]
    exact ⟨fun _ _ => trivial, hn⟩
theorem asksE_ok {cl : Nat} : ∀ {pl : List (Nat × Pn)} {s : St}, asksE cl pl s = true → ∀ i q, (i, q) ∈ pl → hasB cl i = true ∨ q s = true
  | [], _, _, _, _, h => (List.not_mem_nil h).elim
  | (j, p) :: pl, s, h, i, q, hm => by
    have h : cnd (hasB cl j) (asksE cl pl s) (cnd (p s) (asksE cl pl s) false) = true := h
    have h0 : asksE cl pl s = true ∧ (hasB cl j = true ∨ p s = true) := by
      cases h1 : hasB cl j with
      | true => rw [h1] at h; exact ⟨h, .inl rfl⟩
      | false =>
        rw [h1] at h
        cases h2 : p s with
        | true => rw [cnd_false, h2] at h; exact ⟨h, .inr rfl⟩
        | false => rw [cnd_false, h2] at h; cases h
    rcases List.mem_cons.1 hm with he | he
    · cases he; exact h0.2
    · exact asksE_ok h0.1 i q he
theorem askE_ok {b : Bo} {run : Run} {f : Fr} {v : EV} {s : St} (h : askE b run f v s = true) : ∃ s1, b.go run f s = .ok (v, s1) := by
  unfold askE at h
  cases hb : b.go run f s with
  | no w l => rw [hb] at h; cases h
  | ok q =>
    rw [hb] at h
    have h : eqV v q.1 = true := h
    have := eqV_ok _ _ h
    exact ⟨q.2, by rw [this]⟩
/-- the operation that acts -/
theorem act_next (hg : RgOk e R g) (hI : DInv e R g L E fr s pl pend listed a w) {i : Nat} {o : Oper} {cl : Nat} {v : EV} {s' : St} (ho : g.ops[i]? = some o) (hi : i ∉ keys E) (hr : ∀ e ∈ o.after, Region.binds .any e = true → listed[e.on]? = some true)
    (hcl : ∀ x, hasB cl x = true → Wt g.ops i x) (hask : asksE cl pl s' = true) {y : Value} {L1 : Lo} {w1 : World} (hle : Lo.le L L1) (hv : Real L1 v y) (hrep : Rep e R L1 s' w1) :
    DInv e R g L1 ((i, v) :: E) (putF fr o.dst v) s' pl pend (listed.setIfInBounds i true) (a.put o.dst y) w1 := by
  have hlt : i < listed.size := by rw [hI.size]; exact lt_of ho
  have hdst := dst_of ho
  have hfit := (opFit_ok (hg.fit i o ho).1).1
  have hkey : ∀ u, (i, u) ∉ E := fun u hu => hi (mem_keys.2 ⟨u, hu⟩)
  refine ⟨Lo.sub_trans hI.sub hle.1, hrep, by simp [hI.size], fun j hj => ?_, fun j hj => ?_, fun j hj x hx => ?_, fun j x z hx hz => ?_, hI.frm.put ho v, by rw [put_size, hI.tsz], fun t ht j u hju hj hd => ?_, fun t ht hno u hu0 => ?_, ?_, fun q hq => ?_, hI.shorter, hI.uniq, hI.nums, fun x hx => ?_⟩
  · rcases (set_true hlt).1 hj with h | rfl
    · exact List.mem_cons_of_mem _ (hI.inE j h)
    · exact List.mem_cons_self
  · rcases List.mem_cons.1 hj with rfl | hj
    · exact .inl ((set_true hlt).2 (.inr rfl))
    · rcases hI.cov j hj with h | h
      · exact .inl ((set_true hlt).2 (.inl h))
      · exact .inr h
  · rcases (set_true hlt).1 hj with h | rfl
    · exact (set_true hlt).2 (.inl (hI.clo j h x hx))
    · exact (set_true hlt).2 (.inl (ready_wt hI ho hr hx))
  · rcases List.mem_cons.1 hx with hx | hx <;> rcases List.mem_cons.1 hz with hz | hz
    · cases hx; cases hz; rfl
    · cases hx; exact absurd hz (hkey z)
    · cases hz; exact absurd hx (hkey x)
    · exact hI.key j x z hx hz
  · rw [put_at hI.tsz ht]
    rcases List.mem_cons.1 hju with he | he
    · cases he
      rw [hdst] at hd
      rw [if_pos hd]
      exact ⟨y, rfl, hv⟩
    · have hji : j ≠ i := fun h => hkey u (h ▸ he)
      have hj : listed[j]? = some true := ((set_true hlt).1 hj).resolve_right hji
      obtain ⟨z, h1, h2⟩ := hI.m1 t ht j u he hj hd
      by_cases hdt : o.dst = some t
      · exact absurd (hg.dst j i t hd (by rw [hdst, hdt])) hji
      · rw [if_neg hdt]; exact ⟨z, h1, h2.le hle⟩
  · have hne : o.dst ≠ some t := fun hh => hno i ((set_true hlt).2 (.inr rfl)) (by rw [hdst]; exact hh)
    rw [put_at hI.tsz ht, if_neg hne]
    obtain ⟨z, h1, h2⟩ := hI.m2 t ht (fun j hj => hno j ((set_true hlt).2 (.inl hj))) u hu0
    exact ⟨z, h1, h2.le hle⟩
  · rw [put_defers]
    cases hd : o.dst with
    | none => exact hI.mark.sub hle.1
    | some d => rw [hd] at hfit; exact (hI.mark.sub hle.1).set (fitsC_ok hfit)
  · have hQ := hI.pes q hq
    have hqi : q.i ≠ i := fun h => hi (h ▸ mem_keys.2 ⟨_, hQ.mem⟩)
    refine ⟨hQ.op, by rw [set_false hqi]; exact hQ.un, List.mem_cons_of_mem _ hQ.mem, fun x hx => List.mem_cons_of_mem _ (hQ.sub x hx), hQ.own, Nat.lt_succ_of_lt hQ.len, hQ.frm, hQ.aft, hQ.free, ?_⟩
    rcases hQ.ev with h | ⟨h1, h2, _, h4⟩ | ⟨hk, s0, s1, hgo, h | ⟨h1, ob, h2, h3, h4, h5⟩⟩
    · exact .inl h
    · refine .inr (.inl ⟨h1, h2, ?_, h4⟩)
      rcases asksE_ok hask _ _ h4 with h5 | h5
      · have := ready_wt hI ho hr (hcl _ h5)
        rw [hQ.un] at this; cases this
      · exact askE_ok h5
    · exact .inr (.inr ⟨hk, s0, s1, hgo, .inl h⟩)
    · exact .inr (.inr ⟨hk, s0, s1, hgo, .inr ⟨h1, ob, h2, h3, by rw [hle.2]; exact h4, h5⟩⟩)
  · rw [hle.2]; exact hI.us x hx
theorem act_exec (hg : RgOk e R g) (hI : DInv e R g L E fr s pl pend listed a w) {i : Nat} {o : Oper} {cl : Nat} {v : EV} {s' : St} (ho : g.ops[i]? = some o) (hi : i ∉ keys E) (hr : i ∈ Region.ready .any g.ops listed)
    (hcl : ∀ x, hasB cl x = true → Wt g.ops i x) (hgo : (gB g.pg g.ops o).go g.run fr s = .ok (v, s')) (hask : asksE cl pl s' = true) {Q : Exit → Act → World → Prop} {K : Act → World → Prop}
    (k : ∀ L' a' w', DInv e R g L' ((i, v) :: E) (putF fr o.dst v) s' pl pend (listed.setIfInBounds i true) a' w' → K a' w') : wpOpIn (Fw g.ro) 0 P g.ops Q i K a w := by
  have hrd := ready_of ho hr
  obtain ⟨hfit, hsel⟩ := hg.fit i o ho
  obtain ⟨hd, hq, hgd⟩ := opFit_ok hfit
  have hlook : ∀ t ∈ o.looksAt g.ops, t < g.n → ∀ u, fr.get t = some u → ∃ x, a.tmps[t]? = some x ∧ Real L u x := fun t ht htn u hu => look_now hI ho hi hrd ht htn hu
  have hglo := hg.glo.sub hI.sub
  have hO : Ops L g.pg.gi fr a.eval o.op := ops_of hglo hq hlook
  have hG := guard_of hgd hlook
  unfold wpOpIn
  simp only [ho]
  rcases grd_ok (L := L) (tmps := a.tmps) hgo hG with ⟨hw, h3⟩ | ⟨hw, rfl, rfl⟩
  · simp only [hw, if_true]
    refine upon_of_next (sel_ok hsel) (any_ok hg.pg hg.run (eval_func a) h3 hO hglo w hI.rep) fun y w' hy => ?_
    obtain ⟨M, hM, hv, hR⟩ := hy
    exact k _ _ _ (act_next hg hI ho hi hrd hcl hask hM hv hR)
  · simp only [hw, Bool.false_eq_true, if_false]
    exact ⟨fun _ _ => trivial, k _ _ _ (act_next hg hI ho hi hrd hcl hask (Lo.le_refl L) .undef hI.rep)⟩
end
end Go.Proofs.YtiabhghlhnnnjaaGreatDoor.Ev
noncomputable section
namespace Go.Proofs.YtiabhghlhnnnjaaGreatDoor.Ev
open Go Sh Sl
variable {e : Env} {R : HProp}
section
variable {g : Rg} {L : Lo} {E : List (Nat × EV)} {fr : Fr} {s : St} {pl : List (Nat × Pn)} {pend : List Pe} {listed : Array Bool} {a : Act} {w : World}
/-- the evaluator does one ahead of the run -/
theorem absorb (hg : RgOk e R g) (hI : DInv e R g L E fr s pl pend listed a w) {i : Nat} {o : Oper} (ho : g.ops[i]? = some o) (hi : i ∉ keys E) (ha : Aft (keys E) o) (hf : Free g.ops (keys E) i o) {v : EV} {u : Option (Nat × EO)} {L' : Lo} {s' : St} {pl' : List (Nat × Pn)}
    (hL : L'.f = L.f) (hrep : Rep e R L' s' w) (hpl : ∀ x ∈ pl, x ∈ pl')
    (hev : ∀ pe : Pe, pe.i = i → pe.o = o → pe.fr = fr → pe.v = v → pe.u = u → (kindE pe.o.op = 1 ∧ pe.u = none ∧ ∃ s0 s1, (gB g.pg g.ops pe.o).go g.run pe.fr s0 = .ok (pe.v, s1)) ∨
      (kindE pe.o.op = 2 ∧ pe.u = none ∧ (∃ s1, (gB g.pg g.ops pe.o).go g.run pe.fr s' = .ok (pe.v, s1)) ∧ (pe.i, askE (gB g.pg g.ops pe.o) g.run pe.fr pe.v) ∈ pl') ∨
      (kindE pe.o.op = 3 ∧ ∃ s0 s1, (gB g.pg g.ops pe.o).go g.run pe.fr s0 = .ok (pe.v, s1) ∧ ((s1.num = s0.num ∧ pe.u = none) ∨
        (s1.num ≠ s0.num ∧ ∃ ob, s1.obj s0.num = some ob ∧ pe.u = some (s0.num, ob) ∧ L'.u s0.num = some ob ∧ g.L0.u s0.num = none))))
    (hold : ∀ q ∈ pend, ∀ s1, (gB g.pg g.ops q.o).go g.run q.fr s = .ok (q.v, s1) → kindE q.o.op = 2 → ∃ s2, (gB g.pg g.ops q.o).go g.run q.fr s' = .ok (q.v, s2))
    (hu : ∀ z, (∀ q, u = some q → q.1 ≠ z) → L'.u z = L.u z) (hnew : ∀ q, u = some q → L.u q.1 = none) :
    DInv e R g L' ((i, v) :: E) (putF fr o.dst v) s' pl' (⟨i, o, fr, v, E, u⟩ :: pend) listed a w := by
  have hlt : i < listed.size := by rw [hI.size]; exact lt_of ho
  have hdst := dst_of ho
  have hfit := (opFit_ok (hg.fit i o ho).1).1
  have hsub : Lo.sub L L' := fun j p h => by rw [hL]; exact h
  have hkey : ∀ u, (i, u) ∉ E := fun u hu => hi (mem_keys.2 ⟨u, hu⟩)
  have hun : listed[i]? = some false := by
    cases h : listed[i]? with
    | none => rw [Array.getElem?_eq_none_iff] at h; omega
    | some b =>
      cases b with
      | false => rfl
      | true => exact absurd (hI.inE i h) hi
  have hne : ∀ q ∈ pend, q.i ≠ i := fun q hq h => hi (h ▸ mem_keys.2 ⟨_, (hI.pes q hq).mem⟩)
  -- the numbers of those that are not yet born
  have hnum : ∀ q ∈ pend, ∀ x y, q.u = some x → u = some y → x.1 ≠ y.1 := fun q hq x y hx hy he => by
    have h0 := hnew y hy
    rcases (hI.pes q hq).ev with ⟨_, h, _⟩ | ⟨_, h, _⟩ | ⟨_, s0, s1, _, ⟨_, h⟩ | ⟨_, ob, _, h3, h4, _⟩⟩
    · rw [h] at hx; cases hx
    · rw [h] at hx; cases hx
    · rw [h] at hx; cases hx
    · rw [h3] at hx; cases hx
      rw [← he, h4] at h0; cases h0
  refine ⟨Lo.sub_trans hI.sub hsub, hrep, hI.size, fun j hj => List.mem_cons_of_mem _ (hI.inE j hj), fun j hj => ?_, hI.clo, fun j x z hx hz => ?_, hI.frm.put ho v, hI.tsz, fun t ht j x hjx hj hd => ?_, fun t ht hno x hx0 => ?_, ?_, fun q hq => ?_, fun q hq q' hq' hk => ?_, fun q hq q' hq' h => ?_, fun q hq q' hq' x y hx hy h => ?_, fun x hx => ?_⟩
  · rcases List.mem_cons.1 hj with rfl | hj
    · exact .inr ⟨_, List.mem_cons_self, rfl⟩
    · rcases hI.cov j hj with h | ⟨q, hq, h⟩
      · exact .inl h
      · exact .inr ⟨q, List.mem_cons_of_mem _ hq, h⟩
  · rcases List.mem_cons.1 hx with hx | hx <;> rcases List.mem_cons.1 hz with hz | hz
    · cases hx; cases hz; rfl
    · cases hx; exact absurd hz (hkey z)
    · cases hz; exact absurd hx (hkey x)
    · exact hI.key j x z hx hz
  · rcases List.mem_cons.1 hjx with he | he
    · cases he; rw [hun] at hj; cases hj
    · obtain ⟨z, h1, h2⟩ := hI.m1 t ht j x he hj hd
      exact ⟨z, h1, h2.sub hsub⟩
  · obtain ⟨z, h1, h2⟩ := hI.m2 t ht hno x hx0
    exact ⟨z, h1, h2.sub hsub⟩
  · cases hd : o.dst with
    | none => exact hI.mark.sub hsub
    | some d => rw [hd] at hfit; exact (hI.mark.sub hsub).set (fitsC_ok hfit)
  · rcases List.mem_cons.1 hq with rfl | hq
    · exact ⟨ho, hun, List.mem_cons_self, fun x hx => List.mem_cons_of_mem _ hx, hi, Nat.lt_succ_self _, hI.frm, ha, hf, hev _ rfl rfl rfl rfl rfl⟩
    · have hQ := hI.pes q hq
      refine ⟨hQ.op, hQ.un, List.mem_cons_of_mem _ hQ.mem, fun x hx => List.mem_cons_of_mem _ (hQ.sub x hx), hQ.own, Nat.lt_succ_of_lt hQ.len, hQ.frm, hQ.aft, hQ.free, ?_⟩
      rcases hQ.ev with h | ⟨h1, h2, ⟨s1, h3⟩, h4⟩ | ⟨hk, s0, s1, hgo, h | ⟨h1, ob, h2, h3, h4, h5⟩⟩
      · exact .inl h
      · exact .inr (.inl ⟨h1, h2, hold q hq s1 h3 h1, hpl _ h4⟩)
      · exact .inr (.inr ⟨hk, s0, s1, hgo, .inl h⟩)
      · exact .inr (.inr ⟨hk, s0, s1, hgo, .inr ⟨h1, ob, h2, h3, by rw [hu s0.num fun y hy he => hnum q hq _ y h3 hy he.symm]; exact h4, h5⟩⟩)
  · rcases List.mem_cons.1 hq with rfl | hq <;> rcases List.mem_cons.1 hq' with rfl | hq'
    · exact absurd hk hi
    · exact (hI.pes q' hq').len
    · obtain ⟨x, hx⟩ := mem_keys.1 hk
      exact absurd ((hI.pes q hq).sub _ hx) (hkey x)
    · exact hI.shorter q hq q' hq' hk
  · rcases List.mem_cons.1 hq with rfl | hq <;> rcases List.mem_cons.1 hq' with rfl | hq'
    · rfl
    · exact absurd h.symm (hne q' hq')
    · exact absurd h (hne q hq)
    · exact hI.uniq q hq q' hq' h
  · rcases List.mem_cons.1 hq with rfl | hq <;> rcases List.mem_cons.1 hq' with rfl | hq'
    · rfl
    · exact absurd h.symm (hnum q' hq' y x hy hx)
    · exact absurd h (hnum q hq x y hx hy)
    · exact hI.nums q hq q' hq' x y hx hy h
  · have h1 := hu x fun q hq => hx _ List.mem_cons_self q hq
    rw [h1]
    exact hI.us x fun q hq => hx q (List.mem_cons_of_mem _ hq)
/-- as long as one is pending, one may be done -/
theorem some_ready (hI : DInv e R g L E fr s pl pend listed a w) : ∀ (m : Nat) (pe : Pe), pe ∈ pend → pe.E.length = m → ∃ j, j ∈ Region.ready .any g.ops listed := by
  intro m
  induction m using Nat.strongRecOn with
  | _ m ih =>
    intro pe hpe hm
    have hP := hI.pes pe hpe
    by_cases hall : ∀ e ∈ pe.o.after, Region.binds .any e = true → listed[e.on]? = some true
    · exact ⟨pe.i, mem_ready.2 ⟨getD_f.2 hP.un, pe.o, hP.op, fun ed he hb => getD_t.2 (hall ed he hb)⟩⟩
    · obtain ⟨ed, h⟩ := Classical.not_forall.1 hall
      obtain ⟨he, h⟩ := Classical.not_imp.1 h
      obtain ⟨hb, h⟩ := Classical.not_imp.1 h
      have hk := hP.aft ed he hb
      obtain ⟨x, hx⟩ := mem_keys.1 hk
      rcases hI.cov ed.on (mem_keys.2 ⟨x, hP.sub _ hx⟩) with h1 | ⟨q, hq, h1⟩
      · exact absurd h1 h
      · have hs := hI.shorter pe hpe q hq (by rw [h1]; exact hk)
        exact ih q.E.length (by omega) q hq rfl
theorem filter_lt {pend : List Pe} {pe : Pe} (h : pe ∈ pend) : (pend.filter fun q => !Nat.beq q.i pe.i).length < pend.length := by
  have h1 := List.length_filter_lt_length_iff_exists (l := pend) (p := fun q => !Nat.beq q.i pe.i)
  exact h1.2 ⟨pe, h, by simp [beq_eq]⟩
/-- what stands behind the whole region -/
theorem draw_end (hg : RgOk e R g) (hE : ∀ (i : Nat) (o : Oper), g.ops[i]? = some o → i ∈ keys E) {Q : Exit → Act → World → Prop}
    (hQ : ∀ L' a' w', Lo.le g.L0 L' → FrOk L' g.ro g.n fr a' → Rep e R L' s w' → Q .normal a' w') : ∀ (m fuel : Nat) (L : Lo) (pend : List Pe) (listed : Array Bool) (a : Act) (w : World), pend.length = m → m ≤ fuel →
      DInv e R g L E fr s pl pend listed a w → wpAnyIn (Fw g.ro) 0 P .any g.ops Q fuel listed a w := by
  intro m
  induction m using Nat.strongRecOn with
  | _ m ih =>
    intro fuel L pend listed a w hm hf hI
    have hrd : ∀ j ∈ Region.ready .any g.ops listed, ∃ pe ∈ pend, pe.i = j := fun j hj => by
      obtain ⟨h1, oj, h2, h3⟩ := mem_ready.1 hj
      rcases hI.cov j (hE j oj h2) with h | h
      · rw [getD_f, h] at h1; cases h1
      · exact h
    have hdone : pend = [] → Q .normal a w := fun hp => by
      subst hp
      have hle : Lo.le g.L0 L := ⟨hI.sub, funext fun x => hI.us x fun q hq => (List.not_mem_nil hq).elim⟩
      refine hQ L a w hle ⟨hI.tsz, fun t v ht _ hv => ?_, hI.mark⟩ hI.rep
      rcases hI.frm t v ht hv with ⟨i, h1, h2⟩ | ⟨h1, h2⟩
      · refine hI.m1 t ht i v h1 ?_ h2
        rcases hI.cov i (mem_keys.2 ⟨v, h1⟩) with h | ⟨q, hq, _⟩
        · exact h
        · exact (List.not_mem_nil hq).elim
      · exact hI.m2 t ht (fun i hi => h1 i (hI.inE i hi)) v h2
    have hnil : Region.ready .any g.ops listed = [] → Q .normal a w := fun h0 => by
      cases pend with
      | nil => exact hdone rfl
      | cons pe r =>
        obtain ⟨j, hj⟩ := some_ready hI _ pe List.mem_cons_self rfl
        rw [h0] at hj; cases hj
    cases fuel with
    | zero =>
      have : pend = [] := List.length_eq_zero_iff.1 (by omega)
      refine ⟨List.eq_nil_iff_forall_not_mem.2 fun j hj => ?_, hdone this⟩
      obtain ⟨pe, hpe, _⟩ := hrd j hj
      rw [this] at hpe; cases hpe
    | succ fuel =>
      refine ⟨hnil, fun j hj => ?_⟩
      obtain ⟨pe, hpe, rfl⟩ := hrd j hj
      refine pend_exec hg hI hpe hj fun L' a' w' hI' => ?_
      have := filter_lt hpe
      exact ih _ (by omega) fuel L' _ _ a' w' rfl (by omega) hI'
/-- a drawn region -/
theorem draw_ok (hg : RgOk e R g) {Q : Exit → Act → World → Prop} {fr' : Fr} {s' : St} (hQ : ∀ L' a' w', Lo.le g.L0 L' → FrOk L' g.ro g.n fr' a' → Rep e R L' s' w' → Q .normal a' w') :
    ∀ (l : List Stp) (E : List (Nat × EV)) (fr : Fr) (s : St) (pl : List (Nat × Pn)), Ord g.ops (keys E) l → (drawC g.pg g.n g.ops l).go g.run pl fr s = .ok (fr', s') →
      ∀ (fuel : Nat) (L : Lo) (pend : List Pe) (listed : Array Bool) (a : Act) (w : World), pend.length + l.length ≤ fuel → DInv e R g L E fr s pl pend listed a w → wpAnyIn (Fw g.ro) 0 P .any g.ops Q fuel listed a w := by
  intro l
  induction l with
  | nil =>
    intro E fr s pl hO h fuel L pend listed a w hf hI
    cases h
    cases hO with
    | nil hE => exact draw_end hg hE hQ _ fuel L pend listed a w rfl (by simpa using hf) hI
  | cons st r ih =>
    intro E fr s pl hO h fuel L pend listed a w hf hI
    cases hO with
    | @still _ i o k _ ho hk hk0 hi ha hfr hr =>
      have e0 : drawC g.pg g.n g.ops (.still i o k :: r) = dStill i (gB g.pg g.ops o) k o.dst (drawC g.pg g.n g.ops r) := by
        show cnd (fitsC g.n o.dst) _ _ = _
        rw [(opFit_ok (hg.fit i o ho).1).1]; rfl
      rw [e0] at h
      have hf' : ∀ pe : Pe, (pe :: pend).length + r.length ≤ fuel := fun pe => by simp only [List.length_cons] at hf ⊢; omega
      have hkk : k = 1 ∨ k = 2 ∨ k = 3 := by
        have : kindE o.op = 1 ∨ kindE o.op = 2 ∨ kindE o.op = 3 ∨ kindE o.op = 0 := by
          cases o.op <;> simp only [kindE] <;> (first | simp | (split <;> simp))
          all_goals (split <;> simp)
        rw [hk] at this
        rcases this with h | h | h | h
        · exact .inl h
        · exact .inr (.inl h)
        · exact .inr (.inr h)
        · exact absurd h hk0
      rcases hkk with rfl | rfl | rfl
      · obtain ⟨⟨v, s1⟩, h1, h2⟩ := bd_ok (show bd ((gB g.pg g.ops o).go g.run fr s) (p2 fun v _ => (drawC g.pg g.n g.ops r).go g.run pl (putF fr o.dst v) s) = .ok (fr', s') from h)
        refine ih ((i, v) :: E) _ _ pl hr h2 fuel L (⟨i, o, fr, v, E, none⟩ :: pend) listed a w (hf' _) ?_
        exact absorb hg hI ho hi ha hfr rfl hI.rep (fun x hx => hx) (fun pe e1 e2 e3 e4 e5 => .inl ⟨by rw [e2, hk], e5, s, s1, by rw [e2, e3, e4]; exact h1⟩) (fun q hq s2 hs2 _ => ⟨s2, hs2⟩) (fun _ _ => rfl) (fun q hq => by cases hq)
      · obtain ⟨⟨v, s1⟩, h1, h2⟩ := bd_ok (show bd ((gB g.pg g.ops o).go g.run fr s) (p2 fun v _ => (drawC g.pg g.n g.ops r).go g.run ((i, askE (gB g.pg g.ops o) g.run fr v) :: pl) (putF fr o.dst v) s) = .ok (fr', s') from h)
        refine ih ((i, v) :: E) _ _ _ hr h2 fuel L (⟨i, o, fr, v, E, none⟩ :: pend) listed a w (hf' _) ?_
        exact absorb hg hI ho hi ha hfr rfl hI.rep (fun x hx => List.mem_cons_of_mem _ hx) (fun pe e1 e2 e3 e4 e5 => .inr (.inl ⟨by rw [e2, hk], e5, ⟨s1, by rw [e2, e3, e4]; exact h1⟩, by rw [e1, e2, e3, e4]; exact List.mem_cons_self⟩)) (fun q hq s2 hs2 _ => ⟨s2, hs2⟩) (fun _ _ => rfl) (fun q hq => by cases hq)
      · obtain ⟨⟨v, s1⟩, h1, h2⟩ := bd_ok (show bd ((gB g.pg g.ops o).go g.run fr s) (p2 fun v s' => cnd (Nat.beq s'.num s.num) ((drawC g.pg g.n g.ops r).go g.run pl (putF fr o.dst v) s)
          (bo 146 (s'.obj s.num) fun ob => cnd (asksE 0 pl (s.new ob)) ((drawC g.pg g.n g.ops r).go g.run pl (putF fr o.dst v) (s.new ob)) (.no 147 []))) = .ok (fr', s') from h)
        have h2 : cnd (Nat.beq s1.num s.num) ((drawC g.pg g.n g.ops r).go g.run pl (putF fr o.dst v) s) (bo 146 (s1.obj s.num) fun ob => cnd (asksE 0 pl (s.new ob)) ((drawC g.pg g.n g.ops r).go g.run pl (putF fr o.dst v) (s.new ob)) (.no 147 [])) = .ok (fr', s') := h2
        cases hn : Nat.beq s1.num s.num with
        | true =>
          rw [hn] at h2
          refine ih ((i, v) :: E) _ _ pl hr h2 fuel L (⟨i, o, fr, v, E, none⟩ :: pend) listed a w (hf' _) ?_
          exact absorb hg hI ho hi ha hfr rfl hI.rep (fun x hx => hx) (fun pe e1 e2 e3 e4 e5 => .inr (.inr ⟨by rw [e2, hk], s, s1, by rw [e2, e3, e4]; exact h1, .inl ⟨Nat.eq_of_beq_eq_true hn, e5⟩⟩)) (fun q hq s2 hs2 _ => ⟨s2, hs2⟩) (fun _ _ => rfl) (fun q hq => by cases hq)
        | false =>
          rw [hn] at h2
          obtain ⟨ob, h3, h4⟩ := bo_ok h2
          obtain ⟨hask, h4⟩ := cnd_ok h4
          have hnone := hI.rep.dom.none
          have hU0 : g.L0.u s.num = none := by
            rw [← hI.us s.num fun q hq z hz he => ?_]
            · exact hnone.2
            · rcases (hI.pes q hq).ev with ⟨_, h, _⟩ | ⟨_, h, _⟩ | ⟨_, s0, _, _, ⟨_, h⟩ | ⟨_, ob, _, h3, h4, _⟩⟩
              · rw [h] at hz; cases hz
              · rw [h] at hz; cases hz
              · rw [h] at hz; cases hz
              · rw [h3] at hz; cases hz
                rw [← he, h4] at hnone; cases hnone.2
          have hrep : Rep e R (L.wu fun z => if z = s.num then some ob else L.u z) (s.new ob) w := by
            refine (hI.rep.unborn ob).wu ⟨(hI.rep.dom.new ob).1, fun j b hb => ?_⟩
            have hb : (if j = s.num then some ob else L.u j) = some b := hb
            by_cases hj : j = s.num
            · rw [if_pos hj] at hb; cases hb
              subst hj
              exact ⟨hnone.1, by rw [St.new_num]; omega, fun o' ho' => St.new_same ho'⟩
            · rw [if_neg hj] at hb
              exact (hI.rep.dom.new ob).2 j b hb
          refine ih ((i, v) :: E) _ _ pl hr h4 fuel (L.wu fun z => if z = s.num then some ob else L.u z) (⟨i, o, fr, v, E, some (s.num, ob)⟩ :: pend) listed a w (hf' _) ?_
          refine absorb hg hI ho hi ha hfr rfl hrep (fun x hx => hx) (fun pe e1 e2 e3 e4 e5 => .inr (.inr ⟨by rw [e2, hk], s, s1, by rw [e2, e3, e4]; exact h1, .inr ⟨Nat.ne_of_beq_eq_false hn, ob, h3, e5, by simp [Lo.wu], hU0⟩⟩)) (fun q hq s2 hs2 hk2 => ?_) (fun z hz => ?_) (fun q hq => ?_)
          · rcases (hI.pes q hq).ev with ⟨h, _⟩ | ⟨_, _, _, h⟩ | ⟨h, _⟩
            · rw [h] at hk2; cases hk2
            · rcases asksE_ok hask _ _ h with h5 | h5
              · rw [hasB_eq] at h5; simp at h5
              · exact askE_ok h5
            · rw [h] at hk2; cases hk2
          · have : s.num ≠ z := hz _ rfl
            show (if z = s.num then some ob else L.u z) = L.u z
            rw [if_neg (Ne.symm this)]
          · cases hq; exact hnone.2
    | @act _ i o cl _ ho hi ha honly hcl hr =>
      have e0 : drawC g.pg g.n g.ops (.act i o cl :: r) = dAct cl (gB g.pg g.ops o) o.dst (drawC g.pg g.n g.ops r) := by
        show cnd (fitsC g.n o.dst) _ _ = _
        rw [(opFit_ok (hg.fit i o ho).1).1]; rfl
      rw [e0] at h
      obtain ⟨⟨v, s1⟩, h1, h2⟩ := bd_ok (show bd ((gB g.pg g.ops o).go g.run fr s) (p2 fun v s' => cnd (asksE cl pl s') ((drawC g.pg g.n g.ops r).go g.run pl (putF fr o.dst v) s') (.no 140 [])) = .ok (fr', s') from h)
      obtain ⟨hask, h3⟩ := cnd_ok (show cnd (asksE cl pl s1) ((drawC g.pg g.n g.ops r).go g.run pl (putF fr o.dst v) s1) (.no 140 []) = .ok (fr', s') from h2)
      -- the run does what is pending, or the operation
      have inner : ∀ (m fuel : Nat) (L : Lo) (pend : List Pe) (listed : Array Bool) (a : Act) (w : World), pend.length = m → m + 1 + r.length ≤ fuel → DInv e R g L E fr s pl pend listed a w → wpAnyIn (Fw g.ro) 0 P .any g.ops Q fuel listed a w := by
        intro m
        induction m using Nat.strongRecOn with
        | _ m ihm =>
          intro fuel L pend listed a w hm hf hI
          cases fuel with
          | zero => omega
          | succ fuel =>
            refine ⟨fun h0 => ?_, fun j hj => ?_⟩
            · cases pend with
              | cons pe r' =>
                obtain ⟨j, hj⟩ := some_ready hI _ pe List.mem_cons_self rfl
                rw [h0] at hj; cases hj
              | nil =>
                have : i ∈ Region.ready .any g.ops listed := by
                  refine mem_ready.2 ⟨getD_f.2 ?_, o, ho, fun ed he hb => getD_t.2 ?_⟩
                  · cases h : listed[i]? with
                    | none => rw [Array.getElem?_eq_none_iff, hI.size] at h; have := lt_of ho; omega
                    | some b =>
                      cases b with
                      | false => rfl
                      | true => exact absurd (hI.inE i h) hi
                  · rcases hI.cov ed.on (ha ed he hb) with h | ⟨q, hq, _⟩
                    · exact h
                    · cases hq
                rw [h0] at this; cases this
            · by_cases hjE : j ∈ keys E
              · obtain ⟨k1, oj, k2, k3⟩ := mem_ready.1 hj
                rcases hI.cov j hjE with h | ⟨pe, hpe, rfl⟩
                · rw [getD_f, h] at k1; cases k1
                · refine pend_exec hg hI hpe hj fun L' a' w' hI' => ?_
                  have := filter_lt hpe
                  exact ihm _ (by omega) fuel L' _ _ a' w' rfl (by omega) hI'
              · obtain ⟨k1, oj, k2, k3⟩ := mem_ready.1 hj
                have : j = i := honly j oj k2 hjE fun ed he hb => hI.inE _ (getD_t.1 (k3 ed he hb))
                subst this
                refine act_exec hg hI ho hi hj hcl h1 hask fun L' a' w' hI' => ?_
                exact ih ((j, v) :: E) _ _ pl hr h3 fuel L' pend _ a' w' (by omega) hI'
      exact inner _ fuel L pend listed a w rfl (by simp only [List.length_cons] at hf; omega) hI
end
/-! REGIONS -/
theorem dstOk_ok : ∀ {l : List Oper}, dstOk l = true → ∀ (i j : Nat) (d : Tmp) (oi oj : Oper), l[i]? = some oi → l[j]? = some oj → oi.dst = some d → oj.dst = some d → i = j
  | [], _, i, _, _, _, _, h, _, _, _ => by simp at h
  | o :: l, h, i, j, d, oi, oj, hi, hj, h1, h2 => by
    obtain ⟨k1, k2⟩ := band_ok (show band (dstsNe l o.dst) (dstOk l) = true from h)
    have ne : ∀ (x : Oper) (m : Nat), l[m]? = some x → x.dst = some d → o.dst = some d → False := fun x m hx hxd hod => by
      rw [hod] at k1
      have := List.all_eq_true.1 (show l.all (fun x => dstNe d x.dst) = true from k1) x (List.mem_of_getElem? hx)
      rw [hxd] at this
      have : bnot (Nat.beq d d) = true := this
      rw [bnot_eq, beq_eq] at this
      simp at this
    cases i with
    | zero =>
      cases j with
      | zero => rfl
      | succ j =>
        simp at hi hj
        subst hi
        exact (ne oj j hj h2 h1).elim
    | succ i =>
      cases j with
      | zero =>
        simp at hi hj
        subst hj
        exact (ne oi i hi h1 h2).elim
      | succ j =>
        simp at hi hj
        rw [dstOk_ok k2 i j d oi oj hi hj h1 h2]
theorem noSelL_ok : ∀ {l : List Oper}, noSelL l = true → ∀ o ∈ l, selB o = false
  | [], _, _, h => (List.not_mem_nil h).elim
  | x :: l, h, o, ho => by
    have h : cnd (selB x) false (noSelL l) = true := h
    cases hx : selB x with
    | true => rw [hx] at h; cases h
    | false =>
      rw [hx] at h
      rcases List.mem_cons.1 ho with rfl | ho
      · exact hx
      · exact noSelL_ok h o ho
theorem reg_ok {pg : Pg} (hpg : PgOk e R pg) {run : Run} (hr : SoundR e R pg run) (hm : P.follows .mixedOrders = true) {ro : Option Nat} {n id : Nat} {ops : Array Oper} {d : Bool} {fr fr' : Fr} {s s' : St} (h : (regC pg n ops d).go run fr s = .ok (fr', s'))
    {L : Lo} {a : Act} {w : World} (hg : Glo pg L) (hA : FrOk L ro n fr a) (hw : Rep e R L s w) : (Code.region id ops d).wpIn (Fw ro) 0 P (PostE e R L ro n .nor fr' s') a w := by
  cases d with
  | false =>
    have e0 : regC pg n ops false = cnd (band (noSelL ops.toList) (ops.toList.all (opFit n ops))) (listC pg n ops ops.toList) (.bad 143) := rfl
    rw [e0] at h
    cases hb : band (noSelL ops.toList) (ops.toList.all (opFit n ops)) with
    | false => rw [hb] at h; cases h
    | true =>
      rw [hb] at h
      obtain ⟨h1, h2⟩ := band_ok hb
      exact wpIn_region_list (list_ok hpg hr _ _ _ _ _ h (fun o ho => ⟨List.all_eq_true.1 h2 o ho, noSelL_ok h1 o ho⟩) L a w (Lo.le_refl L) hg hA hw)
  | true =>
    have e0 : regC pg n ops true = cnd (band (noSelL ops.toList) (band (ops.toList.all (opFit n ops)) (dstOk ops.toList))) (match orderC ops.size 0 [] (rcsC ops ops.toList 0) with
      | none => .bad 144
      | some l => cnd (Nat.ble (len l) ops.size) (.mk fun run fr s => (drawC pg n ops l).go run [] fr s) (.bad 149)) (.bad 145) := rfl
    rw [e0] at h
    cases hb : band (noSelL ops.toList) (band (ops.toList.all (opFit n ops)) (dstOk ops.toList)) with
    | false => rw [hb] at h; cases h
    | true =>
      rw [hb, cnd_true] at h
      obtain ⟨h1, h2⟩ := band_ok hb
      obtain ⟨h2, h3⟩ := band_ok h2
      cases ho : orderC ops.size 0 [] (rcsC ops ops.toList 0) with
      | none => rw [ho] at h; cases h
      | some l =>
        rw [ho] at h
        cases hle : Nat.ble (len l) ops.size with
        | false => simp only [hle, cnd_false] at h; cases h
        | true =>
        simp only [hle, cnd_true] at h
        have h : (drawC pg n ops l).go run [] fr s = .ok (fr', s') := h
        have hord := order_ok ho
        have hmem : ∀ (i : Nat) (o : Oper), ops[i]? = some o → o ∈ ops.toList := fun i o hi => Array.mem_toList_iff.2 (Array.mem_of_getElem? hi)
        have hgo : RgOk e R ⟨pg, run, ro, n, ops, fr, L⟩ := ⟨hpg, hr, hg, fun i o hi => ⟨List.all_eq_true.1 h2 o (hmem i o hi), noSelL_ok h1 o (hmem i o hi)⟩, fun i j d hi hj => by
          unfold dstOf at hi hj
          cases hoi : ops[i]? with
          | none => rw [hoi] at hi; cases hi
          | some oi =>
            cases hoj : ops[j]? with
            | none => rw [hoj] at hj; cases hj
            | some oj =>
              rw [hoi] at hi; rw [hoj] at hj
              exact dstOk_ok h3 i j d oi oj (by simpa using hoi) (by simpa using hoj) hi hj⟩
        have hlen : l.length ≤ ops.size := by rw [← len_eq]; exact Nat.le_of_ble_eq_true hle
        refine wpIn_region_any hm (draw_ok (g := ⟨pg, run, ro, n, ops, fr, L⟩) hgo (s' := s') (fr' := fr') (fun L' a' w' h1 h2 h3 => ⟨rfl, L', h1, h2, h3⟩) l [] fr s [] hord h _ L [] _ a _ (by simpa using hlen) ?_)
        have no : ∀ i : Nat, (Array.replicate ops.size false)[i]? ≠ some true := fun i hi => by
          rw [Array.getElem?_replicate] at hi
          split at hi <;> cases hi
        exact ⟨Lo.sub_refl L, ⟨hw.sat.drawn _, hw.dom⟩, by simp, fun i hi => absurd hi (no i), fun i hi => (by cases hi), fun j hj => absurd hj (no j), fun i v u h => (by cases h), fun t v ht hv => .inr ⟨fun i hi => (by cases hi), hv⟩, hA.size,
          fun t ht i v hi => (by cases hi), fun t ht _ v hv => hA.at_ t v ht (fun h => h) hv, hA.mark, fun q hq => (by cases hq), fun q hq => (by cases hq), fun q hq => (by cases hq), fun q hq => (by cases hq), fun x _ => rfl⟩
end Go.Proofs.YtiabhghlhnnnjaaGreatDoor.Ev
