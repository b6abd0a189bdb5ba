/-
  THE EVALUATOR IS SOUND (ninth part: built-in functions that reckon or read).
-/
import Derived.Test.YtiabhghlhnnnjaaGreatDoorEd
set_option linter.unusedVariables false
set_option maxRecDepth 100000
set_option linter.unusedSimpArgs false
set_option maxHeartbeats 0
noncomputable section
namespace Go.Proofs.YtiabhghlhnnnjaaGreatDoor.Ev
open Go Sh Sl
variable {e : Env} {R : HProp}
theorem run_built {ρ : Operand → Value} {o : Oper} {c : Call} {b : Builtin} (ho : o.op = .call c) (hb : c.callee = .builtin b) (w : World) :
    ∃ cs, (execOp ρ o).run P w = (Go.builtin b c.argTypes o.type cs (c.args.map ρ)).run P w := by
  obtain ⟨dst, op, type, pos, after, guard⟩ := o
  simp only at ho
  subst ho
  exact ⟨_, by simp only [execOp, resolve, hb, Sem.run_bind, Sem.run_pure, Result.andThen_ok, invoke]; rfl⟩
theorem args1 {c : Call} {q : Operand} (h : c.args.toList = [q]) (ρ : Operand → Value) : c.args.map ρ = #[ρ q] := by
  have : c.args = #[q] := Array.toList_inj.1 (by simpa using h)
  rw [this]; simp
theorem args2 {c : Call} {q r : Operand} (h : c.args.toList = [q, r]) (ρ : Operand → Value) : c.args.map ρ = #[ρ q, ρ r] := by
  have : c.args = #[q, r] := Array.toList_inj.1 (by simpa using h)
  rw [this]; simp
theorem types1 {c : Call} {t : TypeId} (h : c.argTypes.toList = [t]) : c.argTypes = #[t] := Array.toList_inj.1 (by simpa using h)
theorem types2 {c : Call} {t u : TypeId} (h : c.argTypes.toList = [t, u]) : c.argTypes = #[t, u] := Array.toList_inj.1 (by simpa using h)
theorem mem_args {c : Call} {q : Operand} (h : q ∈ c.args.toList) : q ∈ (Op.call c).operands := by
  have := Array.mem_toList_iff.1 h
  simp only [Op.operands, Call.operands]
  cases c.callee <;> simp [this]
theorem Real.nils_inv {L : Lo} {x : Value} (h : Real L .nils x) : x = .slice none 0 0 := by cases h; rfl
theorem Real.nilm_inv {L : Lo} {x : Value} (h : Real L .nilm x) : x = .map none := by cases h; rfl
theorem goInt_nat (n : Nat) : goInt n = .int .i64 (n : Int) := rfl
theorem RealEs.length {L : Lo} : ∀ {l : List (EV × EV × Nat)} {r : List MapEntry}, RealEs L l r → r.length = l.length
  | _, _, .nil => rfl
  | _, _, .cons _ _ t => by simp [t.length]
theorem minE_ok {L : Lo} {g : Bool} {x y v : EV} (h : minE g x y = some v) {a c : Value} (ha : Real L x a) (hc : Real L y c) {ts : Array TypeId} {t : TypeId} :
    ∃ z, Real L v z ∧ ∀ w, ((if g then Builtin.min_ else Builtin.max_) ts t #[a, c]).run P w = .ok z w := by
  unfold minE at h
  split at h
  · rename_i k m j n
    obtain ⟨h1, h2⟩ := cnd_some h
    have := kEq_ok h1; subst this
    cases h2
    rw [ha.int_inv, hc.int_inv]
    refine ⟨_, .int _ _, fun w => ?_⟩
    cases g with
    | true =>
      simp only [if_true]
      rw [run_vS' st_min w, cnd_true, ile_eq]
      by_cases hh : m ≤ n
      · rw [decide_eq_true hh, cnd_true, if_neg (by omega)]
      · rw [decide_eq_false hh, cnd_false, if_pos (by omega)]
    | false =>
      simp only [Bool.false_eq_true, if_false]
      rw [run_vS' st_max w, cnd_false, ile_eq]
      by_cases hh : n ≤ m
      · rw [decide_eq_true hh, cnd_true, if_neg (by omega)]
      · rw [decide_eq_false hh, cnd_false, if_pos (by omega)]
  · rename_i m n
    cases g with
    | false => cases h
    | true =>
      rw [cnd_true] at h
      obtain ⟨o, h1, h⟩ := ob2_ok h
      rw [ha.flt_inv, hc.flt_inv]
      have ho : FloatKind.f64.format.order m n = some o := h1
      simp only [if_true]
      cases o with
      | lt => cases h; exact ⟨_, .flt _, fun w => by simp [Builtin.min_, Builtin.min2, ho]⟩
      | gt => cases h; exact ⟨_, .flt _, fun w => by simp [Builtin.min_, Builtin.min2, ho]⟩
      | eq =>
        obtain ⟨h2, h3⟩ := cnd_some (show cnd (Nat.beq m n) (some (.flt m)) none = some v from h)
        cases h3
        have := Nat.eq_of_beq_eq_true h2; subst this
        exact ⟨_, .flt _, fun w => by simp [Builtin.min_, Builtin.min2, ho]⟩
  · cases h
/-- BUILT-IN FUNCTIONS THAT RECKON OR READ. -/
theorem built_op {L : Lo} {gi : Nat → Option Nat} {fr : Fr} {ρ : Operand → Value} {o : Oper} {c : Call} {b : Builtin} {run : Run} {s s' : St} {v : EV} (ho : o.op = .call c) (hb : c.callee = .builtin b) (hk : kindE o.op = 1 ∨ kindE o.op = 2)
    (h : (builtC b c.argTypes.toList (c.args.toList.map (oqC gi))).go run fr s = .ok (v, s')) (hO : Ops L gi fr ρ o.op) : s' = s ∧ (ReadAt e R L s ρ o v ∧ (kindE o.op = 1 → PureAt L ρ o v)) := by
  have hop : ∀ q ∈ c.args.toList, ∀ v, (oqC gi q).get fr = some v → Real L v (ρ q) := fun q hq v hv => hO q (by rw [ho]; exact mem_args hq) v hv
  have both : PureAt L ρ o v → ReadAt e R L s ρ o v ∧ (kindE o.op = 1 → PureAt L ρ o v) := fun ⟨x, h1, h2⟩ => ⟨fun w _ => ⟨x, h1, h2 w⟩, fun _ => ⟨x, h1, h2⟩⟩
  rw [ho] at hk
  simp only [kindE, hb] at hk
  have rb := fun w => run_built (ρ := ρ) ho hb w
  rcases hts : c.argTypes.toList with _ | ⟨t, _ | ⟨u, _ | ⟨z, tz⟩⟩⟩ <;> rcases has : c.args.toList with _ | ⟨x, _ | ⟨y, _ | ⟨x', tx⟩⟩⟩ <;> rw [hts, has] at h <;> cases b <;> (first | (simp at hk; done) | (cases h; done) | skip)
  case cons.nil.cons.nil.len =>
    rw [has] at hop
    obtain ⟨yt, g1, h⟩ := ost_ok h
    have hd := dd_of g1
    cases hy : yt.d <;> simp only [hy] at h <;> (first | (cases h; done) | skip)
    · rw [hy] at hd
      obtain ⟨h1, rfl⟩ := pv_ok h
      obtain ⟨r, h2, h1⟩ := q1_ok h1
      have hr := hop x (by simp) r h2
      refine ⟨rfl, both ?_⟩
      unfold lenSl at h1
      split at h1
      · cases h1
        have hx := hr.nils_inv
        refine ⟨_, .int _ _, fun w => ?_⟩
        obtain ⟨cs, h3⟩ := rb w
        rw [h3, types1 hts, args1 has, hx]
        exact run_vS (run_vS' (st_len hd) w)
      · cases h1
        obtain ⟨p, hp, hx⟩ := hr.slice_inv
        refine ⟨_, .int _ _, fun w => ?_⟩
        obtain ⟨cs, h3⟩ := rb w
        rw [h3, types1 hts, args1 has, hx]
        exact run_vS (run_vS' (st_len hd) w)
      · cases h1
    · rw [hy] at hd
      obtain ⟨h1, rfl⟩ := sv_ok h
      obtain ⟨r, h2, h1⟩ := ob2_ok h1
      have hr := hop x (by simp) r h2
      refine ⟨rfl, fun w hw => ?_, fun hh => by rw [ho] at hh; simp [kindE, hb] at hh⟩
      obtain ⟨cs, h3⟩ := rb w
      unfold lenM at h1
      split at h1
      · cases h1
        have hx := hr.nilm_inv
        refine ⟨_, .int _ _, ?_⟩
        rw [h3, types1 hts, args1 has, hx]
        exact run_vS (by simp [Builtin.len_, run_underlying (dd_mp hd), goInt])
      · obtain ⟨p, h4, h1⟩ := ob2_ok h1
        cases h1
        obtain ⟨p', h5, hx⟩ := hr.map_inv
        obtain ⟨_, rr, h6, h7⟩ := hw.map h5 h4
        refine ⟨_, .int _ _, ?_⟩
        rw [h3, types1 hts, args1 has, hx]
        have hg : (getObj p'.b).run P w = .ok (.map rr.toArray p.2) w := by simp [getObj, Sem.run, h7]
        refine run_vS ?_
        have hlen : rr.length = len p.1 := by rw [len_eq, h6.length]
        simp [Builtin.len_, run_underlying (dd_mp hd), hg, goInt, hlen]
      · cases h1
    · rw [hy] at hd
      obtain ⟨h1, rfl⟩ := pv_ok h
      obtain ⟨r, h2, h1⟩ := q1_ok h1
      have hr := hop x (by simp) r h2
      refine ⟨rfl, both ?_⟩
      unfold lenSt at h1
      split at h1
      · cases h1
        obtain ⟨_, hx⟩ := hr.str_inv
        refine ⟨_, .int _ _, fun w => ?_⟩
        obtain ⟨cs, h3⟩ := rb w
        rw [h3, types1 hts, args1 has, hx]
        have := run_vS' (st_lenS (t := t) (ty := o.type) (s := ba (bts ‹_›)) hd) w
        refine run_vS ?_
        rw [this, len_eq]
        simp [ba, ByteArray.size, bts_len]
      · cases h1
  case cons.nil.cons.nil.cap =>
    rw [has] at hop
    obtain ⟨yt, g1, h⟩ := ost_ok h
    have hd := dd_of g1
    cases hy : yt.d <;> simp only [hy] at h <;> (first | (cases h; done) | skip)
    rw [hy] at hd
    obtain ⟨h1, rfl⟩ := pv_ok h
    obtain ⟨r, h2, h1⟩ := q1_ok h1
    have hr := hop x (by simp) r h2
    refine ⟨rfl, both ?_⟩
    unfold capV at h1
    split at h1
    · cases h1
      have hx := hr.nils_inv
      refine ⟨_, .int _ _, fun w => ?_⟩
      obtain ⟨cs, h3⟩ := rb w
      rw [h3, types1 hts, args1 has, hx]
      exact run_vS (run_vS' (st_cap hd) w)
    · cases h1
      obtain ⟨p, hp, hx⟩ := hr.slice_inv
      refine ⟨_, .int _ _, fun w => ?_⟩
      obtain ⟨cs, h3⟩ := rb w
      rw [h3, types1 hts, args1 has, hx]
      exact run_vS (run_vS' (st_cap hd) w)
    · cases h1
  case cons.nil.cons.nil.real =>
    rw [has] at hop
    obtain ⟨h1, rfl⟩ := pv_ok h
    obtain ⟨r, h2, h1⟩ := q1_ok h1
    obtain ⟨p, h3, h1⟩ := ob2_ok h1
    cases h1
    have hr := hop x (by simp) r h2
    rw [cpx?_ok h3] at hr
    refine ⟨rfl, both ⟨_, .flt _, fun w => ?_⟩⟩
    obtain ⟨cs, h4⟩ := rb w
    rw [h4, args1 has, hr.cpx_inv]; rfl
  case cons.nil.cons.nil.imag =>
    rw [has] at hop
    obtain ⟨h1, rfl⟩ := pv_ok h
    obtain ⟨r, h2, h1⟩ := q1_ok h1
    obtain ⟨p, h3, h1⟩ := ob2_ok h1
    cases h1
    have hr := hop x (by simp) r h2
    rw [cpx?_ok h3] at hr
    refine ⟨rfl, both ⟨_, .flt _, fun w => ?_⟩⟩
    obtain ⟨cs, h4⟩ := rb w
    rw [h4, args1 has, hr.cpx_inv]; rfl
  case cons.cons.nil.cons.cons.nil.complex =>
    rw [has] at hop
    obtain ⟨h1, rfl⟩ := pv_ok h
    obtain ⟨r, q, h2, h3, h1⟩ := q2_ok h1
    obtain ⟨m, h4, h1⟩ := ob2_ok h1
    obtain ⟨n, h5, h1⟩ := ob2_ok h1
    cases h1
    have hr := hop x (by simp) r h2
    have hq := hop y (by simp) q h3
    rw [flt?_ok h4] at hr
    rw [flt?_ok h5] at hq
    refine ⟨rfl, both ⟨_, .cpx _ _, fun w => ?_⟩⟩
    obtain ⟨cs, h6⟩ := rb w
    rw [h6, args2 has, hr.flt_inv, hq.flt_inv]; rfl
  case cons.cons.nil.cons.cons.nil.min =>
    rw [has] at hop
    obtain ⟨h1, rfl⟩ := pv_ok h
    obtain ⟨r, q, h2, h3, h1⟩ := q2_ok h1
    obtain ⟨zz, h4, h5⟩ := minE_ok h1 (hop x (by simp) r h2) (hop y (by simp) q h3) (ts := c.argTypes) (t := o.type)
    refine ⟨rfl, both ⟨_, h4, fun w => ?_⟩⟩
    obtain ⟨cs, h6⟩ := rb w
    rw [h6, args2 has]
    exact run_vS (h5 w)
  case cons.cons.nil.cons.cons.nil.max =>
    rw [has] at hop
    obtain ⟨h1, rfl⟩ := pv_ok h
    obtain ⟨r, q, h2, h3, h1⟩ := q2_ok h1
    obtain ⟨zz, h4, h5⟩ := minE_ok h1 (hop x (by simp) r h2) (hop y (by simp) q h3) (ts := c.argTypes) (t := o.type)
    refine ⟨rfl, both ⟨_, h4, fun w => ?_⟩⟩
    obtain ⟨cs, h6⟩ := rb w
    rw [h6, args2 has]
    exact run_vS (h5 w)
end Go.Proofs.YtiabhghlhnnnjaaGreatDoor.Ev
