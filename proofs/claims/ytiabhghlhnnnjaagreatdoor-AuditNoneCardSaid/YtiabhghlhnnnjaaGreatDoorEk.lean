/-
  THE EVALUATOR IS SOUND (thirteenth part: maps and iterators that turn).
-/
import Derived.Test.YtiabhghlhnnnjaaGreatDoorEj
import Derived.Deep.AppendSrc
set_option linter.unusedVariables false
set_option linter.unusedSimpArgs false
set_option maxRecDepth 100000
set_option maxHeartbeats 0
noncomputable section
namespace Go.Proofs.YtiabhghlhnnnjaaGreatDoor.Ev
open Go Sh Sl
variable {e : Env} {R : HProp}
theorem RealEs.get {L : Lo} : ∀ {es : List (EV × EV × Nat)} {r : List MapEntry} {j : Nat} {a v : EV} {b : Nat}, RealEs L es r → es[j]? = some (a, v, b) → ∃ x y, r[j]? = some ⟨x, y, b⟩ ∧ Real L a x ∧ Real L v y
  | _, _, _, _, _, _, .nil, h => by simp at h
  | _, _, 0, _, _, _, .cons hk hv t, h => by simp at h; obtain ⟨rfl, rfl, rfl⟩ := h; exact ⟨_, _, rfl, hk, hv⟩
  | _, _, j + 1, _, _, _, .cons hk hv t, h => t.get (j := j) (by simpa using h)
theorem RealEs.app {L : Lo} : ∀ {es fs : List (EV × EV × Nat)} {r q : List MapEntry}, RealEs L es r → RealEs L fs q → RealEs L (es ++ fs) (r ++ q)
  | _, _, _, _, .nil, h => h
  | _, _, _, _, .cons hk hv t, h => .cons hk hv (t.app h)
theorem modE_ok {L : Lo} {x : Value} {v : EV} {y : Value} (hv : Real L v y) : ∀ {es : List (EV × EV × Nat)} {r : List MapEntry} (j : Nat), RealEs L es r → (∀ e, r[j]? = some e → e.key = x) →
    RealEs L (modE (fun e => (e.1, v, e.2.2)) es j) (r.modify j fun e => { e with key := x, val := y })
  | [], _, j, .nil, _ => by cases j <;> exact .nil
  | _ :: _, _, 0, .cons hk hu t, h => by
    have := h _ rfl
    simp only at this
    subst this
    simp only [modE, List.modify_zero_cons]
    exact .cons hk hv t
  | _ :: _, _, j + 1, .cons hk hu t, h => by
    simp only [modE, List.modify_succ_cons]
    exact .cons hk hu (modE_ok hv j t fun e he => h e (by simpa using he))
theorem modV_ok {L : Lo} {v : EV} {y : Value} (hv : Real L v y) : ∀ {es : List (EV × EV × Nat)} {r : List MapEntry} (j : Nat), RealEs L es r →
    RealEs L (modE (fun e => (e.1, v, e.2.2)) es j) (r.modify j fun e => { e with val := y })
  | [], _, j, .nil => by cases j <;> exact .nil
  | _ :: _, _, 0, .cons hk hu t => by simp only [modE, List.modify_zero_cons]; exact .cons hk hv t
  | _ :: _, _, j + 1, .cons hk hu t => by simp only [modE, List.modify_succ_cons]; exact .cons hk hu (modV_ok hv j t)
/-- equal keys are one -/
theorem keyEq_same {L : Lo} {k a : EV} {x y : Value} (h : keyEq k a = some true) (hx : Real L k x) (hy : Real L a y) : x = y ∧ Instr.sameBits 10000 y x = true := by
  obtain ⟨n, hn⟩ : ∃ n, n + 1 = 10000 := ⟨9999, rfl⟩
  rw [← hn]
  unfold keyEq at h
  split at h
  · obtain ⟨h1, h2⟩ := cnd_some h
    have := kEq_ok h1; subst this
    have h3 : ieq _ _ = true := Option.some.inj h2
    rw [ieq_eq, decide_eq_true_eq] at h3
    subst h3
    rw [hx.int_inv, hy.int_inv]
    exact ⟨rfl, by simp [Instr.sameBits]⟩
  · have h3 : eqS _ _ = true := Option.some.inj h
    rw [eqS_eq, decide_eq_true_eq] at h3
    subst h3
    obtain ⟨_, rfl⟩ := hx.str_inv
    obtain ⟨_, rfl⟩ := hy.str_inv
    refine ⟨rfl, ?_⟩
    simp only [Instr.sameBits]
    rw [beq_toListBytes]; simp
  · rename_i u v
    have h3 : (u == v) = true := Option.some.inj h
    have h4 : u = v := by simpa using h3
    subst h4
    rw [hx.bool_inv, hy.bool_inv]
    exact ⟨rfl, by simp [Instr.sameBits]⟩
  · cases h
theorem find_key {L : Lo} {kt : TypeId} {d : TypeDesc} (hu : P.underlying kt = some d) {k : EV} {x : Value} (hx : Real L k x) (hd : kdOf d k) {es : List (EV × EV × Nat)} {r : List MapEntry} (hr : RealEs L es r) {q : Option (Nat × EV)} (hq : findE k es 0 = some q) (w : World) :
    (q = none ∧ (Instr.findKey kt x r).run P w = .ok none w) ∨ ∃ j v z y b a, q = some (j, v) ∧ (Instr.findKey kt x r).run P w = .ok (some (j, z)) w ∧ Real L v z ∧ es[j]? = some (a, v, b) ∧ r[j]? = some ⟨y, z, b⟩ ∧ y = x ∧ Instr.sameBits 10000 y x = true := by
  obtain ⟨q', h1, h2⟩ := findE_ok hx hd 0 hr hq
  have hf : (Instr.findKey kt x r).run P w = .ok q' w := by
    simp only [Instr.findKey, Sem.run_bind, run_underlying hu, Result.andThen_ok, h1, Sem.run_pure]
  rcases h2 with ⟨rfl, rfl⟩ | ⟨j, v, z, rfl, rfl, h3, a, b, h4, y, h5, h6, h7⟩
  · exact .inl ⟨rfl, hf⟩
  · obtain ⟨h8, h9⟩ := keyEq_same h7 hx h6
    exact .inr ⟨j, v, z, y, b, a, by rw [Nat.zero_add], by rw [Nat.zero_add] at hf; exact hf, h3, h4, h5, h8.symm, h9⟩
theorem run_stays {y x : Value} (h : Instr.sameBits 10000 y x = true) (w : World) : (Instr.keyThatStays y x).run P w = .ok x w := by
  unfold Instr.keyThatStays
  rw [if_pos h]; rfl
/-- a map's entry is written -/
theorem update_ok {L : Lo} {s s' : St} {w : World} (h : Rep e R L s w) {t : TypeId} {n : Nat} (hn : keyN t = some n) {m k v r : EV} (hi : insE n m k v s = some (r, s')) {mv x y : Value} (hm : Real L m mv) (hk : Real L k x) (hv : Real L v y) :
    ∃ w', r = .undef ∧ (Instr.mapUpdate t mv x y).run P w = .ok () w' ∧ Rep e R L s' w' := by
  obtain ⟨kt, vt, yk, h1, h2, h3⟩ := keyN_ok hn
  obtain ⟨i, h4, hi⟩ := ob2_ok hi
  obtain ⟨⟨es, cl⟩, h5, hi⟩ := ob2_ok hi
  obtain ⟨q, h6, hi⟩ := ob2_ok hi
  obtain ⟨d, h7, h8, h9⟩ := kd_of h2 h3 h6
  rw [map?_ok h4] at hm
  obtain ⟨p, hp, rfl⟩ := hm.map_inv
  obtain ⟨_, rs, h10, h11⟩ := h.map hp h5
  simp only at h10 h11
  have hg : (getObj p.b).run P w = .ok (.map rs.toArray cl) w := run_getObj h11 (by simp)
  rcases find_key h7 hk h8 h10 h9 w with ⟨rfl, hf⟩ | ⟨j, u, z, y0, b, a, rfl, hf, h12, h13, h14, h15, h16⟩
  · cases hi
    obtain ⟨rs', g1, g2, g3, g4⟩ := h.mapPut hp h5 (es := app es [(k, v, cl)]) (r := rs ++ [⟨x, y, cl⟩]) (c := cl + 1) (by rw [app_eq]; exact h10.app (.cons hk hv .nil))
    refine ⟨_, rfl, ?_, g4⟩
    have e1 : rs.toArray.push (MapEntry.mk x y cl) = (rs ++ [MapEntry.mk x y cl]).toArray := by simp
    simp only [Instr.mapUpdate, Sem.run_bind, run_underlying (dd_mp h1), Result.andThen_ok, hg, run_checkKey h2 h3, hf, e1, g3]
  · cases hi
    obtain ⟨rs', g1, g2, g3, g4⟩ := h.mapPut hp h5 (es := modE (fun e => (e.1, v, e.2.2)) es j) (r := rs.modify j fun e => { e with key := x, val := y }) (c := cl)
      (modE_ok hv j h10 fun e he => by rw [h14] at he; cases he; exact h15)
    refine ⟨_, rfl, ?_, g4⟩
    have e1 : ((rs.toArray[j]?).map (·.key)).getD x = y0 := by simp [h14]
    have e2 : (rs.toArray.modify j fun e => { e with key := x, val := y }) = (rs.modify j fun e => { e with key := x, val := y }).toArray := by simp
    simp only [Instr.mapUpdate, Sem.run_bind, run_underlying (dd_mp h1), Result.andThen_ok, hg, run_checkKey h2 h3, hf, e1, run_stays h16, e2, g3]
theorem entry_ok {L : Lo} {s s' : St} {w : World} (h : Rep e R L s w) {t : TypeId} {n : Nat} (hn : keyN t = some n) {z : EV} (hz : ob2 (mpT t) zvl = some z) {m k r : EV} (hi : mentE n z m k s = some (r, s')) {mv x : Value} (hm : Real L m mv) (hk : Real L k x) :
    ∃ y w', Real L r y ∧ (Instr.mapEntry t mv x).run P w = .ok y w' ∧ Rep e R L s' w' := by
  obtain ⟨kt, vt, yk, h1, h2, h3⟩ := keyN_ok hn
  obtain ⟨vt', h6', hz⟩ := ob2_ok hz
  obtain ⟨kt', h7'⟩ := mpT_ok h6'
  rw [h1] at h7'; cases h7'
  obtain ⟨zv, h8', h9'⟩ := zvl_ok (L := L) hz
  obtain ⟨i, h4, hi⟩ := ob2_ok hi
  obtain ⟨⟨es, cl⟩, h5, hi⟩ := ob2_ok hi
  obtain ⟨q, h6, hi⟩ := ob2_ok hi
  obtain ⟨d, h7, h8, h9⟩ := kd_of h2 h3 h6
  rw [map?_ok h4] at hm
  obtain ⟨p, hp, rfl⟩ := hm.map_inv
  obtain ⟨_, rs, h10, h11⟩ := h.map hp h5
  simp only at h10 h11
  have hg : (getObj p.b).run P w = .ok (.map rs.toArray cl) w := run_getObj h11 (by simp)
  rcases find_key h7 hk h8 h10 h9 w with ⟨rfl, hf⟩ | ⟨j, u, zz, y0, b, a, rfl, hf, h12, h13, h14, h15, h16⟩
  · cases hi
    obtain ⟨rs', g1, g2, g3, g4⟩ := h.mapPut hp h5 (es := app es [(k, z, cl)]) (r := rs ++ [⟨x, zv, cl⟩]) (c := cl + 1) (by rw [app_eq]; exact h10.app (.cons hk h8' .nil))
    refine ⟨_, _, .tup (.cons h8' (.one (.int .i64 (cl : Int)))), ?_, g4⟩
    have e1 : rs.toArray.push (MapEntry.mk x zv cl) = (rs ++ [MapEntry.mk x zv cl]).toArray := by simp
    simp only [Instr.mapEntry, Sem.run_bind, run_underlying (dd_mp h1), Result.andThen_ok, hg, run_checkKey h2 h3, hf, h9', e1, g3, Sem.run_pure]
    rfl
  · obtain ⟨e0, h17, hi⟩ := ob2_ok hi
    cases hi
    rw [nth_eq, h13] at h17
    cases h17
    have hsame : (rs.modify j fun e => { e with key := x }) = rs := by
      apply List.ext_getElem?
      intro l
      rw [List.getElem?_modify]
      by_cases hl : j = l
      · subst hl; rw [h14]; simp [h15]
      · simp [hl]
    obtain ⟨rs', g1, g2, g3, g4⟩ := h.mapPut hp h5 (es := es) (r := rs) (c := cl) h10
    refine ⟨_, _, .tup (.cons h12 (.one (.int .i64 (b : Int)))), ?_, g4⟩
    have e1 : ((rs.toArray[j]?).map (·.key)).getD x = y0 := by simp [h14]
    have e2 : (rs.toArray.modify j fun e => { e with key := x }) = rs.toArray := by simp [hsame]
    have e3 : ((rs.toArray[j]?).map (fun x => (x.born : Int))).getD 0 = (b : Int) := by simp [h14]
    simp only [Instr.mapEntry, Sem.run_bind, run_underlying (dd_mp h1), Result.andThen_ok, hg, run_checkKey h2 h3, hf, e1, run_stays h16, e2, e3, g3, Sem.run_pure]
    rfl
end Go.Proofs.YtiabhghlhnnnjaaGreatDoor.Ev
