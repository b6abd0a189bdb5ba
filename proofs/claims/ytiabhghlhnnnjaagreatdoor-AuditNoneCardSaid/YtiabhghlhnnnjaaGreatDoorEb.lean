/-
  THE EVALUATOR IS SOUND (sixth part: what reckons out of its operands alone).
-/
import Derived.Test.YtiabhghlhnnnjaaGreatDoorEa
set_option linter.unusedVariables false
set_option maxRecDepth 100000
set_option linter.unusedSimpArgs false
set_option maxHeartbeats 0
noncomputable section
namespace Go.Proofs.YtiabhghlhnnnjaaGreatDoor.Ev
open Go Sh Sl
theorem run_isAg {t : TypeId} {y : TI} (h : ti t = some y) (w : World) : (isAgg t).run P w = .ok (isAg y) w := by
  obtain ⟨i, d, h1, h2, h3, h4, h5⟩ := ti_spec h
  simp only [isAgg, Sem.run_bind, run_underlying h2, Result.andThen_ok]
  unfold isAg
  rw [← h5]
  cases d <;> rfl
theorem one1_ok {l : List EV} {v : EV} (h : one1 l = some v) : l = [v] := by
  match l, h with
  | [x], h => cases h; rfl
theorem rdE_part {L : Lo} {t : TypeId} {y : TI} (h : ti t = some y) {l : List EV} {vs : List Value} (hl : Reals L l vs) {off : Nat} {v : EV} (hv : rdE (isAg y) y.size (tke (drp l off) y.size) = some v) :
    ∃ x, Real L v x ∧ ∀ w, (Go.part t vs.toArray off).run P w = .ok x w := by
  rw [tke_eq, drp_eq] at hv
  have hr := (hl.drop off).take y.size
  cases hg : isAg y with
  | true =>
    rw [hg] at hv
    obtain ⟨h1, hv⟩ := cnd_some (show cnd (Nat.beq (len ((l.drop off).take y.size)) y.size) (some (.agg ((l.drop off).take y.size))) none = some v from hv)
    cases hv
    refine ⟨_, .agg hr, fun w => ?_⟩
    obtain ⟨i, d, g1, g2, g3, g4, g5⟩ := ti_spec h
    simp only [Go.part, Sem.run_bind, run_isAg h, hg, Result.andThen_ok, if_true, run_sizeOf' g1, Sem.run_pure, g3]
    congr 2
    apply Array.toList_inj.1
    simp [Array.toList_extract, List.extract_eq_take_drop]
  | false =>
    rw [hg] at hv
    have h1 := one1_ok (show one1 ((l.drop off).take y.size) = some v from hv)
    rw [h1] at hr
    generalize hq : (vs.drop off).take y.size = q at hr
    cases hr with
    | cons hx ht =>
      cases ht
      rename_i x
      refine ⟨x, hx, fun w => ?_⟩
      have e1 : vs[off]? = some x := by
        have := congrArg (fun l => l[0]?) hq
        simp only [List.getElem?_take, List.getElem?_drop, Nat.add_zero, List.getElem?_cons_zero] at this
        split at this
        · exact this
        · cases this
      simp [Go.part, run_isAg h, hg, e1]
/-! parts put together -/
theorem cellsE_ok {L : Lo} {v : EV} {x : Value} (h : Real L v x) (ht : ∀ l, v ≠ .tup l) : Reals L (cellsE v) x.cells.toList := by
  cases h
  case agg l xs h => simpa [cellsE, Value.cells] using h
  case tup l xs h => exact absurd rfl (ht l)
  case slicx hL hz hn => exact .one (.slicx hL hz hn)
  all_goals exact .one (by first | exact .int _ _ | exact .bool _ | exact .str _ ‹_› | exact .nilp | exact .ptr ‹_› | exact .nils | exact .slice ‹_› | exact .nilm | exact .map ‹_› | exact .fn ‹_› ‹_› | exact .nilf | exact .iface ‹_› | exact .nili | exact .flt _ | exact .cpx _ _ | exact .yld ‹_› | exact .undef)
theorem fillE_ok {L : Lo} (pl : Nat → Option (Nat × Nat)) : ∀ (ps : List (Nat × EV)) (qs : List (Nat × Value)) (cs out : List EV) (zs : List Value), ps.map (·.1) = qs.map (·.1) → Reals L (ps.map (·.2)) (qs.map (·.2)) → Reals L cs zs → fillE pl cs ps = some out →
    ∃ os, fillL pl zs qs = some os ∧ Reals L out os
  | [], [], cs, out, zs, _, _, hz, h => by cases h; exact ⟨zs, rfl, hz⟩
  | [], _ :: _, _, _, _, h, _, _, _ => by simp at h
  | _ :: _, [], _, _, _, h, _, _, _ => by simp at h
  | (i, v) :: ps, (j, x) :: qs, cs, out, zs, h1, h2, hz, h => by
    simp only [List.map_cons, List.cons.injEq] at h1
    obtain ⟨rfl, h1⟩ := h1
    simp only [List.map_cons] at h2
    cases h2 with
    | cons hx ht =>
      simp only [fillE] at h
      cases hp : pl i with
      | none => simp only [hp] at h; cases h
      | some p =>
        obtain ⟨off, sz⟩ := p
        simp only [hp] at h
        cases hv : notTup v with
        | false => simp only [hv, show ∀ b, band false b = false from fun b => by cases b <;> rfl] at h; cases h
        | true =>
        cases hb : Nat.beq (len (cellsE v)) sz with
        | false => simp only [hv, hb, show band true false = false from rfl] at h; cases h
        | true =>
          simp only [hv, hb, show band true true = true from rfl] at h
          cases hl : Nat.ble (off + sz) (len cs) with
          | false => simp only [hl] at h; cases h
          | true =>
              simp only [hl] at h
              have e1 := Nat.eq_of_beq_eq_true hb
              have e2 := Nat.le_of_ble_eq_true hl
              rw [len_eq] at e1 e2
              have hc : Reals L (cellsE v) x.cells.toList := cellsE_ok hx fun l e => by subst e; cases hv
              have hlen := hc.length
              have hzl := hz.length
              rw [spl_eq _ _ _ (by omega)] at h
              have hr : Reals L (cs.take off ++ cellsE v ++ cs.drop (off + (cellsE v).length)) (zs.take off ++ x.cells.toList ++ zs.drop (off + x.cells.toList.length)) := by
                rw [hlen]; exact ((hz.take off).append hc).append (hz.drop _)
              obtain ⟨os, g1, g2⟩ := fillE_ok pl ps qs _ out _ h1 ht hr h
              refine ⟨os, ?_, g2⟩
              simp only [fillL, hp]
              have c1 : Nat.beq x.cells.toList.length sz = true := by rw [beq_eq]; exact decide_eq_true (by omega)
              have c2 : Nat.ble (off + x.cells.toList.length) zs.length = true := by rw [ble_eq]; exact decide_eq_true (by omega)
              rw [c1, c2]; exact g1
/-! the text's values -/
mutual
theorem ofV_ok {L : Lo} : ∀ (x : Value) (v : EV), ofV x = some v → Real L v x
  | .bool b, v, h => by cases h; exact .bool b
  | .int k n, v, h => by cases h; exact .int k n
  | .string s, v, h => by
    simp only [ofV, Option.some.injEq] at h
    subst h
    have : Real L (.str (s.data.toList.map UInt8.toNat)) (.string (ba (bts (s.data.toList.map UInt8.toNat)))) := .str _ fun x hx => by
      obtain ⟨b, _, rfl⟩ := List.mem_map.1 hx
      exact b.toNat_lt
    have e : ba (bts (s.data.toList.map UInt8.toNat)) = s := by
      apply ByteArray.ext
      simp [bts, ba, Function.comp_def]
    rw [e] at this; exact this
  | .float .f64 b, v, h => by cases h; exact .flt b
  | .complex .f64 a b, v, h => by cases h; exact .cpx a b
  | .pointer none, v, h => by cases h; exact .nilp
  | .slice none 0 0, v, h => by cases h; exact .nils
  | .map none, v, h => by cases h; exact .nilm
  | .func (.func f) ⟨[]⟩ ⟨[]⟩, v, h => by cases h; exact .fn (x := []) (y := []) .nil .nil
  | .nilFunc, v, h => by cases h; exact .nilf
  | .nilIface, v, h => by cases h; exact .nili
  | .iface t x, v, h => by
    simp only [ofV, Option.map_eq_some_iff] at h
    obtain ⟨u, h1, rfl⟩ := h
    exact .iface (ofV_ok x u h1)
  | .agg ⟨l⟩, v, h => by
    simp only [ofV, Option.map_eq_some_iff] at h
    obtain ⟨u, h1, rfl⟩ := h
    exact .agg (ofVs_ok l u h1)
  | .tuple ⟨l⟩, v, h => by
    simp only [ofV, Option.map_eq_some_iff] at h
    obtain ⟨u, h1, rfl⟩ := h
    exact .tup (ofVs_ok l u h1)
  | .float .f32 b, v, h => by cases h
  | .complex .f32 a b, v, h => by cases h
  | .pointer (some a), v, h => by cases h
  | .slice (some a) n c, v, h => by cases h
  | .slice none (n + 1) c, v, h => by cases h
  | .slice none 0 (c + 1), v, h => by cases h
  | .map (some a), v, h => by cases h
  | .chan a, v, h => by cases h
  | .func f a b, v, h => by
    unfold ofV at h
    split at h <;> first | (cases h; done) | (rename_i e; cases e; cases h; exact .fn (x := []) (y := []) .nil .nil) | (rename_i e; cases e)
theorem ofVs_ok {L : Lo} : ∀ (x : List Value) (v : List EV), ofVs x = some v → Reals L v x
  | [], v, h => by cases h; exact .nil
  | x :: l, v, h => by
    simp only [ofVs] at h
    cases h1 : ofV x with
    | none => rw [h1] at h; cases h
    | some u =>
      cases h2 : ofVs l with
      | none => rw [h1, h2] at h; cases h
      | some r => rw [h1, h2] at h; cases h; exact .cons (ofV_ok x u h1) (ofVs_ok l r h2)
end
theorem zroE_ok {L : Lo} {t : TypeId} {z : List EV} (h : zroE t = some z) : ∃ zs, zro t = some zs ∧ Reals L z zs := by
  unfold zroE at h
  cases hz : zro t with
  | none => rw [hz] at h; cases h
  | some zs => rw [hz] at h; exact ⟨zs, rfl, ofVs_ok zs z h⟩
end Go.Proofs.YtiabhghlhnnnjaaGreatDoor.Ev
