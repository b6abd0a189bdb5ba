/-
  THE EVALUATOR IS SOUND (tenth part: what makes something new out of its operands).
-/
import Derived.Test.YtiabhghlhnnnjaaGreatDoorEg
set_option linter.unusedVariables false
set_option maxRecDepth 100000
set_option linter.unusedSimpArgs false
set_option maxHeartbeats 0
noncomputable section
namespace Go.Proofs.YtiabhghlhnnnjaaGreatDoor.Ev
open Go Sh Sl
variable {e : Env} {R : HProp}
/-- the operation gives 'v'; it bears the object of number 'i', if there is one -/
def BirthAt (e : Env) (R : HProp) (L : Lo) (i : Nat) (ob : EO) (m : Sem Value) (v : EV) : Prop := ∀ (M : Lo) (s2 : St) (w : World), Lo.le L M → (M i = none ∧ M.u i = none) → i < s2.num → (∀ o', s2.obj i = some o' → o' = ob) → Rep e R M s2 w →
  ∃ p x w', m.run P w = .ok x w' ∧ Real (M.up i p) v x ∧ Rep e R (M.up i p) s2 w'
def FreshAt (e : Env) (R : HProp) (L : Lo) (s s' : St) (ρ : Operand → Value) (o : Oper) (v : EV) : Prop := (s' = s ∧ PureAt L ρ o v) ∨ ∃ ob m, s' = s.new ob ∧ execOp ρ o = vS m ∧ BirthAt e R L s.num ob m v
theorem nextK_vS {m : Sem Value} {c : Value → WP} {w : World} (h : NextK P (vS m) c w) : ∃ v w', m.run P w = .ok v w' ∧ c v w' := by
  unfold NextK vS at h
  rw [Sem.run_bind] at h
  cases hm : m.run P w with
  | ok v w' => rw [hm] at h; exact ⟨v, w', rfl, h⟩
  | halt x w' => rw [hm] at h; exact h.elim
/-- a rule of the second layer, used for a birth -/
theorem birth_of {L : Lo} {i : Nat} {ob : EO} {m : Sem Value} {v : EV} (h : ∀ (M : Lo) (s2 : St) (c : Value → WP), Lo.le L M → M i = none →
    (∀ p x w', Real (M.up i p) v x → Sat e (sepL (pobj (M.up i p) p ob :: R :: prts M s2)) w' → c x w') → Ent e (R :: prts M s2) (OpK P (.one .raw) (vS m) c)) : BirthAt e R L i ob m v := by
  intro M s2 w hl h1 h2 h3 hr
  have := h M s2 (fun x w' => ∃ p, Real (M.up i p) v x ∧ Rep e R (M.up i p) s2 w') hl h1.1 (fun p x w' hx hs => ⟨p, hx, Rep.born h1 h2 h3 hr.dom hs⟩) w hr.sat
  obtain ⟨x, w', hrun, u, hu, p, hx, hr'⟩ := nextK_vS (m := m) this
  have hu : x = u := hu
  subst hu
  exact ⟨p, x, w', hrun, hx, hr'⟩
theorem adr0 (b c z : Nat) : Lc.adr ⟨b, 0, c, z⟩ 0 = ⟨b, 0, none⟩ := rfl
/-- a new row, all of whose room is known -/
theorem row_birth {M : Lo} {i b m : Nat} {cs : List EV} {vs : List Value} {s2 : St} {w' : World} {p : Lc} (hp : p = ⟨b, 0, 0, 0⟩) (hc : Reals (M.up i p) cs vs) (hn : cs.length = m) (hs : Sat e (sepL (pt b vs :: R :: prts M s2)) w') :
    Sat e (sepL (pobj (M.up i p) p (.row cs m true) :: R :: prts M s2)) w' := by
  subst hp
  exact hs.imp fun x k => sepL_cons (fun g hg => ⟨vs, hc, hn, rfl, hg⟩) (fun _ z => z) k
theorem Reals.up {L M : Lo} (hl : Lo.le L M) {i : Nat} {p : Lc} (h1 : M i = none) {cs : List EV} {vs : List Value} (h : Reals L cs vs) : Reals (M.up i p) cs vs := h.le (Lo.le_trans hl (Lo.le_up p h1))
/-! slices -/
/-- a bound, given or not -/
def Bnd (o : Option Value) (d n : Nat) : Prop := (o = none ∧ n = d) ∨ ∃ k, o = some (.int k (n : Int))
theorem run_bounds {is : Bool} {len cap l h m : Nat} {lo hi mx : Option Value} (h1 : Bnd mx cap m) (h2 : Bnd hi len h) (h3 : Bnd lo 0 l) (g1 : l ≤ h) (g2 : h ≤ m) (g3 : m ≤ cap) (g4 : mx = none ∨ hi ≠ none) (w : World) :
    (Instr.sliceBounds is len cap lo hi mx).run P w = .ok (l, h, m) w := by
  have b := fun (k : IntKind) (n y : Nat) (code : BoundsCode) (hn : n ≤ y) => run_sliceBound (P := P) w k (n : Int) y code (by omega) (by omega)
  rcases h1 with ⟨rfl, rfl⟩ | ⟨k1, rfl⟩ <;> rcases h2 with ⟨rfl, rfl⟩ | ⟨k2, rfl⟩ <;> rcases h3 with ⟨rfl, rfl⟩ | ⟨k3, rfl⟩
  · simp [Instr.sliceBounds]
  · simp [Instr.sliceBounds, b _ _ _ _ g1]
  · simp [Instr.sliceBounds, b _ _ _ _ g2]
  · simp [Instr.sliceBounds, b _ _ _ _ g1, b _ _ _ _ g2]
  · rcases g4 with h | h <;> simp at h
  · rcases g4 with h | h <;> simp at h
  · simp [Instr.sliceBounds, b _ _ _ _ g2, b _ _ _ _ g3]
  · simp [Instr.sliceBounds, b _ _ _ _ g1, b _ _ _ _ g2, b _ _ _ _ g3]
theorem onat_ok {L : Lo} {gi : Nat → Option Nat} {fr : Fr} {ρ : Operand → Value} {o : Option Operand} {a : Option EV} (h : oget (o.map (oqC gi)) fr = some a) (hr : ∀ q, o = some q → ∀ v, (oqC gi q).get fr = some v → Real L v (ρ q))
    {d n : Nat} (hn : onat d a = some n) : Bnd (o.map ρ) d n ∧ (a.isSome = o.isSome) := by
  cases o with
  | none =>
    cases (show some none = some a from h)
    cases (show some d = some n from hn)
    exact ⟨.inl ⟨rfl, rfl⟩, rfl⟩
  | some q =>
    obtain ⟨v, h1, h2⟩ := ob2_ok (show ob2 ((oqC gi q).get fr) (fun v => some (some v)) = some a from h)
    cases h2
    obtain ⟨k, rfl⟩ := nat?_ok (show v.nat? = some n from hn)
    exact ⟨.inr ⟨k, by simp [(hr q rfl _ h1).int_inv]⟩, rfl⟩
theorem onat_none {L : Lo} {gi : Nat → Option Nat} {fr : Fr} {o : Option Operand} {a : Option EV} (h : oget (o.map (oqC gi)) fr = some a) (ha : a.isNone = true) : o = none := by
  cases o with
  | none => rfl
  | some q =>
    obtain ⟨v, h1, h2⟩ := ob2_ok (show ob2 ((oqC gi q).get fr) (fun v => some (some v)) = some a from h)
    cases h2; cases ha
theorem ba_extract (l : List UInt8) (a b : Nat) : (ba l).extract a b = ba ((l.take b).drop a) := by
  apply ByteArray.ext
  simp [ba, List.extract_eq_take_drop, List.drop_take]
theorem okB_drop {l : List Nat} (h : okB l) (a b : Nat) : okB ((l.take b).drop a) := fun x hx => h x (List.mem_of_mem_take (List.mem_of_mem_drop hx))
theorem slice_op {L : Lo} {gi : Nat → Option Nat} {fr : Fr} {ρ : Operand → Value} {o : Oper} {t : TypeId} {x : Operand} {lo hi mx : Option Operand} (ho : o.op = .slice t x lo hi mx) {run : Run} {s s' : St} {v : EV}
    (h : (opC gi o.op).go run fr s = .ok (v, s')) (hO : Ops L gi fr ρ o.op) : FreshAt e R L s s' ρ o v := by
  obtain ⟨dst, op, type, pos, after, guard⟩ := o
  simp only at ho
  subst ho
  obtain ⟨k, h1, h⟩ := ost_ok h
  have h := cv_ok h
  obtain ⟨u, h2, h⟩ := ob2_ok h
  obtain ⟨a, h3, h⟩ := ob2_ok h
  obtain ⟨b, h4, h⟩ := ob2_ok h
  obtain ⟨c, h5, h⟩ := ob2_ok h
  have hu := hO x (by simp [Op.operands]) u h2
  have hlo : ∀ q, lo = some q → ∀ v, (oqC gi q).get fr = some v → Real L v (ρ q) := fun q hq v hv => hO q (by simp [Op.operands, hq]) v hv
  have hhi : ∀ q, hi = some q → ∀ v, (oqC gi q).get fr = some v → Real L v (ρ q) := fun q hq v hv => hO q (by simp [Op.operands, hq]) v hv
  have hmx : ∀ q, mx = some q → ∀ v, (oqC gi q).get fr = some v → Real L v (ρ q) := fun q hq v hv => hO q (by simp [Op.operands, hq]) v hv
  have pure : ∀ {v' : EV} {z : Value}, Real L v' z → (∀ w, (Instr.sliceAt t (ρ x) (lo.map ρ) (hi.map ρ) (mx.map ρ)).run P w = .ok z w) → PureAt L ρ ⟨dst, .slice t x lo hi mx, type, pos, after, guard⟩ v' := fun hz hr => ⟨_, hz, fun w => run_vS (hr w)⟩
  unfold skC at h1
  cases ht : ti t with
  | none => rw [ht] at h1; cases h1
  | some y =>
    rw [ht] at h1
    have hd := dd_of ht
    simp only [Option.bind_some] at h1
    cases hy : y.d <;> simp only [hy] at h1 <;> (first | (cases h1; done) | skip)
    · -- an array's
      rw [hy] at hd
      rename_i n el
      simp only [Option.map_eq_some_iff] at h1
      obtain ⟨ye, he, rfl⟩ := h1
      cases u <;> (first | (cases h; done) | skip)
      rename_i i off
      obtain ⟨hh, g1, h⟩ := ob2_ok (show ob2 (onat n b) _ = some (v, s') from h)
      obtain ⟨ll, g2, h⟩ := ob2_ok h
      obtain ⟨g3, h⟩ := cnd_some h
      cases h
      simp only [Bool.and_eq_true, ble_eq, decide_eq_true_eq] at g3
      obtain ⟨⟨g4, g5⟩, g6⟩ := g3
      have hmn := onat_none (L := L) h5 g6
      subst hmn
      obtain ⟨p, hp, hx⟩ := hu.ptr_inv
      obtain ⟨q1, _⟩ := onat_ok h4 hhi g1
      obtain ⟨q2, _⟩ := onat_ok h3 hlo g2
      obtain ⟨i2, k2, k3, _⟩ := szof_spec (szof_of he)
      refine .inl ⟨rfl, pure (.slice hp) fun w => ?_⟩
      have hb := run_bounds (is := false) (mx := none) (len := n) (cap := n) (.inl ⟨rfl, rfl⟩) q1 q2 g4 g5 (Nat.le_refl _) (.inl rfl) w
      simp only [Instr.sliceAt, Sem.run_bind, run_underlying (dd_arr hd), Result.andThen_ok, hx, Instr.sureAddr, Sem.run_pure, Option.map_none, hb, run_sizeOf' k2, k3]
      congr 3
      rw [beq_eq]
      by_cases e1 : n = ll
      · rw [decide_eq_true e1, cnd_true, if_pos e1]
      · rw [decide_eq_false e1, cnd_false, if_neg e1, Lc.adr, Addr.add_lit]
        simp [Lc.adr, Nat.add_assoc]
    · -- a slice's
      rw [hy] at hd
      rename_i el
      simp only [Option.map_eq_some_iff] at h1
      obtain ⟨ye, he, rfl⟩ := h1
      obtain ⟨i2, k2, k3, _⟩ := szof_spec (szof_of he)
      have hel : P.elem t = el := elem_of (dd_sl hd)
      have hsl := fun w => run_sliceAt_slice (P := P) w t (ρ x) (lo.map ρ) (hi.map ρ) (mx.map ρ) (und_el hd)
      cases u with
      | nils =>
        obtain ⟨hh, g1, h⟩ := ob2_ok (show ob2 (onat 0 b) _ = some (v, s') from h)
        obtain ⟨ll, g2, h⟩ := ob2_ok h
        obtain ⟨g3, h⟩ := cnd_some h
        cases h
        simp only [Bool.and_eq_true, beq_eq, decide_eq_true_eq] at g3
        obtain ⟨⟨rfl, rfl⟩, g6⟩ := g3
        have hmn := onat_none (L := L) h5 g6
        subst hmn
        obtain ⟨q1, _⟩ := onat_ok h4 hhi g1
        obtain ⟨q2, _⟩ := onat_ok h3 hlo g2
        refine .inl ⟨rfl, pure .nils fun w => ?_⟩
        have hb := run_bounds (is := true) (mx := none) (len := 0) (cap := 0) (.inl ⟨rfl, rfl⟩) q1 q2 (Nat.le_refl _) (Nat.le_refl _) (Nat.le_refl _) (.inl rfl) w
        rw [hsl w]
        simp only [Instr.slice, Sem.run_bind, run_underlying (dd_sl hd), Result.andThen_ok, hu.nils_inv, Option.map_none, hb, run_sizeOf' k2, k3, Sem.run_pure, if_true]
      | slice i off n cc xx =>
        cases xx with
        | true =>
          obtain ⟨mm, g0, h⟩ := ob2_ok (show ob2 (onat cc c) _ = some (v, s') from h)
          obtain ⟨hh, g1, h⟩ := ob2_ok h
          obtain ⟨ll, g2, h⟩ := ob2_ok h
          obtain ⟨g3, h⟩ := cnd_some h
          cases h
          simp only [Bool.and_eq_true, ble_eq, decide_eq_true_eq, Bool.or_eq_true] at g3
          obtain ⟨⟨⟨g4, g5⟩, g6⟩, g7⟩ := g3
          obtain ⟨p, hp, hx⟩ := hu.slice_inv
          obtain ⟨q0, r0⟩ := onat_ok h5 hmx g0
          obtain ⟨q1, r1⟩ := onat_ok h4 hhi g1
          obtain ⟨q2, _⟩ := onat_ok h3 hlo g2
          refine .inl ⟨rfl, pure (.slice hp) fun w => ?_⟩
          have g8 : mx.map ρ = none ∨ hi.map ρ ≠ none := by
            rcases g7 with g7 | g7
            · rw [onat_none (L := L) h5 g7]; exact .inl rfl
            · rw [r1] at g7; cases hi with
              | none => cases g7
              | some q => exact .inr (by simp)
          have hb := run_bounds (is := true) (len := n) (cap := cc) q0 q1 q2 g4 g5 g6 g8 w
          rw [hsl w]
          simp only [Instr.slice, Sem.run_bind, run_underlying (dd_sl hd), Result.andThen_ok, hx, if_true, hb, run_sizeOf' k2, k3, Sem.run_pure]
          congr 2
          rw [beq_eq]
          by_cases e1 : mm = ll
          · rw [decide_eq_true e1, cnd_true, if_pos e1]
          · rw [decide_eq_false e1, cnd_false, if_neg e1, Option.map_some, Lc.adr, Addr.add_lit]
            simp [Lc.adr, Nat.add_assoc]
        | false =>
          obtain ⟨hh, g1, h⟩ := ob2_ok (show ob2 (onat n b) _ = some (v, s') from h)
          obtain ⟨ll, g2, h⟩ := ob2_ok h
          obtain ⟨g3, h'⟩ := cnd_some h
          simp only [Bool.and_eq_true, ble_eq, beq_eq, decide_eq_true_eq, Bool.not_eq_true', decide_eq_false_iff_not] at g3
          obtain ⟨⟨⟨⟨g4, g5⟩, g6⟩, g7⟩, g8⟩ := g3
          have hmn := onat_none (L := L) h5 g6
          subst hmn
          obtain ⟨p, hp, hx, hz, hn⟩ := hu.slicx_inv
          obtain ⟨q1, _⟩ := onat_ok h4 hhi g1
          obtain ⟨q2, _⟩ := onat_ok h3 hlo g2
          have hrun : ∀ w, (Instr.sliceAt t (ρ x) (lo.map ρ) (hi.map ρ) none).run P w = .ok (.slice (if p.cap off = ll then some (p.adr off) else (some (p.adr off)).map (·.add (ll * ye.size))) (hh - ll) (p.cap off - ll)) w := fun w => by
            have hb := run_bounds (is := true) (mx := none) (len := n) (cap := p.cap off) (.inl ⟨rfl, rfl⟩) q1 q2 g4 (Nat.le_trans g5 hn) (Nat.le_refl _) (.inl rfl) w
            rw [run_sliceAt_slice (P := P) w t (ρ x) (lo.map ρ) (hi.map ρ) none (und_el hd)]
            simp only [Instr.slice, Sem.run_bind, run_underlying (dd_sl hd), Result.andThen_ok, hx, hb, run_sizeOf' k2, k3, Sem.run_pure]
          have hcap : ∀ l, p.cap (off + l * ye.size) = p.cap off - l := fun l => by
            unfold Lc.cap
            rw [hz, g7, Nat.add_mul_div_right _ _ (by omega)]
            omega
          by_cases e1 : ll = n
          · -- the very end
            rw [show Nat.beq ll n = true by rw [beq_eq]; exact decide_eq_true e1] at h'
            cases h'
            refine .inr ⟨.dead, _, rfl, rfl, fun M s2 w hl b1 b2 b3 hr => ?_⟩
            have hh0 : hh - ll = 0 := by omega
            have hr2 := hrun w
            rw [hh0] at hr2
            by_cases e2 : p.cap off = ll
            · rw [if_pos e2] at hr2
              refine ⟨⟨p.b, p.o + off, p.cap off - ll, cc⟩, _, w, hr2, ?_, ?_⟩
              · have := Real.slicx (L := M.up s.num ⟨p.b, p.o + off, p.cap off - ll, cc⟩) (i := s.num) (off := 0) (n := 0) (c := cc) (Lo.up_same _ _ _) rfl (Nat.zero_le _)
                simpa [Lc.adr, Lc.cap] using this
              · exact Rep.born b1 b2 b3 hr.dom (hr.sat.imp fun y k => ⟨fun _ => none, y, fun _ => .inl rfl, (fun _ _ e => by cases e), Hp.le_refl y, trivial, k⟩)
            · rw [if_neg e2] at hr2
              refine ⟨⟨p.b, p.o + off + ll * ye.size, p.cap off - ll, cc⟩, _, w, hr2, ?_, ?_⟩
              · have := Real.slicx (L := M.up s.num ⟨p.b, p.o + off + ll * ye.size, p.cap off - ll, cc⟩) (i := s.num) (off := 0) (n := 0) (c := cc) (Lo.up_same _ _ _) rfl (Nat.zero_le _)
                simpa [Lc.adr, Lc.cap, Addr.add_lit] using this
              · exact Rep.born b1 b2 b3 hr.dom (hr.sat.imp fun y k => ⟨fun _ => none, y, fun _ => .inl rfl, (fun _ _ e => by cases e), Hp.le_refl y, trivial, k⟩)
          · rw [show Nat.beq ll n = false by rw [beq_eq]; exact decide_eq_false e1] at h'
            cases h'
            refine .inl ⟨rfl, ?_⟩
            have hne : p.cap off ≠ ll := by omega
            have hc2 := hcap ll
            refine ⟨_, Real.slicx hp hz ?_, fun w => run_vS ?_⟩
            · have : p.cap (Nat.add off (Nat.mul ll ye.size)) = p.cap off - ll := hc2
              rw [this]; exact Nat.sub_le_sub_right (Nat.le_trans g5 hn) ll
            · have hr2 := hrun w
              rw [if_neg hne] at hr2
              have : p.cap (Nat.add off (Nat.mul ll ye.size)) = p.cap off - ll := hc2
              rw [this]
              simpa [Lc.adr, Addr.add_lit, Nat.add_assoc] using hr2
      | _ => cases h
    · -- a string's
      rw [hy] at hd
      cases h1
      cases u with
      | str l =>
        obtain ⟨hh, g1, h⟩ := ob2_ok (show ob2 (onat (len l) b) _ = some (v, s') from h)
        obtain ⟨ll, g2, h⟩ := ob2_ok h
        obtain ⟨g3, h⟩ := cnd_some h
        cases h
        simp only [Bool.and_eq_true, ble_eq, decide_eq_true_eq, len_eq] at g3
        obtain ⟨⟨g4, g5⟩, g6⟩ := g3
        have hmn := onat_none (L := L) h5 g6
        subst hmn
        obtain ⟨hb0, hx⟩ := hu.str_inv
        obtain ⟨q1, _⟩ := onat_ok h4 hhi g1
        obtain ⟨q2, _⟩ := onat_ok h3 hlo g2
        have hsz : (ba (bts l)).size = l.length := by simp [ba, ByteArray.size, bts_len]
        rw [len_eq, ← hsz] at q1
        refine .inl ⟨rfl, pure (.str _ (by rw [drp_eq, tke_eq]; exact okB_drop hb0 _ _)) fun w => ?_⟩
        have hb := run_bounds (is := false) (mx := none) (len := (ba (bts l)).size) (cap := (ba (bts l)).size) (.inl ⟨rfl, rfl⟩) q1 q2 g4 (by rw [hsz]; exact g5) (Nat.le_refl _) (.inl rfl) w
        rw [Option.map_none, run_sliceAt_string (P := P) w t _ _ _ _ (dd_str hd)]
        simp only [Instr.slice, Sem.run_bind, run_underlying (dd_str hd), Result.andThen_ok, hx, Option.isSome_none, Bool.false_eq_true, if_false, hb, Sem.run_pure, ba_extract]
        congr 3
        rw [drp_eq, tke_eq]; simp [bts, List.map_take, List.map_drop]
      | _ => cases h
end Go.Proofs.YtiabhghlhnnnjaaGreatDoor.Ev
