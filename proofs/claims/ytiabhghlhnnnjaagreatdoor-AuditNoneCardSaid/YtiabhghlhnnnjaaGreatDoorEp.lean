/-
  THE EVALUATOR IS SOUND (eighteenth part: append of a made row).
-/
import Derived.Test.YtiabhghlhnnnjaaGreatDoorEo
set_option linter.unusedVariables false
set_option linter.unusedSimpArgs false
set_option maxRecDepth 100000
set_option maxHeartbeats 0
noncomputable section
namespace Go.Proofs.YtiabhghlhnnnjaaGreatDoor.Ev
open Go Sh Sl
variable {e : Env} {R : HProp}
theorem run_append_make {w : World} {t el tx ty : TypeId} {kx : IntKind} {i : TypeInfo} {zv : Value} (ht : dd t = some (.sl el)) (hx : P.underlying tx = some (.int kx)) (hi : P.info? el = some i) (hz : i.zero = some zv) (hsz : i.size ≠ 0) {m : Nat} (hm : m ≠ 0) (hle : m ≤ 4611686018427387904)
    (hb : m * i.bytes ≤ 140737488355328) (k : IntKind) :
    (Builtin.append_ #[t, tx] ty #[.slice none 0 0, .int k (m : Int)]).run P w = .ok (.slice (some ⟨w.heap.size, 0, none⟩) m (grownCap w m 0 el))
      (w.drew.alloc (.cells (Builtin.zeroCells zv.cells m ++ Builtin.zeroCells zv.cells (grownCap w m 0 el - m)) el)) := by
  have hw : IntKind.i64.wrap (m : Int) = m := by
    have : (m : Int) ≤ 4611686018427387904 := by omega
    simp [IntKind.wrap, IntKind.signed, IntKind.bits]
    omega
  have h1 : ¬ ((m : Int) < 0) := by omega
  have h2 : ¬ (281474976710656 < (m : Int) * (i.bytes : Int)) := by
    have : ((m * i.bytes : Nat) : Int) ≤ 140737488355328 := by omega
    rw [Int.natCast_mul] at this; omega
  have h3 : ¬ (9223372036854775807 < (m : Int)) := by omega
  have h4 : ¬ (281474976710656 < Builtin.nextslicecap m 0 * i.bytes) := by
    have := growslice_fits' (need := m) (old := 0) (by_ := i.bytes) (by omega) hb
    omega
  have h5 : ¬ (m * i.size = 0) := fun hh => by rcases Nat.mul_eq_zero.1 hh with h | h <;> contradiction
  simp [Builtin.append_, run_underlying (dd_sl ht), run_underlying hx, sizeOf, typeInfo, zeroValue, hi, hz, hw, h1, h2, h3, h4, h5, hm, hsz, asInt, asIntOf, Question.forced, newRow, grownCap, Builtin.firstCells]
theorem zeros_eq {zv : Value} {zs : List Value} (h : zv.cells.toList = zs) (n : Nat) : (Builtin.zeroCells zv.cells n).toList = (List.replicate n zs).flatten := by
  have e1 : zv.cells = zs.toArray := by rw [← h]
  unfold Builtin.zeroCells
  rw [e1]
  by_cases h0 : zs.length = 0
  · have : zs = [] := List.length_eq_zero_iff.1 h0
    subst this; simp
  · have := flat_mod h0 n
    simp only [List.size_toArray] at this ⊢
    rw [this]
theorem make_ok {L : Lo} {s s' : St} {w : World} (h : Rep e R L s w) {t el u ty : TypeId} {y : TI} (ht : dd t = some (.sl el)) (hy : ti el = some y) {z : List EV} (hz : zroE el = some z) (hu : isInt (ti u) = true)
    {a b r : EV} {av xv : Value} {m : Nat} (ha : Real L a av) (hx : Real L b xv) (hb : b.nat? = some m) (hi : growE s y z a m = some (r, s')) :
    ∃ M v w', Lo.le L M ∧ Real M r v ∧ (Builtin.append_ #[t, u] ty #[av, xv]).run P w = .ok v w' ∧ Rep e R M s' w' := by
  obtain ⟨i', k1, k2, k3⟩ := szof_spec (szof_of hy)
  obtain ⟨zs, q1, q2⟩ := zroE_ok (L := L) hz
  obtain ⟨i2, zv, q3, q4, q5⟩ := zro_spec q1
  rw [k1] at q3; cases q3
  obtain ⟨g1, g2⟩ := cnd_some (show cnd (band a.isNils (band (roomE y m) (Nat.beq (len z) y.size))) (cnd (Nat.beq m 0) (some (a, s)) (some (newSl s (rep z m) m (Nat.mul m y.size) y.size false))) none = some (r, s') from hi)
  obtain ⟨f1, f2⟩ := band_ok g1
  obtain ⟨f2, f3⟩ := band_ok f2
  have f3 := Nat.eq_of_beq_eq_true f3
  rw [len_eq] at f3
  obtain ⟨r1, r2, r3⟩ := roomE_ok f2
  have hzs : zv.cells.size = y.size := by rw [← Array.length_toList, q5, q2.length, f3]
  obtain ⟨kd, rfl⟩ := nat?_ok hb
  rw [hx.int_inv]
  have hai : a = .nils := by cases a <;> first | rfl | (cases f1; done)
  subst hai
  have hav := ha.nils_inv
  have hti : ∃ k, P.underlying u = some (.int k) := by
    unfold isInt at hu
    split at hu
    · rename_i yu hyu
      split at hu
      · rename_i k hk
        cases hyu2 : ti u with
        | none => rw [hyu2] at hyu; cases hyu
        | some q => 
          rw [hyu2] at hyu; cases hyu
          have hd := dd_of hyu2
          rw [hk] at hd
          exact ⟨_, dd_int hd⟩
      · cases hu
    · cases hu
  obtain ⟨k, hk⟩ := hti
  cases hm : Nat.beq m 0 with
  | true =>
    rw [hm] at g2
    cases g2
    have hm0 := Nat.eq_of_beq_eq_true hm
    subst hm0
    refine ⟨L, _, w, Lo.le_refl L, ha, ?_, h⟩
    rw [hav]
    have hw : IntKind.i64.wrap ((0 : Nat) : Int) = 0 := by decide
    simp [Builtin.append_, run_underlying (dd_sl ht), run_underlying hk, sizeOf, typeInfo, k1, asInt, asIntOf, IntKind.wrap, IntKind.signed, IntKind.bits]
  | false =>
    rw [hm] at g2
    cases g2
    have hmn : m ≠ 0 := fun hh => by subst hh; cases hm
    have hrun := run_append_make (w := w) (ty := ty) ht hk k1 q4 (by rw [k2]; exact r3) hmn r2 (by rw [k3]; exact r1) kd
    have hcap := grownCap_ge w m 0 el
    generalize grownCap w m 0 el = cap at hrun hcap
    have e1 : Builtin.zeroCells zv.cells m ++ Builtin.zeroCells zv.cells (cap - m) = ((List.replicate m zs).flatten ++ (Builtin.zeroCells zv.cells (cap - m)).toList).toArray := by
      rw [← zeros_eq q5 m]; simp
    rw [e1] at hrun
    have hzl : zs.length = y.size := by rw [q2.length]; exact f3
    have hfl : ((List.replicate m zs).flatten).length = m * y.size := by simp [hzl]
    have hzc : (Builtin.zeroCells zv.cells (cap - m)).toList.length = (cap - m) * y.size := by
      rw [Array.length_toList]; simp [Builtin.zeroCells, hzs]
    have hLn : L s.num = none := by
      cases e1 : L s.num with
      | none => rfl
      | some p => exact absurd (h.dom.1 _ p e1) (Nat.lt_irrefl _)
    obtain ⟨x1, x2⟩ := h.drew.bear' (o := .row (rep z m) (m * y.size) false) (ob := .cells ((List.replicate m zs).flatten ++ (Builtin.zeroCells zv.cells (cap - m)).toList).toArray el) ⟨w.heap.size, 0, cap, y.size⟩
      fun g hg => ⟨(List.replicate m zs).flatten, (Builtin.zeroCells zv.cells (cap - m)).toList, (q2.rep m).le (Lo.le_up _ hLn), by rw [rep_len, f3], rfl, r3, Nat.mul_le_mul_right _ hcap, by
        rw [List.length_append, hfl, hzc, ← Nat.add_mul]
        exact Nat.mul_le_mul_right _ (by show cap ≤ m + (cap - m); omega), ob_pt g hg⟩
    have hv := Real.slicx (L := L.up s.num ⟨w.heap.size, 0, cap, y.size⟩) (i := s.num) (off := 0) (n := m) (c := y.size) (Lo.up_same _ _ _) rfl (by simp [Lc.cap]; exact hcap)
    refine ⟨_, _, _, x1, hv, ?_, x2⟩
    rw [hav, hrun]
    simp [Lc.adr, Lc.cap]
theorem act_append {L : Lo} {gi : Nat → Option Nat} {fr : Fr} {ρ : Operand → Value} {o : Oper} {c : Call} {run : Run} {s s' : St} {v : EV} (ho : o.op = .call c) (hb : c.callee = .builtin .append)
    (h : (builtC .append c.argTypes.toList (c.args.toList.map (oqC gi))).go run fr s = .ok (v, s')) (hO : Ops L gi fr ρ o.op) : ActAt e R L s s' ρ o v := by
  have hop : ∀ q ∈ c.args.toList, ∀ v, (oqC gi q).get fr = some v → Real L v (ρ q) := fun q hq v hv => hO q (by rw [ho]; exact mem_args hq) v hv
  intro w hw
  obtain ⟨cs, h3⟩ := run_built (ρ := ρ) ho hb w
  suffices hs : ∃ M y w', Lo.le L M ∧ Real M v y ∧ (Go.builtin .append c.argTypes o.type cs (c.args.map ρ)).run P w = .ok (.value y) w' ∧ Rep e R M s' w' by
    obtain ⟨M, y, w', h1, h4, h5, h6⟩ := hs
    unfold NextK
    rw [h3, h5]
    exact ⟨M, h1, h4, h6⟩
  rcases hts : c.argTypes.toList with _ | ⟨t, _ | ⟨u, _ | ⟨z, tz⟩⟩⟩ <;> rcases has : c.args.toList with _ | ⟨x, _ | ⟨y, _ | ⟨x', tx⟩⟩⟩ <;> rw [hts, has] at h <;> (first | (cases h; done) | skip)
  rw [has] at hop
  have h : (cnd (isInt (ti u)) (ost 3 (ob2 (slT t) zroE) fun z => ost 102 (slC t) fun y' => cv (fun fr s => ob2 ((oqC gi x).get fr) fun a => ob2 ((oqC gi y).get fr) fun b => ob2 b.nat? fun m => growE s y' z a m) 116)
      (ost 3 (ob2 (slT t) zroE) fun z => ost 102 (slC t) fun y' => cnd (band (srcC u) (Nat.beq (len z) y'.size)) (cv (fun fr s => ob2 ((oqC gi x).get fr) fun a => ob2 ((oqC gi y).get fr) fun b => ob2 (lenE b) fun m => ob2 (cellsOf s y'.size b) fun news => cnd (srcV y'.size b) (appE s y' a news m) none) 103) (.bad 103))).go run fr s = .ok (v, s') := h
  cases hI : isInt (ti u) with
  | true =>
    rw [hI] at h
    obtain ⟨z, g1, g2⟩ := ost_ok h
    obtain ⟨y', g3, g4⟩ := ost_ok g2
    obtain ⟨el, g5, g6⟩ := ob2_ok g1
    obtain ⟨el', g7, g8⟩ := slC_ok g3
    have hel := slT_ok g5
    rw [g7] at hel; cases hel
    obtain ⟨a, f1, f2⟩ := ob2_ok (cv_ok g4)
    obtain ⟨b, f3, f4⟩ := ob2_ok f2
    obtain ⟨m, f5, f6⟩ := ob2_ok f4
    obtain ⟨M, y2, w', e1, e2, e3, e4⟩ := make_ok (ty := o.type) hw g7 g8 g6 hI (hop x (by simp) a f1) (hop y (by simp) b f3) f5 f6
    exact ⟨M, y2, w', e1, e2, by rw [types2 hts, args2 has]; exact run_vS e3, e4⟩
  | false =>
    rw [hI] at h
    obtain ⟨z, g1, g2⟩ := ost_ok h
    obtain ⟨y', g3, g4⟩ := ost_ok g2
    obtain ⟨el, g5, g6⟩ := ob2_ok g1
    obtain ⟨el', g7, g8⟩ := slC_ok g3
    have hel := slT_ok g5
    rw [g7] at hel; cases hel
    cases hB : band (srcC u) (Nat.beq (len z) y'.size) with
    | false => rw [hB] at g4; cases g4
    | true =>
      rw [hB] at g4
      obtain ⟨k1, k2⟩ := band_ok hB
      have k2 := Nat.eq_of_beq_eq_true k2
      rw [len_eq] at k2
      obtain ⟨a, f1, f2⟩ := ob2_ok (cv_ok g4)
      obtain ⟨b, f3, f4⟩ := ob2_ok f2
      obtain ⟨m, f5, f6⟩ := ob2_ok f4
      obtain ⟨ns, f7, f8⟩ := ob2_ok f6
      obtain ⟨f9, f10⟩ := cnd_some f8
      obtain ⟨M, y2, w', e1, e2, e3, e4⟩ := app_ok (ty := o.type) hw g7 g8 g6 k2 k1 (hop x (by simp) a f1) (hop y (by simp) b f3) f5 f7 f9 f10
      exact ⟨M, y2, w', e1, e2, by rw [types2 hts, args2 has]; exact run_vS e3, e4⟩
end Go.Proofs.YtiabhghlhnnnjaaGreatDoor.Ev
