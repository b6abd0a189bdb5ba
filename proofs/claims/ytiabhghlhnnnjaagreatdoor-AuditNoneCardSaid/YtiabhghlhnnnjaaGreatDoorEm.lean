/-
  THE EVALUATOR IS SOUND (fifteenth part: the operations that act).
-/
import Derived.Test.YtiabhghlhnnnjaaGreatDoorEl
set_option linter.unusedVariables false
set_option linter.unusedSimpArgs false
set_option maxRecDepth 100000
set_option maxHeartbeats 0
noncomputable section
namespace Go.Proofs.YtiabhghlhnnnjaaGreatDoor.Ev
open Go Sh Sl
variable {e : Env} {R : HProp}
/-- a row with a mark behind it -/
def frz (fr : Nat × Nat) (k : Nat) : Nat × Nat := if fr.1 == fr.2 then (k, k + 1) else (min fr.1 k, max fr.2 (k + 1))
theorem frz_out {fr : Nat × Nat} {k : Nat} (h : ∀ i, i < k → i < fr.1 ∨ (fr.2 ≤ i ∧ fr.1 ≤ fr.2)) : ∀ i, i < k → i < (frz fr k).1 ∨ ((frz fr k).2 ≤ i ∧ (frz fr k).1 ≤ (frz fr k).2) := by
  intro i hi
  refine .inl ?_
  unfold frz
  by_cases he : fr.1 = fr.2
  · simp [he, hi]
  · have h1 := h i hi
    have h2 := h fr.1
    have h3 := h (fr.2 - 1)
    simp [he]
    omega
theorem Rep.frozen {L : Lo} {s : St} {w : World} (h : Rep e R L s w) {i : Nat} {p : Lc} {o : EO} (h1 : L i = some p) (h2 : s.obj i = some o) (h3 : o.row?.isSome = true) :
    ∃ T n, w.shape? p.b = some (T, n) ∧ Rep e R L (s.put i o) (w.freeze ⟨p.b, n, none⟩ 1) := by
  obtain ⟨g, hg, hp⟩ := h.at_ h1 h2
  have key : ∃ c T fr, g p.b = some (.cells c T fr) ∧ ∀ g', g' p.b = some (.cells c T (frz fr c.size)) → pobj L p o g' := by
    cases o <;> (first | (cases h3; done) | skip)
    case row l n x =>
      cases x with
      | true =>
        obtain ⟨vs, a, b, c, T, fr, d, f⟩ := hp
        exact ⟨_, _, _, d, fun g' hg' => ⟨vs, a, b, c, T, _, hg', by simpa using frz_out (by simpa using f)⟩⟩
      | false =>
        obtain ⟨vs, r, a, b, c, z0, z1, z2, T, fr, d, f⟩ := hp
        exact ⟨_, _, _, d, fun g' hg' => ⟨vs, r, a, b, c, z0, z1, z2, T, _, hg', by simpa using frz_out (by simpa using f)⟩⟩
    case fix l n =>
      obtain ⟨vs, a, b, c, T, fr, cs, d, f⟩ := hp
      exact ⟨_, _, _, d, fun g' hg' => ⟨vs, a, b, c, T, _, cs, hg', f⟩⟩
  obtain ⟨c, T, fr, h4, h5⟩ := key
  have h6 : w.heap[p.b]? = some (.cells c T fr) := hg _ _ h4
  refine ⟨T, c.size, by simp [World.shape?, h6], h.back h1 ?_⟩
  have ht := h.take h1 h2
  have hs : Sat e (sepL ((fun g => g p.b = some (.cells c T fr)) :: R :: rest L s i)) w := by
    obtain ⟨g1, g2, hd, l1, l2, hp', hr⟩ := ht.heap
    refine ⟨ht.os, ht.tape, ht.output, g1, g2, hd, l1, l2, ?_, hr⟩
    have hx : ∃ x, g1 p.b = some x := by
      cases o <;> (first | (cases h3; done) | skip)
      case row l n x =>
        cases x with
        | true => obtain ⟨vs, a, b, c, T, fr, d, f⟩ := hp'; exact ⟨_, d⟩
        | false => obtain ⟨vs, r, a, b, c, z0, z1, z2, T, fr, d, f⟩ := hp'; exact ⟨_, d⟩
      case fix l n => obtain ⟨vs, a, b, c, T, fr, cs, d, f⟩ := hp'; exact ⟨_, d⟩
    obtain ⟨x, hx⟩ := hx
    have := l1 _ _ hx
    have he : hpOf w p.b = w.heap[p.b]? := rfl
    rw [he, h6] at this
    cases this; exact hx
  refine hs.turn (o := .cells c T fr) (o' := .cells c T (frz fr c.size)) (fun _ k => k) h5 rfl rfl rfl ?_ fun j hj => ?_
  · simp [World.freeze, Array.getElem?_modify, h6, frz]
  · simp [World.freeze, Array.getElem?_modify]
    intro h; exact absurd h.symm hj
theorem mark_ok {L : Lo} {a b : TypeId} (hk : ckC a b = some .mk) {s s' : St} {w : World} (h : Rep e R L s w) {u v : EV} (hv : convM u s = some (v, s')) {x : Value} (hx : Real L u x) :
    ∃ z w', Real L v z ∧ (convert a b x).run P w = .ok z w' ∧ Rep e R L s' w' := by
  obtain ⟨ya, g1, hk⟩ := ob2_ok hk
  obtain ⟨yb, g2, hk⟩ := ob2_ok hk
  have da := dd_of g1
  have db := dd_of g2
  have : ∃ el el', ya.d = .sl el' ∧ yb.d = .sl el ∧ isU8 el = true ∧ a = b := by
    split at hk <;> first | (cases hk; done) | (obtain ⟨hu, hk⟩ := cnd_some hk; first | (cases hk; done) | (obtain ⟨hu2, hk⟩ := cnd_some hk; exact ⟨_, _, ‹_›, ‹_›, hu, Nat.eq_of_beq_eq_true hu2⟩))
  obtain ⟨el, el', e1, e2, e3, rfl⟩ := this
  rw [e2] at db
  have du : dd el = some (.int .u8) := isU8_ok e3
  unfold convM at hv
  split at hv
  · rename_i i off n c y
    obtain ⟨o, h1, hv⟩ := ob2_ok hv
    obtain ⟨h2, hv⟩ := cnd_some hv
    cases hv
    have hx' := hx
    obtain ⟨p, hp, hxe⟩ := hx.slice_inv
    obtain ⟨T, m, h3, h4⟩ := h.frozen hp h1 h2
    refine ⟨x, _, hx', ?_, h4⟩
    rw [hxe]
    simp [convert, run_underlying (dd_sl db), run_underlying (dd_int du), markStringish, h3, Lc.adr]
  · cases hv
theorem act_op {L : Lo} {gi : Nat → Option Nat} {fr : Fr} {ρ : Operand → Value} {o : Oper} {run : Run} {s s' : St} {v : EV} (hk : kindE o.op = 0) (hc : ∀ c, o.op ≠ .call c)
    (h : (opC gi o.op).go run fr s = .ok (v, s')) (hO : Ops L gi fr ρ o.op) : ActAt e R L s s' ρ o v := by
  obtain ⟨dst, op, type, pos, after, guard⟩ := o
  simp only at hk hc h hO
  cases op <;> (first | (cases hk; done) | (cases h; done) | skip)
  case store t a x =>
    obtain ⟨y, h1, h⟩ := ost_ok h
    have h := cv_ok h
    obtain ⟨u, h2, h⟩ := ob2_ok h
    obtain ⟨q, h3, h⟩ := ob2_ok h
    obtain ⟨h4, h⟩ := cnd_some h
    obtain ⟨⟨i, off⟩, h5, h⟩ := ob2_ok h
    obtain ⟨s2, h6, h⟩ := ob2_ok (show ob2 (storeE s i off (cellsE u)) (fun s' => some (EV.undef, s')) = some (v, s') from h)
    cases h
    have hu := hO x (by simp [Op.operands]) u h2
    have hq := hO a (by simp [Op.operands]) q h3
    rw [ptr?_ok h5] at hq
    obtain ⟨p, hp, hx⟩ := hq.ptr_inv
    intro w hw
    obtain ⟨w', h7, h8⟩ := store_ok hw h1 hp hu h4 h6
    exact NextK.of_unit (by rw [hx]; exact h7) ⟨L, Lo.le_refl L, .undef, h8⟩
  case convert a b x =>
    obtain ⟨k, h1, h⟩ := ost_ok h
    simp only [kindE, h1] at hk
    cases k <;> (first | (cases hk; done) | skip)
    have h := cv_ok h
    obtain ⟨u, h2, h⟩ := ob2_ok h
    have hu := hO x (by simp [Op.operands]) u h2
    intro w hw
    obtain ⟨z, w', h3, h4, h5⟩ := mark_ok h1 hw h hu
    exact NextK.of_val h4 ⟨L, Lo.le_refl L, h3, h5⟩
  case mapUpdate t m k x =>
    obtain ⟨n, h1, h⟩ := ost_ok h
    have h := cv_ok h
    obtain ⟨mv, h2, h⟩ := ob2_ok h
    obtain ⟨kv, h3, h⟩ := ob2_ok h
    obtain ⟨xv, h4, h⟩ := ob2_ok h
    intro w hw
    obtain ⟨w', rfl, h5, h6⟩ := update_ok hw h1 h (hO m (by simp [Op.operands]) mv h2) (hO k (by simp [Op.operands]) kv h3) (hO x (by simp [Op.operands]) xv h4)
    exact NextK.of_unit h5 ⟨L, Lo.le_refl L, .undef, h6⟩
  case insert t m k x =>
    obtain ⟨n, h1, h⟩ := ost_ok h
    have h := cv_ok h
    obtain ⟨mv, h2, h⟩ := ob2_ok h
    obtain ⟨kv, h3, h⟩ := ob2_ok h
    obtain ⟨xv, h4, h⟩ := ob2_ok h
    intro w hw
    obtain ⟨w', rfl, h5, h6⟩ := update_ok hw h1 h (hO m (by simp [Op.operands]) mv h2) (hO k (by simp [Op.operands]) kv h3) (hO x (by simp [Op.operands]) xv h4)
    exact NextK.of_unit h5 ⟨L, Lo.le_refl L, .undef, h6⟩
  case mapEntry t m k =>
    obtain ⟨n, h1, h⟩ := ost_ok h
    obtain ⟨z, hz, h⟩ := ost_ok h
    have h := cv_ok h
    obtain ⟨mv, h2, h⟩ := ob2_ok h
    obtain ⟨kv, h3, h⟩ := ob2_ok h
    intro w hw
    obtain ⟨y, w', h4, h5, h6⟩ := entry_ok hw h1 hz h (hO m (by simp [Op.operands]) mv h2) (hO k (by simp [Op.operands]) kv h3)
    exact NextK.of_val h5 ⟨L, Lo.le_refl L, h4, h6⟩
  case entryStore t m st x =>
    have h := cv_ok h
    obtain ⟨mv, h2, h⟩ := ob2_ok h
    obtain ⟨kv, h3, h⟩ := ob2_ok h
    obtain ⟨n, h4, h⟩ := ob2_ok h
    obtain ⟨xv, h5, h⟩ := ob2_ok h
    have hn := hO st (by simp [Op.operands]) kv h3
    obtain ⟨kd, hkv⟩ := nat?_ok h4
    rw [hkv] at hn
    have hn := hn.int_inv
    intro w hw
    obtain ⟨w', rfl, h6, h7⟩ := es_ok (k := kd) (t := t) hw h (hO m (by simp [Op.operands]) mv h2) (hO x (by simp [Op.operands]) xv h5)
    exact NextK.of_unit (by rw [hn]; exact h6) ⟨L, Lo.le_refl L, .undef, h7⟩
  case range t x =>
    obtain ⟨y, h1, h⟩ := ost_ok h
    have hd := dd_of h1
    have key : ∃ u, (oqC gi x).get fr = some u ∧ ((dd t = some .str ∧ rngS u s = some (v, s')) ∨ (∃ a b, dd t = some (.mp a b)) ∧ rngM u s = some (v, s')) := by
      split at h
      · rename_i hy
        rw [hy] at hd
        obtain ⟨u, h2, h⟩ := ob2_ok (cv_ok h)
        exact ⟨u, h2, .inl ⟨hd, h⟩⟩
      · rename_i a b hy
        rw [hy] at hd
        obtain ⟨u, h2, h⟩ := ob2_ok (cv_ok h)
        exact ⟨u, h2, .inr ⟨⟨_, _, hd⟩, h⟩⟩
      · cases h
    obtain ⟨u, h2, h3⟩ := key
    intro w hw
    obtain ⟨M, y, w', h4, h5, h6, h7⟩ := range_ok hw (hO x (by simp [Op.operands]) u h2) h3
    exact NextK.of_val h6 ⟨M, h4, h5, h7⟩
  case next it b =>
    obtain ⟨u, h2, g1⟩ := ob2_ok (cv_ok h)
    obtain ⟨⟨i, off⟩, h3, g2⟩ := ob2_ok g1
    obtain ⟨h4, g3⟩ := cnd_some (show cnd (Nat.beq off 0) (ob2 (s.obj i) fun o => nextE s i o b) none = some (v, s') from g2)
    obtain ⟨ob, h5, g4⟩ := ob2_ok g3
    have hu := hO it (by simp [Op.operands]) u h2
    rw [ptr?_ok h3] at hu
    have hu : Real L (.ptr i off) (ρ it) := hu
    rw [Nat.eq_of_beq_eq_true h4] at hu
    intro w hw
    obtain ⟨y, w', h6, h7, h8⟩ := next_ok hw h5 g4 hu type
    exact NextK.of_val h7 ⟨L, Lo.le_refl L, h6, h8⟩
  case entry it =>
    obtain ⟨h, rfl⟩ := sv_ok h
    obtain ⟨u, h2, h⟩ := ob2_ok h
    obtain ⟨⟨i, off⟩, h3, h⟩ := ob2_ok h
    obtain ⟨h4, h⟩ := cnd_some (show cnd (Nat.beq off 0) (ob2 (s'.obj i) (entryE s')) none = some v from h)
    obtain ⟨ob, h5, h⟩ := ob2_ok h
    have hu := hO it (by simp [Op.operands]) u h2
    rw [ptr?_ok h3] at hu
    intro w hw
    obtain ⟨y, h6, h7⟩ := entry_at hw h5 h hu (Nat.eq_of_beq_eq_true h4)
    exact NextK.of_val h7 ⟨L, Lo.le_refl L, h6, hw⟩
end Go.Proofs.YtiabhghlhnnnjaaGreatDoor.Ev
