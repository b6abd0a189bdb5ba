/-
  THE EVALUATOR IS SOUND (sixteenth part: the builtins that act, but for append).
-/
import Derived.Test.YtiabhghlhnnnjaaGreatDoorEm
set_option linter.unusedVariables false
set_option linter.unusedSimpArgs false
set_option maxRecDepth 100000
set_option maxHeartbeats 0
noncomputable section
namespace Go.Proofs.YtiabhghlhnnnjaaGreatDoor.Ev
open Go Sh Sl
variable {e : Env} {R : HProp}
theorem RealEs.erase {L : Lo} : ∀ {es : List (EV × EV × Nat)} {r : List MapEntry} (j : Nat), RealEs L es r → RealEs L (es.eraseIdx j) (r.eraseIdx j)
  | _, _, j, .nil => by simp only [List.eraseIdx_nil]; exact .nil
  | _, _, 0, .cons hk hv t => by simpa using t
  | _, _, j + 1, .cons hk hv t => by simp only [List.eraseIdx_cons_succ]; exact .cons hk hv (t.erase j)
theorem del_ok {L : Lo} {s s' : St} {w : World} (h : Rep e R L s w) {t : TypeId} {n : Nat} (hn : keyN t = some n) {m k r : EV} (hi : delE n m k s = some (r, s')) {mv x : Value} (hm : Real L m mv) (hk : Real L k x) (u ty : TypeId) :
    ∃ y w', Real L r y ∧ (Builtin.delete_ #[t, u] ty #[mv, x]).run P w = .ok y w' ∧ Rep e R L s' w' := by
  obtain ⟨kt, vt, yk, h1, h2, h3⟩ := keyN_ok hn
  cases m <;> (first | (cases hi; done) | skip)
  case nilm =>
    cases hi
    rw [hm.nilm_inv]
    refine ⟨_, _, .tup .nil, ?_, h⟩
    simp [Builtin.delete_, run_underlying (dd_mp h1), run_checkKey h2 h3]
  case map i =>
    obtain ⟨⟨es, cl⟩, h5, hi⟩ := ob2_ok hi
    obtain ⟨q, h6, hi⟩ := ob2_ok (show ob2 (findK n k es) (fun q => match q with
      | some (j, _) => some (EV.tup [], s.put i (.map (es.eraseIdx j) cl))
      | none => some (.tup [], s.put i (.map es cl))) = some (r, s') from hi)
    obtain ⟨d, h7, h8, h9⟩ := kd_of h2 h3 h6
    obtain ⟨p, hp, rfl⟩ := hm.map_inv
    obtain ⟨_, rs, h10, h11⟩ := h.map hp h5
    simp only at h10 h11
    have hg : (getObj p.b).run P w = .ok (.map rs.toArray cl) w := run_getObj h11 (by simp)
    rcases find_key h7 hk h8 h10 h9 w with ⟨rfl, hf⟩ | ⟨j, u', z, y0, b, a, rfl, hf, h12, h13, h14, h15, h16⟩
    · cases hi
      obtain ⟨rs', g1, g2, g3, g4⟩ := h.mapPut hp h5 (es := es) (r := rs) (c := cl) h10
      refine ⟨_, _, .tup .nil, ?_, g4⟩
      simp [Builtin.delete_, run_underlying (dd_mp h1), run_checkKey h2 h3, hg, hf, g3]
    · cases hi
      obtain ⟨rs', g1, g2, g3, g4⟩ := h.mapPut hp h5 (es := es.eraseIdx j) (r := rs.eraseIdx j) (c := cl) (h10.erase j)
      refine ⟨_, _, .tup .nil, ?_, g4⟩
      have hj : j < rs.length := (List.getElem?_eq_some_iff.1 h14).1
      simp [Builtin.delete_, run_underlying (dd_mp h1), run_checkKey h2 h3, hg, hf, g3, hj, Array.eraseIdxIfInBounds]
theorem clr_ok {L : Lo} {s s' : St} {w : World} (h : Rep e R L s w) {t el : TypeId} {y : TI} (ht : dd t = some (.sl el)) (hy : ti el = some y) {z : List EV} (hz : zroE el = some z) (hzl : z.length = y.size) {v r : EV} (hi : clrE z v s = some (r, s')) {x : Value} (hx : Real L v x) (ty : TypeId) :
    ∃ y w', Real L r y ∧ (Builtin.clear_ #[t] ty #[x]).run P w = .ok y w' ∧ Rep e R L s' w' := by
  cases v <;> (first | (cases hi; done) | skip)
  case nils =>
    cases hi
    rw [hx.nils_inv]
    refine ⟨_, _, .tup .nil, ?_, h⟩
    simp [Builtin.clear_, run_underlying (dd_sl ht)]
  case slice i off n c b =>
    have hi : cnd (Nat.beq n 0) (some (EV.tup [], s)) (ob2 (storeE s i off (rep z n)) fun s' => some (.tup [], s')) = some (r, s') := hi
    obtain ⟨p, hp, rfl⟩ := hx.slice_inv
    cases hn : Nat.beq n 0 with
    | true =>
      rw [hn] at hi
      cases hi
      rw [Nat.eq_of_beq_eq_true hn]
      refine ⟨_, _, .tup .nil, ?_, h⟩
      simp [Builtin.clear_, run_underlying (dd_sl ht)]
    | false =>
      rw [hn] at hi
      obtain ⟨s2, h1, hi⟩ := ob2_ok hi
      cases hi
      obtain ⟨zs, h2, h3⟩ := zroE_ok (L := L) hz
      have hx2 := h2
      obtain ⟨i', zv, k4, k5, k6⟩ := zro_spec h2
      have e1 : zv.cells = zs.toArray := by rw [← k6]
      have e2 : (Builtin.zeroCells zv.cells n).toList = (List.replicate n zs).flatten := by
        unfold Builtin.zeroCells
        rw [e1]
        by_cases h0 : zs.length = 0
        · have : zs = [] := List.length_eq_zero_iff.1 h0
          subst this; simp
        · have := flat_mod h0 n
          simp only [List.size_toArray] at this ⊢
          rw [this]
      obtain ⟨w', h4, h5⟩ := store_cells h hp h1 (h3.rep n)
      refine ⟨_, w', .tup .nil, ?_, h5⟩
      have hnn : n ≠ 0 := fun hh => by subst hh; simp at hn
      cases n with
      | zero => exact absurd rfl hnn
      | succ n => simp [Builtin.clear_, run_underlying (dd_sl ht), run_zero k4 k5, e2, h4]
theorem first_ok {L : Lo} {s : St} {w : World} (h : Rep e R L s w) {x : EV} {v : Value} (hx : Real L x v) {b sz m : Nat} {cs : List EV} (hl : lenE x = some b) (hc : cellsOf s sz x = some cs) (hm : m ≤ b) (hstr : ∀ l, x = .str l → sz = 1) :
    (Builtin.lenOf v).run P w = .ok b w ∧ ∃ vs, Reals L (cs.take (m * sz)) vs ∧ ∀ w2 : World, w2.heap = w.heap → (Builtin.firstCells sz m v).run P w2 = .ok vs.toArray w2 := by
  cases x <;> (first | (cases hl; done) | (cases hc; done) | skip)
  case str l =>
    cases hl
    cases hc
    have h1 := hstr l rfl
    subst h1
    obtain ⟨h2, rfl⟩ := hx.str_inv
    refine ⟨by simp [Builtin.lenOf, ba, ByteArray.size, bts, len_eq], u8 (bts (l.take m)), ?_, ?_⟩
    · have h3 : (u8s l).take (m * 1) = u8s (l.take m) := by rw [u8s_eq, u8s_eq, Nat.mul_one, List.map_take]
      rw [h3]
      exact reals_u8s fun y hy => h2 y (List.mem_of_mem_take hy)
    · intro w2 _
      simp only [Builtin.firstCells, Sem.run_pure]
      congr 1
      rw [ba_extract]
      apply Array.toList_inj.1
      simp [ba, u8, bts, List.map_take]
  case nils =>
    cases hl
    cases hc
    rw [hx.nils_inv]
    exact ⟨by simp [Builtin.lenOf], [], by simp only [List.take_nil]; exact .nil, fun w2 _ => by simp [Builtin.firstCells]⟩
  case slice i off n c y =>
    cases hl
    have hc : cnd (Nat.beq (Nat.mul b sz) 0) (some []) (cutE s i off (Nat.mul b sz)) = some cs := hc
    obtain ⟨p, hp, rfl⟩ := hx.slice_inv
    refine ⟨by simp [Builtin.lenOf], ?_⟩
    cases hz : Nat.beq (Nat.mul b sz) 0 with
    | true =>
      rw [hz] at hc
      cases hc
      have h1 : b * sz = 0 := Nat.eq_of_beq_eq_true hz
      have h2 : m * sz = 0 := Nat.le_zero.1 (h1 ▸ Nat.mul_le_mul_right sz hm)
      refine ⟨[], by rw [h2]; exact .nil, fun w2 _ => ?_⟩
      simp only [Builtin.firstCells, h2]
      exact run_loadCells (vs := []) fun j v hj => by simp at hj
    | false =>
      rw [hz] at hc
      obtain ⟨h1, vs, h2, h3⟩ := h.cut hp hc
      have h4 : m * sz ≤ b * sz := Nat.mul_le_mul_right sz hm
      have h5 : (vs.take (m * sz)).length = m * sz := by
        rw [List.length_take, h2.length, h1]
        exact Nat.min_eq_left h4
      refine ⟨vs.take (m * sz), h2.take _, fun w2 hw2 => ?_⟩
      have h6 := run_loadCells (w := w2) (a := p.adr off) (vs := vs.take (m * sz)) fun j v hj => by
        rw [List.getElem?_take] at hj
        split at hj
        · rw [World.cell?, hw2]; exact h3 j v hj
        · cases hj
      rw [h5] at h6
      exact h6
theorem len_run {L : Lo} {x : EV} {v : Value} (hx : Real L x v) {b : Nat} (hl : lenE x = some b) (w : World) : (Builtin.lenOf v).run P w = .ok b w := by
  cases x <;> (first | (cases hl; done) | skip)
  case str l =>
    cases hl
    obtain ⟨h2, rfl⟩ := hx.str_inv
    simp [Builtin.lenOf, ba, ByteArray.size, bts, len_eq]
  case nils => cases hl; rw [hx.nils_inv]; simp [Builtin.lenOf]
  case slice i off n c y =>
    cases hl
    obtain ⟨p, hp, rfl⟩ := hx.slice_inv
    simp [Builtin.lenOf]
theorem cnd_min (a b : Nat) : cnd (Nat.ble a b) a b = min b a := by
  cases hb : Nat.ble a b with
  | true => rw [ble_eq, decide_eq_true_eq] at hb; show a = _; omega
  | false => rw [ble_eq, decide_eq_false_iff_not] at hb; show b = _; omega
theorem firstNone_ok {L : Lo} {x : EV} {v : Value} (hx : Real L x v) {b : Nat} (hl : lenE x = some b) (sz : Nat) (w : World) : (Builtin.firstCells sz 0 v).run P w = .ok #[] w := by
  cases x <;> (first | (cases hl; done) | skip)
  case str l =>
    obtain ⟨h2, rfl⟩ := hx.str_inv
    simp only [Builtin.firstCells, Sem.run_pure]
    congr 1
    rw [ba_extract]
    apply Array.toList_inj.1
    simp [ba]
  case nils => rw [hx.nils_inv]; simp [Builtin.firstCells]
  case slice i off n c y =>
    obtain ⟨p, hp, rfl⟩ := hx.slice_inv
    simp only [Builtin.firstCells, Nat.zero_mul]
    exact run_loadCells (vs := []) fun j v hj => by simp at hj
theorem copy_ok {L : Lo} {s s' : St} {w : World} (h : Rep e R L s w) {t el : TypeId} {y : TI} (ht : dd t = some (.sl el)) (hy : ti el = some y) {d x r : EV} (hi : copyE s y d x = some (r, s')) {dv xv : Value} (hd : Real L d dv) (hx : Real L x xv) (u ty : TypeId) :
    ∃ z w', Real L r z ∧ (Builtin.copy_ #[t, u] ty #[dv, xv]).run P w = .ok z w' ∧ Rep e R L s' w' := by
  obtain ⟨a, h1, hi⟩ := ob2_ok hi
  obtain ⟨b, h2, hi⟩ := ob2_ok hi
  obtain ⟨i', k1, k2, k3⟩ := szof_spec (szof_of hy)
  have hi : cnd (Nat.beq (cnd (Nat.ble a b) a b) 0) (some (EV.int .i64 (.ofNat 0), s)) (cnd (Nat.beq y.size 1) (ob2 (cellsOf s 1 x) (copE s d (cnd (Nat.ble a b) a b))) none) = some (r, s') := hi
  rw [cnd_min] at hi
  have hm : min b a ≤ b := Nat.min_le_left _ _
  have hsl : ∃ base cap, dv = .slice base a cap ∧ (base = none ∨ ∃ ad, base = some ad) := by
    cases d <;> (first | (cases h1; done) | skip)
    case nils => cases h1; exact ⟨_, _, hd.nils_inv, .inl rfl⟩
    case slice i off n c z => cases h1; obtain ⟨p, hp, hx⟩ := hd.slice_inv; exact ⟨_, _, hx, .inr ⟨_, rfl⟩⟩
  cases hz : Nat.beq (min b a) 0 with
  | true =>
    rw [hz] at hi
    cases hi
    have h0 := Nat.eq_of_beq_eq_true hz
    obtain ⟨base, cap, rfl, hb⟩ := hsl
    refine ⟨_, w, .int .i64 0, ?_, h⟩
    have hf := firstNone_ok hx h2 i'.size w
    have hn : Nat.min b a = 0 := h0
    rcases hb with rfl | ⟨ad, rfl⟩
    · simp [Builtin.copy_, run_underlying (dd_sl ht), len_run hx h2, run_sizeOf' k1, hn, hf, goInt]
    · simp [Builtin.copy_, run_underlying (dd_sl ht), len_run hx h2, run_sizeOf' k1, hn, hf, goInt, storeCells]
  | false =>
    rw [hz] at hi
    obtain ⟨h3, g1⟩ := cnd_some (show cnd (Nat.beq y.size 1) (ob2 (cellsOf s 1 x) (copE s d (min b a))) none = some (r, s') from hi)
    obtain ⟨cs, h4, g2⟩ := ob2_ok g1
    have h3 := Nat.eq_of_beq_eq_true h3
    obtain ⟨l, g3, g4⟩ := ob2_ok g2
    obtain ⟨s2, h5, g5⟩ := ob2_ok g4
    cases g5
    cases d <;> (first | (cases g3; done) | skip)
    case slice i off n c z =>
      cases g3
      cases h1
      obtain ⟨p, hp, rfl⟩ := hd.slice_inv
      obtain ⟨h6, vs, h7, h8⟩ := first_ok h hx h2 h4 hm fun _ _ => rfl
      have h8 := h8 w rfl
      rw [Nat.mul_one, ← tke_eq] at h7
      obtain ⟨w', h9, h10⟩ := store_cells h hp h5 h7
      refine ⟨_, w', .int .i64 _, ?_, h10⟩
      have hn : Nat.min b a = min b a := rfl
      have h11 : i'.size = 1 := by rw [k2]; exact h3
      simp [Builtin.copy_, run_underlying (dd_sl ht), h6, run_sizeOf' k1, hn, h11, h8, h9, goInt]
theorem act_built {L : Lo} {gi : Nat → Option Nat} {fr : Fr} {ρ : Operand → Value} {o : Oper} {c : Call} {b : Builtin} {run : Run} {s s' : St} {v : EV} (ho : o.op = .call c) (hb : c.callee = .builtin b) (hk : b = .copy ∨ b = .clear ∨ b = .delete)
    (h : (builtC b c.argTypes.toList (c.args.toList.map (oqC gi))).go run fr s = .ok (v, s')) (hO : Ops L gi fr ρ o.op) : ActAt e R L s s' ρ o v := by
  have hop : ∀ q ∈ c.args.toList, ∀ v, (oqC gi q).get fr = some v → Real L v (ρ q) := fun q hq v hv => hO q (by rw [ho]; exact mem_args hq) v hv
  intro w hw
  obtain ⟨cs, h3⟩ := run_built (ρ := ρ) ho hb w
  suffices hs : ∃ y w', Real L v y ∧ (Go.builtin b c.argTypes o.type cs (c.args.map ρ)).run P w = .ok (.value y) w' ∧ Rep e R L s' w' by
    obtain ⟨y, w', h4, h5, h6⟩ := hs
    unfold NextK
    rw [h3, h5]
    exact ⟨L, Lo.le_refl L, h4, h6⟩
  rcases hts : c.argTypes.toList with _ | ⟨t, _ | ⟨u, _ | ⟨z, tz⟩⟩⟩ <;> rcases has : c.args.toList with _ | ⟨x, _ | ⟨y, _ | ⟨x', tx⟩⟩⟩ <;> rw [hts, has] at h <;> rcases hk with rfl | rfl | rfl <;> (first | (cases h; done) | skip)
  · -- clear
    rw [has] at hop
    obtain ⟨z, g1, g2⟩ := ost_ok h
    obtain ⟨y, g3, g4⟩ := ost_ok g2
    obtain ⟨el, g5, g6⟩ := ob2_ok g1
    obtain ⟨el', g7, g8⟩ := slC_ok g3
    have hel := slT_ok g5
    rw [g7] at hel; cases hel
    cases hz : Nat.beq (len z) y.size with
    | false => rw [hz] at g4; cases g4
    | true =>
      rw [hz] at g4
      obtain ⟨a, g9, g10⟩ := ob2_ok (cv_ok g4)
      have hzl := Nat.eq_of_beq_eq_true hz
      rw [len_eq] at hzl
      obtain ⟨y', w', h4, h5, h6⟩ := clr_ok hw g7 g8 g6 hzl g10 (hop x (by simp) a g9) o.type
      exact ⟨y', w', h4, by rw [types1 hts, args1 has]; exact run_vS h5, h6⟩
  · -- copy
    rw [has] at hop
    obtain ⟨y', g1, g2⟩ := ost_ok h
    obtain ⟨el, g3, g4⟩ := slC_ok g1
    obtain ⟨a, g5, g6⟩ := ob2_ok (cv_ok g2)
    obtain ⟨b, g7, g8⟩ := ob2_ok g6
    obtain ⟨z, w', h4, h5, h6⟩ := copy_ok hw g3 g4 g8 (hop x (by simp) a g5) (hop y (by simp) b g7) u o.type
    exact ⟨z, w', h4, by rw [types2 hts, args2 has]; exact run_vS h5, h6⟩
  · -- delete
    rw [has] at hop
    obtain ⟨kn, g1, g2⟩ := ost_ok h
    obtain ⟨a, g5, g6⟩ := ob2_ok (cv_ok g2)
    obtain ⟨b, g7, g8⟩ := ob2_ok g6
    obtain ⟨z, w', h4, h5, h6⟩ := del_ok hw g1 g8 (hop x (by simp) a g5) (hop y (by simp) b g7) u o.type
    exact ⟨z, w', h4, by rw [types2 hts, args2 has]; exact run_vS h5, h6⟩
end Go.Proofs.YtiabhghlhnnnjaaGreatDoor.Ev
