/-
  THE EVALUATOR IS SOUND (seventh part: operations that reckon).
-/
import Derived.Test.YtiabhghlhnnnjaaGreatDoorEb
set_option linter.unusedVariables false
set_option maxRecDepth 100000
set_option linter.unusedSimpArgs false
set_option maxHeartbeats 0
noncomputable section
namespace Go.Proofs.YtiabhghlhnnnjaaGreatDoor.Ev
open Go Sh Sl
theorem unV_ok {L : Lo} {op : UnOp} {v u : EV} (h : unV op u = some v) {x : Value} (hx : Real L u x) : ∃ z, Real L v z ∧ ∀ w, (Op.unary op x).run P w = .ok z w := by
  unfold unV at h
  split at h
  · cases h; cases hx; rw [bnot_eq]; exact ⟨_, .bool _, fun w => rfl⟩
  · cases h; cases hx
    refine ⟨_, .int _ _, fun w => ?_⟩
    simp [Op.unary, Op.intArith, wrapE_eq, ineg_eq]
  · rename_i k n
    cases h; cases hx
    refine ⟨_, .int _ _, fun w => ?_⟩
    simp only [Op.unary, Op.intBits, Sem.run_pure, wrapE_eq, iadd_eq, ineg_eq]
    congr 2
    have e0 : BitVec.ofInt k.bits (if k.signed = true then -1 else k.max) = BitVec.allOnes k.bits := by
      cases k <;> rfl
    rw [e0]
    have e1 : (BitVec.allOnes k.bits ^^^ BitVec.ofInt k.bits n) = ~~~ (BitVec.ofInt k.bits n) := by
      apply BitVec.eq_of_getLsbD_eq
      intro i hi
      simp [hi]
    rw [e1, BitVec.toNat_not]
    have hp := Nat.two_pow_pos k.bits
    have hb := (BitVec.ofInt k.bits n).isLt
    have e2 : ((2 ^ k.bits - 1 - (BitVec.ofInt k.bits n).toNat : Nat) : Int) = (-n + Int.negSucc 0) % (2 ^ k.bits : Int) := by
      have e3 : ((BitVec.ofInt k.bits n).toNat : Int) = n % (2 ^ k.bits : Int) := by
        rw [BitVec.toNat_ofInt]
        have := Int.emod_nonneg n (b := ((2 ^ k.bits : Nat) : Int)) (by omega)
        rw [Int.toNat_of_nonneg this]; simp
      have e4 : (2 ^ k.bits : Int) = ((2 ^ k.bits : Nat) : Int) := by simp
      rw [e4] at e3 ⊢
      have hm := Int.emod_nonneg n (b := ((2 ^ k.bits : Nat) : Int)) (by omega)
      have hl := Int.emod_lt_of_pos n (b := ((2 ^ k.bits : Nat) : Int)) (by omega)
      have hd := Int.emod_add_mul_ediv n ((2 ^ k.bits : Nat) : Int)
      have : (-n + Int.negSucc 0) = (((2 ^ k.bits : Nat) : Int) - 1 - n % ((2 ^ k.bits : Nat) : Int)) + ((2 ^ k.bits : Nat) : Int) * (-(n / ((2 ^ k.bits : Nat) : Int)) - 1) := by
        rw [Int.mul_sub, Int.mul_neg]; simp only [Int.negSucc_eq]; omega
      rw [this, Int.add_mul_emod_self_left, Int.emod_eq_of_lt (by omega) (by omega)]
      omega
    rw [e2]
    unfold IntKind.wrap
    simp only [Int.emod_emod]
  · cases h
theorem isNil_some {L : Lo} {v : EV} {x : Value} (h : isNil v = some false) (hx : Real L v x) (ρ : Operand → Value) {q : Operand} (hq : ρ q = x) {o : Oper} (ho : o.op = .nilCheck q) (w : World) : (execOp ρ o).run P w = .ok (.value x) w := by
  obtain ⟨dst, op, type, pos, after, guard⟩ := o
  simp only at ho
  subst ho
  cases hx <;> (first | (cases h; done) | skip) <;> simp [execOp, hq]
theorem enc_low {n : Nat} (h : n < 128) : Utf8.encode (n : Int) = ba (bts [n]) := by
  have hv : Utf8.valid (n : Int) = true := by
    unfold Utf8.valid
    simp only [Bool.and_eq_true, Bool.or_eq_true, decide_eq_true_eq]
    omega
  unfold Utf8.encode
  rw [hv, if_pos rfl, Int.toNat_natCast]
  exact if_pos h
theorem convP_ok {L : Lo} {a b : TypeId} {k : CK} (hk : ckC a b = some k) {u v : EV} (h : convP k u = some v) {x : Value} (hx : Real L u x) : ∃ z, Real L v z ∧ ∀ w, (convert a b x).run P w = .ok z w := by
  obtain ⟨ya, g1, hk⟩ := ob2_ok hk
  obtain ⟨yb, g2, hk⟩ := ob2_ok hk
  have da := dd_of g1
  have db := dd_of g2
  cases k with
  | ii k' =>
    cases u <;> try (cases h; done)
    rename_i j n
    cases h
    have : ∃ j', ya.d = .int j' ∧ yb.d = .int k' := by
      split at hk <;> first | (cases hk; done) | (obtain ⟨_, hk⟩ := cnd_some hk; first | (cases hk; done) | (obtain ⟨_, hk⟩ := cnd_some hk; cases hk; done)) | (cases hk; exact ⟨_, ‹_›, ‹_›⟩)
    obtain ⟨j', e1, e2⟩ := this
    rw [e1] at da; rw [e2] at db
    rw [hx.int_inv]
    exact ⟨_, .int _ _, fun w => by rw [wrapE_eq]; simp [convert, run_underlying (dd_int da), run_underlying (dd_int db), Conv.intToInt]⟩
  | fl =>
    cases u <;> try (cases h; done)
    rename_i j n
    cases h
    have : ∃ j', ya.d = .int j' ∧ yb.d = .flt .f64 := by
      split at hk <;> first | (cases hk; done) | (obtain ⟨_, hk⟩ := cnd_some hk; first | (cases hk; done) | (obtain ⟨_, hk⟩ := cnd_some hk; cases hk; done)) | (exact ⟨_, ‹_›, ‹_›⟩)
    obtain ⟨j', e1, e2⟩ := this
    rw [e1] at da; rw [e2] at db
    rw [hx.int_inv]
    exact ⟨_, .flt _, fun w => by simp [convert, run_underlying (dd_int da), run_underlying (dd_flt db), Conv.intToFloat]⟩
  | is =>
    cases u <;> try (cases h; done)
    rename_i j m
    cases m with
    | negSucc m => cases h
    | ofNat n =>
      obtain ⟨h1, h⟩ := cnd_some (show cnd (blt n 128) (some (.str [n])) none = some v from h)
      cases h
      have : ∃ j', ya.d = .int j' ∧ yb.d = .str := by
        split at hk <;> first | (cases hk; done) | (obtain ⟨_, hk⟩ := cnd_some hk; first | (cases hk; done) | (obtain ⟨_, hk⟩ := cnd_some hk; cases hk; done)) | (exact ⟨_, ‹_›, ‹_›⟩)
      obtain ⟨j', e1, e2⟩ := this
      rw [e1] at da; rw [e2] at db
      rw [blt_eq, decide_eq_true_eq] at h1
      rw [hx.int_inv]
      refine ⟨_, .str _ (fun y hy => by rw [List.mem_singleton.1 hy]; omega), fun w => ?_⟩
      simp only [convert, Sem.run_bind, run_underlying (dd_int da), run_underlying (dd_str db), Result.andThen_ok, Conv.intToString, Sem.run_pure]
      rw [show Utf8.encode (Int.ofNat n) = ba (bts [n]) from enc_low h1]
  | ss =>
    cases u <;> try (cases h; done)
    rename_i l
    cases h
    have : ya.d = .str ∧ yb.d = .str := by
      split at hk <;> first | (cases hk; done) | (obtain ⟨_, hk⟩ := cnd_some hk; first | (cases hk; done) | (obtain ⟨_, hk⟩ := cnd_some hk; cases hk; done)) | (exact ⟨‹_›, ‹_›⟩)
    obtain ⟨e1, e2⟩ := this
    rw [e1] at da; rw [e2] at db
    obtain ⟨h1, rfl⟩ := hx.str_inv
    exact ⟨_, .str _ h1, fun w => by simp [convert, run_underlying (dd_str da), run_underlying (dd_str db)]⟩
  | sb => cases u <;> cases h
  | bs => cases u <;> cases h
  | mk => cases u <;> cases h
theorem run_vS' {s : Sem Value} {v : Value} (h : Pu (vS s) v) (w : World) : s.run P w = .ok v w := vS_run (h w)
theorem nat_of {n : Nat} : (0 : Int) ≤ (n : Int) := Int.natCast_nonneg n
theorem ixaE_ok {L : Lo} {t : TypeId} {k : IK} (hk : ikC t = some k) {u : EV} {j : Nat} {v : EV} (h : ixaE k u j = some v) {x : Value} (hx : Real L u x) (kk : IntKind) : ∃ z, Real L v z ∧ ∀ w, (Instr.indexAt t x (.int kk (j : Int))).run P w = .ok z w := by
  unfold ikC at hk
  cases ht : ti t with
  | none => rw [ht] at hk; cases hk
  | some y =>
    rw [ht] at hk
    have hd := dd_of ht
    simp only [Option.bind_some] at hk
    split at hk
    · cases hk; cases h
    · rename_i e hy
      rw [hy] at hd
      simp only [Option.map_eq_some_iff] at hk
      obtain ⟨z, hz, rfl⟩ := hk
      obtain ⟨sl, h1, h⟩ := ob2_ok (show ob2 u.sl? _ = some v from h)
      obtain ⟨i, off, n, c, b⟩ := sl
      obtain ⟨h2, h⟩ := cnd_some (show cnd (blt j n) (some (.ptr i (Nat.add off (Nat.mul j z.size)))) none = some v from h)
      cases h
      rw [blt_eq, decide_eq_true_eq] at h2
      rw [sl?_ok h1] at hx
      obtain ⟨p, hp, rfl⟩ := hx.slice_inv
      refine ⟨_, .ptr hp, fun w => ?_⟩
      have := run_vS' (st_ix (k := kk) (b := p.b) (off := p.o + off) (c := if b = true then c else p.cap off) hd (szof_of hz) nat_of (by omega : (j : Int) < n)) w
      simp only [Int.toNat_natCast] at this
      simpa [Lc.adr, Nat.add_assoc] using this
    · rename_i n e hy
      rw [hy] at hd
      simp only [Option.map_eq_some_iff] at hk
      obtain ⟨z, hz, rfl⟩ := hk
      obtain ⟨⟨i, off⟩, h1, h⟩ := ob2_ok (show ob2 u.ptr? _ = some v from h)
      obtain ⟨h2, h⟩ := cnd_some (show cnd (blt j n) (some (.ptr i (Nat.add off (Nat.mul j z.size)))) none = some v from h)
      cases h
      rw [blt_eq, decide_eq_true_eq] at h2
      rw [ptr?_ok h1] at hx
      obtain ⟨p, hp, rfl⟩ := hx.ptr_inv
      refine ⟨_, .ptr hp, fun w => ?_⟩
      have := run_vS' (st_ixA (k := kk) (b := p.b) (off := p.o + off) hd (szof_of hz) nat_of (by omega : (j : Int) < n)) w
      simp only [Int.toNat_natCast] at this
      simpa [Lc.adr, Nat.add_assoc] using this
    · cases hk
theorem ba_get {l : List UInt8} {i : Nat} {b : UInt8} (h : l[i]? = some b) : (ba l)[i]? = some b := by
  have hi := (List.getElem?_eq_some_iff.1 h).1
  have hs : i < (ba l).size := by simpa [ba, ByteArray.size] using hi
  rw [getElem?_pos (ba l) i hs]
  have h1 : l[i]'hi = b := (List.getElem?_eq_some_iff.1 h).2
  rw [← h1]
  congr 1
theorem ixE_ok {L : Lo} {t : TypeId} {k : IK} (hk : ikC t = some k) {u : EV} {j : Nat} {v : EV} (h : ixE k u j = some v) {x : Value} (hx : Real L u x) (kk : IntKind) : ∃ z, Real L v z ∧ ∀ w, (Instr.index t x (.int kk (j : Int))).run P w = .ok z w := by
  unfold ikC at hk
  cases ht : ti t with
  | none => rw [ht] at hk; cases hk
  | some y =>
    rw [ht] at hk
    have hd := dd_of ht
    simp only [Option.bind_some] at hk
    split at hk
    · rename_i hy
      rw [hy] at hd
      cases hk
      obtain ⟨l, h1, h⟩ := ob2_ok (show ob2 u.str? _ = some v from h)
      obtain ⟨b, h2, h⟩ := ob2_ok h
      cases h
      rw [str?_ok h1] at hx
      obtain ⟨h3, rfl⟩ := hx.str_inv
      rw [nth_eq] at h2
      have hb := h3 b (List.mem_of_getElem? h2)
      have h4 : (bts l)[j]? = some (UInt8.ofNat b) := by simp [bts, h2]
      refine ⟨_, .int _ _, fun w => ?_⟩
      have e1 : (UInt8.ofNat b).toNat = b := by simp only [UInt8.toNat_ofNat']; omega
      simp [Instr.index, asIntOf, run_underlying (dd_str hd), ba_get h4, e1]
    · simp only [Option.map_eq_some_iff] at hk
      obtain ⟨z, hz, rfl⟩ := hk
      cases h
    · rename_i n e hy
      rw [hy] at hd
      simp only [Option.map_eq_some_iff] at hk
      obtain ⟨z, hz, rfl⟩ := hk
      obtain ⟨l, h1, h⟩ := ob2_ok (show ob2 u.agg? _ = some v from h)
      obtain ⟨h2, h⟩ := cnd_some (show cnd (blt j n) (rdE (isAg z) z.size (tke (drp l (Nat.mul j z.size)) z.size)) none = some v from h)
      rw [blt_eq, decide_eq_true_eq] at h2
      rw [agg?_ok h1] at hx
      obtain ⟨vs, hv, rfl⟩ := hx.agg_inv
      obtain ⟨x, h3, h4⟩ := rdE_part hz hv h
      obtain ⟨i', g2, g3, _⟩ := szof_spec (szof_of hz)
      refine ⟨x, h3, fun w => ?_⟩
      have h5 : (j : Int) < n := by omega
      have h6 := h4 w
      simp only [Nat.mul_eq] at h6
      simp [Instr.index, asIntOf, run_underlying (dd_arr hd), h2, run_sizeOf' g2, g3, h6]
    · cases hk
theorem fldC_ok {L : Lo} {t f : Nat} {q : Nat × Bool × Nat} (hk : fldC t f = some q) {l : List EV} {vs : List Value} (hl : Reals L l vs) {v : EV} (h : rdE q.2.1 q.2.2 (tke (drp l q.1) q.2.2) = some v) :
    ∃ z, Real L v z ∧ ∀ w, (Instr.field t (.agg vs.toArray) f).run P w = .ok z w := by
  unfold fldC at hk
  cases ht : ti t with
  | none => rw [ht] at hk; cases hk
  | some y =>
    rw [ht] at hk
    simp only [Option.bind_some] at hk
    split at hk
    · rename_i fs hy
      cases hf : fs[f]? with
      | none => rw [hf] at hk; cases hk
      | some g =>
        rw [hf] at hk
        simp only [Option.bind_some, Option.map_eq_some_iff] at hk
        obtain ⟨z, hz, rfl⟩ := hk
        obtain ⟨x, h3, h4⟩ := rdE_part hz hl h
        refine ⟨x, h3, fun w => ?_⟩
        obtain ⟨i, d, u1, u2, u3, u4, u5⟩ := ti_spec ht
        rw [hy] at u5
        cases d <;> simp only [dOf] at u5 <;> (first | (cases u5; done) | skip)
        rename_i fields
        cases u5
        simp only [List.getElem?_map, Array.getElem?_toList, Option.map_eq_some_iff] at hf
        obtain ⟨fd, g1, rfl⟩ := hf
        simp [Instr.field, run_underlying u2, g1, asAgg, h4 w]
    · cases hk
theorem plsC_ok {L : Lo} {t : TypeId} {pl : Nat → Option (Nat × Nat)} (hp : plsC t = some pl) {z : List EV} (hz : zroE t = some z) {ps : Array (Nat × Operand)} {vs : List EV} {ρ : Operand → Value} (hv : Reals L vs (ps.toList.map fun p => ρ p.2))
    {out : List EV} (h : fillE pl z ((ps.toList.map (·.1)).zip vs) = some out) : ∃ o, Reals L out o ∧ Pu (vS (Instr.build t (ps.map fun p => (p.1, ρ p.2)))) (.agg o.toArray) := by
  obtain ⟨zs, h1, h2⟩ := zroE_ok (L := L) hz
  have hlen : vs.length = ps.toList.length := by have := hv.length; simpa using this.symm
  have e1 : ((ps.toList.map (·.1)).zip vs).map (·.1) = (ps.toList.map fun p => (p.1, ρ p.2)).map (·.1) := by
    rw [List.map_fst_zip (by simp [hlen])]; simp
  have e2 : Reals L (((ps.toList.map (·.1)).zip vs).map (·.2)) ((ps.toList.map fun p => (p.1, ρ p.2)).map (·.2)) := by
    rw [List.map_snd_zip (by simp [hlen])]; simpa [Function.comp_def] using hv
  obtain ⟨os, h3, h4⟩ := fillE_ok pl _ _ z out zs e1 e2 h2 h
  unfold plsC at hp
  cases ht : ti t with
  | none => rw [ht] at hp; cases hp
  | some y =>
    rw [ht] at hp
    have hd := dd_of ht
    simp only at hp
    split at hp
    · simp only [Option.map_eq_some_iff] at hp
      obtain ⟨l, hl, rfl⟩ := hp
      exact ⟨os, h4, st_build hl h1 (by simpa using h3)⟩
    · rename_i n e hy
      rw [hy] at hd
      simp only [Option.map_eq_some_iff] at hp
      obtain ⟨ye, he, rfl⟩ := hp
      refine ⟨os, h4, Still.of_run fun w => ?_⟩
      obtain ⟨i', v, g1, g2, g3⟩ := zro_spec h1
      obtain ⟨i2, k2, k3, _⟩ := szof_spec (szof_of he)
      have e3 : v.cells = zs.toArray := by rw [← g3]
      have hff := fillL_fill _ _ _ _ h3
      simp only [Instr.build, Sem.run_bind, run_zero g1 g2, Result.andThen_ok, run_underlying (dd_arr hd), run_sizeOf' k2, k3, e3]
      rw [show (ps.map fun p => (p.1, ρ p.2)).toList = ps.toList.map fun p => (p.1, ρ p.2) by simp, hff]
      rfl
    · cases hp
/-- WHAT RECKONS. -/
theorem pure_op {L : Lo} {gi : Nat → Option Nat} {fr : Fr} {ρ : Operand → Value} {o : Oper} {run : Run} {s s' : St} {v : EV} (hk : kindE o.op = 1) (hc : ∀ c, o.op ≠ .call c) (h : (opC gi o.op).go run fr s = .ok (v, s'))
    (hO : Ops L gi fr ρ o.op) : s' = s ∧ PureAt L ρ o v := by
  obtain ⟨dst, op, type, pos, after, guard⟩ := o
  simp only at hk hc h hO
  cases op <;> (first | (cases hk; done) | skip)
  case move x =>
    obtain ⟨h1, rfl⟩ := pv_ok h
    exact ⟨rfl, _, hO x (by simp [Op.operands]) v h1, fun w => rfl⟩
  case assign x =>
    obtain ⟨h1, rfl⟩ := pv_ok h
    exact ⟨rfl, _, hO x (by simp [Op.operands]) v h1, fun w => rfl⟩
  case pick c a b =>
    obtain ⟨h1, rfl⟩ := pv_ok h
    obtain ⟨u, h2, h1⟩ := ob2_ok h1
    obtain ⟨t, h3, h1⟩ := ob2_ok h1
    have hu := hO c (by simp [Op.operands]) u h2
    rw [bool?_ok h3] at hu
    have hu := hu.bool_inv
    cases t with
    | true => exact ⟨rfl, _, hO a (by simp [Op.operands]) v h1, fun w => by simp [execOp, hu, asBool]⟩
    | false => exact ⟨rfl, _, hO b (by simp [Op.operands]) v h1, fun w => by simp [execOp, hu, asBool]⟩
  case build t ps =>
    obtain ⟨pl, h1, h⟩ := ost_ok h
    obtain ⟨z, h2, h⟩ := ost_ok h
    obtain ⟨h', rfl⟩ := pv_ok h
    obtain ⟨vs, h3, h'⟩ := ob2_ok h'
    obtain ⟨cs, h4, h'⟩ := ob2_ok h'
    cases h'
    have hv : Reals L vs (ps.toList.map fun p => ρ p.2) := by
      have := getL_ok (L := L) (ρ := ρ) (l := ps.toList.map (·.2)) (by simpa [Function.comp_def] using h3) (fun q hq u hu => hO q (by simpa [Op.operands] using hq) u hu)
      simpa [Function.comp_def] using this
    obtain ⟨o, h5, h6⟩ := plsC_ok h1 h2 hv h4
    exact ⟨rfl, _, .agg h5, h6⟩
  case nilCheck x =>
    obtain ⟨h1, rfl⟩ := pv_ok h
    obtain ⟨u, h2, h1⟩ := q1_ok h1
    obtain ⟨b, h3, h1⟩ := ob2_ok h1
    cases b with
    | true => cases h1
    | false =>
      cases h1
      have hu := hO x (by simp [Op.operands]) v h2
      exact ⟨rfl, _, hu, fun w => isNil_some h3 hu ρ rfl rfl w⟩
  case binOp op t x y yt =>
    obtain ⟨h1, rfl⟩ := pv_ok h
    obtain ⟨a, b, h2, h3, h1⟩ := q2_ok h1
    obtain ⟨z, h4, h5⟩ := binV_ok h1 (hO x (by simp [Op.operands]) a h2) (hO y (by simp [Op.operands]) b h3)
    exact ⟨rfl, z, h4, h5⟩
  case unOp op t x =>
    obtain ⟨h1, rfl⟩ := pv_ok h
    obtain ⟨u, h2, h1⟩ := q1_ok h1
    obtain ⟨z, h4, h5⟩ := unV_ok h1 (hO x (by simp [Op.operands]) u h2)
    exact ⟨rfl, z, h4, fun w => run_vS (h5 w)⟩
  case convert a b x =>
    obtain ⟨k, h1, h⟩ := ost_ok h
    simp only [kindE, h1] at hk
    have key : (pv (q1 (oqC gi x) (convP k)) 34).go run fr s = .ok (v, s') → s' = s ∧ PureAt L ρ ⟨dst, .convert a b x, type, pos, after, guard⟩ v := fun h => by
      obtain ⟨h2, rfl⟩ := pv_ok h
      obtain ⟨u, h3, h2⟩ := q1_ok h2
      obtain ⟨z, h4, h5⟩ := convP_ok h1 h2 (hO x (by simp [Op.operands]) u h3)
      exact ⟨rfl, z, h4, fun w => run_vS (h5 w)⟩
    cases k <;> (first | (cases hk; done) | exact key h)
  case makeInterface t x =>
    cases hb : conc t with
    | false => rw [show (opC gi (.makeInterface t x)) = cnd (conc t) (pv (q1 (oqC gi x) fun v => some (.iface t v)) 54) (.bad 35) from rfl, hb] at h; cases h
    | true =>
      rw [show (opC gi (.makeInterface t x)) = cnd (conc t) (pv (q1 (oqC gi x) fun v => some (.iface t v)) 54) (.bad 35) from rfl, hb] at h
      obtain ⟨h1, rfl⟩ := pv_ok h
      obtain ⟨u, h2, h1⟩ := q1_ok h1
      cases h1
      refine ⟨rfl, _, .iface (hO x (by simp [Op.operands]) u h2), fun w => run_vS ?_⟩
      unfold conc at hb
      split at hb
      · cases hb
      · rename_i d hd hx
        cases d <;> first | (exact absurd rfl (hd _)) | simp [Instr.makeInterface, run_underlying hx]
      · cases hb
  case makeFunc fn first cap =>
    cases fn <;> (first | (cases h; done) | skip)
    rename_i f
    obtain ⟨h1, rfl⟩ := pv_ok h
    obtain ⟨a, h2, h1⟩ := ob2_ok h1
    obtain ⟨b, h3, h1⟩ := ob2_ok h1
    cases h1
    have ha := getL_ok (L := L) (ρ := ρ) h2 (fun q hq u hu => hO q (by simp [Op.operands, Array.mem_toList_iff.1 hq]) u hu)
    have hb := getL_ok (L := L) (ρ := ρ) h3 (fun q hq u hu => hO q (by simp [Op.operands, Array.mem_toList_iff.1 hq]) u hu)
    refine ⟨rfl, _, .fn ha hb, fun w => ?_⟩
    simp [execOp, Instr.makeFunc]
    constructor <;> exact Array.toList_inj.1 (by simp)
  case fieldAddr t x f =>
    obtain ⟨d, h1, h⟩ := ost_ok h
    obtain ⟨h2, rfl⟩ := pv_ok h
    obtain ⟨u, h3, h2⟩ := q1_ok h2
    obtain ⟨⟨i, off⟩, h4, h2⟩ := ob2_ok h2
    cases h2
    have hu := hO x (by simp [Op.operands]) u h3
    rw [ptr?_ok h4] at hu
    obtain ⟨p, hp, hx⟩ := hu.ptr_inv
    refine ⟨rfl, _, .ptr hp, fun w => run_vS ?_⟩
    have := run_field h1 p.b (p.o + off) w
    rw [hx]
    simpa [Lc.adr, Nat.add_assoc] using this
  case field t x f =>
    obtain ⟨q, h1, h⟩ := ost_ok h
    obtain ⟨h2, rfl⟩ := pv_ok h
    obtain ⟨u, h3, h2⟩ := q1_ok h2
    obtain ⟨l, h4, h2⟩ := ob2_ok h2
    have hu := hO x (by simp [Op.operands]) u h3
    rw [agg?_ok h4] at hu
    obtain ⟨vs, hv, hx⟩ := hu.agg_inv
    obtain ⟨z, h5, h6⟩ := fldC_ok h1 hv h2
    exact ⟨rfl, z, h5, fun w => run_vS (by rw [hx]; exact h6 w)⟩
  case indexAddr t x ix =>
    obtain ⟨k, h1, h⟩ := ost_ok h
    obtain ⟨h2, rfl⟩ := pv_ok h
    obtain ⟨a, b, h3, h4, h2⟩ := q2_ok h2
    obtain ⟨j, h5, h2⟩ := ob2_ok h2
    obtain ⟨kk, hb⟩ := nat?_ok h5
    have hb' := hO ix (by simp [Op.operands]) b h4
    rw [hb] at hb'
    have hb' := hb'.int_inv
    obtain ⟨z, h6, h7⟩ := ixaE_ok h1 h2 (hO x (by simp [Op.operands]) a h3) kk
    exact ⟨rfl, z, h6, fun w => run_vS (by rw [hb']; exact h7 w)⟩
  case index t x ix =>
    obtain ⟨k, h1, h⟩ := ost_ok h
    obtain ⟨h2, rfl⟩ := pv_ok h
    obtain ⟨a, b, h3, h4, h2⟩ := q2_ok h2
    obtain ⟨j, h5, h2⟩ := ob2_ok h2
    obtain ⟨kk, hb⟩ := nat?_ok h5
    have hb' := hO ix (by simp [Op.operands]) b h4
    rw [hb] at hb'
    have hb' := hb'.int_inv
    obtain ⟨z, h6, h7⟩ := ixE_ok h1 h2 (hO x (by simp [Op.operands]) a h3) kk
    exact ⟨rfl, z, h6, fun w => run_vS (by rw [hb']; exact h7 w)⟩
  case extract t i =>
    obtain ⟨h2, rfl⟩ := pv_ok h
    obtain ⟨u, h3, h2⟩ := q1_ok h2
    obtain ⟨l, h4, h2⟩ := ob2_ok h2
    have hu := hO t (by simp [Op.operands]) u h3
    rw [tup?_ok h4] at hu
    obtain ⟨vs, hv, hx⟩ := hu.tup_inv
    rw [nth_eq] at h2
    obtain ⟨z, h5, h6⟩ := hv.get h2
    exact ⟨rfl, z, h6, fun w => run_vS (by rw [hx]; simp [Instr.extract, h5])⟩
  case call c => exact absurd rfl (hc c)
end Go.Proofs.YtiabhghlhnnnjaaGreatDoor.Ev
