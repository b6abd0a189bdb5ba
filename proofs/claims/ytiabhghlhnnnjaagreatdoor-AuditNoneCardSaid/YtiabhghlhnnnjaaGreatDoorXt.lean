/-
  WHAT THE EVALUATOR IS TOLD OF A FEW FUNCTIONS: what they answer, and that any run answers so.
-/
import Derived.Test.YtiabhghlhnnnjaaGreatDoorPg
import Derived.Test.YtiabhghlhnnnjaaGreatDoorShelf
import Derived.Test.YtiabhghlhnnnjaaGreatDoorTw
import Derived.Test.YtiabhghlhnnnjaaGreatDoorLift
import Derived.Lib.Bytealg
import Derived.Lib.BytesEntry
import Derived.Lib.AppendIntMem
import Derived.Laws.Externs
set_option maxRecDepth 100000
set_option linter.unusedVariables false
noncomputable section
namespace Go.Proofs.YtiabhghlhnnnjaaGreatDoor.Ev
open Go Sh Sl
open Go.RowKit
variable {e : Env} {R : HProp}
theorem Rep.below {L : Lo} {s : St} {w w' : World} (h : Rep e R L s w) (hb : Below w.heap.size w w') : Rep e R L s w' :=
  ⟨⟨hb.os.trans h.sat.os, hb.tape.trans h.sat.tape, hb.output.trans h.sat.output, sepL_mono (fun i o hi => by
    have hlt : i < w.heap.size := (Array.getElem?_eq_some_iff.1 hi).1
    show w'.heap[i]? = some o
    rw [hb.block i hlt]; exact hi) h.sat.heap⟩, h.dom⟩
/-! lower-case letters -/
noncomputable def loE (c : Nat) : Nat := cnd (Nat.ble 65 c) (cnd (Nat.ble c 90) (Nat.add c 32) c) c
noncomputable def lowE (l : List Nat) : List Nat := @List.rec Nat (fun _ => List Nat) [] (fun c _ t => loE c :: t) l
theorem lowE_ok : ∀ {l : List Nat}, okB l → okB (lowE l) ∧ bts (lowE l) = Tx.lower (bts l)
  | [], _ => ⟨fun x hx => (List.not_mem_nil hx).elim, rfl⟩
  | c :: l, h => by
    obtain ⟨h1, h2⟩ := lowE_ok (l := l) fun x hx => h x (List.mem_cons_of_mem _ hx)
    have hc := h c List.mem_cons_self
    have key : loE c < 256 ∧ UInt8.ofNat (loE c) = Tx.lo (UInt8.ofNat c) := by
      have hn : (UInt8.ofNat c).toNat = c := by simp [UInt8.toNat_ofNat', Nat.mod_eq_of_lt hc]
      have e1 : loE c = if 65 ≤ c ∧ c ≤ 90 then c + 32 else c := by
        unfold loE
        rw [ble_eq, ble_eq]
        by_cases h1 : 65 ≤ c <;> by_cases h2 : c ≤ 90 <;> simp [h1, h2, cnd]
      rw [e1]
      refine ⟨by split <;> omega, ?_⟩
      apply UInt8.toNat_inj.1
      rw [Tx.lo_nat, hn]
      split
      · simp only [UInt8.toNat_ofNat']; omega
      · simp only [UInt8.toNat_ofNat']; omega
    refine ⟨fun x hx => ?_, ?_⟩
    · rcases List.mem_cons.1 (show x ∈ loE c :: lowE l from hx) with rfl | hx
      · exact key.1
      · exact h1 x hx
    · show UInt8.ofNat (loE c) :: bts (lowE l) = Tx.lo (UInt8.ofNat c) :: Tx.lower (bts l)
      rw [key.2, h2]
noncomputable def xLower (a : List EV) (s : St) : Option (EV × St) := match a with
  | [.str l] => cnd (Nat.ble (len l) 1099511627776) (some (.str (lowE l), s)) none
  | _ => none
theorem xLower_ok (pg : Pg) (args : List EV) (s : St) (v : EV) (s' : St) (h : xLower args s = some (v, s')) : CallAt e R pg 76 args s v s' := by
  unfold xLower at h
  split at h
  · rename_i l
    obtain ⟨h1, h2⟩ := cnd_some h
    cases h2
    have hl := Nat.le_of_ble_eq_true h1
    rw [len_eq] at hl
    intro L xs w hg hx hw
    cases hx with
    | cons h3 h4 =>
      cases h4
      obtain ⟨hb, rfl⟩ := h3.str_inv
      obtain ⟨k1, k2⟩ := lowE_ok hb
      have := Tx.lower_spec (e := e) (rest := R :: prts L s) (l := bts l) (K := fun x w' => x = ba (bts (lowE l)) ∧ Rep e R L s w') (by rw [bts_len]; exact hl) (fun w' hw' => ⟨by rw [k2], hw', hw.dom⟩) w hw.sat
      unfold NextK
      rw [callFunc_run (by kernel_rfl)]
      exact Calls.mono this fun en w' ⟨y, he, z, hy, hz, hR⟩ => ⟨y, he, L, Lo.le_refl L, by rw [hy, hz]; exact .str _ k1, hR⟩
  · cases h
/-! numbers' digits -/
noncomputable def digE (f : Nat) : Nat → List Nat → List Nat := @Nat.rec (fun _ => Nat → List Nat → List Nat) (fun _ a => a) (fun _ ih n a => cnd (Nat.ble n 9) (Nat.add 48 n :: a) (ih (Nat.div n 10) (Nat.add 48 (Nat.mod n 10) :: a))) f
noncomputable def xItoa (a : List EV) (s : St) : Option (EV × St) := match a with
  | [.int .i64 (.ofNat n)] => cnd (Nat.ble n 9223372036854775807) (some (.str (digE 20 n []), s)) none
  | _ => none
theorem digE_ok : ∀ (f n : Nat) (a : List Nat), n < 10 ^ (f + 1) → okB a → okB (digE (f + 1) n a) ∧ bts (digE (f + 1) n a) = Lib.decDigits n ++ bts a
  | f, n, a, hn, ha => by
    have e0 : digE (f + 1) n a = cnd (Nat.ble n 9) ((48 + n) :: a) (digE f (n / 10) ((48 + n % 10) :: a)) := rfl
    rw [e0, ble_eq]
    by_cases h : n ≤ 9
    · simp only [h, decide_true, cnd_true]
      rw [Lib.decDigits_one (by omega)]
      refine ⟨fun x hx => ?_, rfl⟩
      rcases List.mem_cons.1 hx with rfl | hx
      · omega
      · exact ha x hx
    · have hd : decide (n ≤ 9) = false := by simp [h]
      rw [hd, cnd_false]
      cases f with
      | zero => omega
      | succ f =>
        have hlt : n / 10 < 10 ^ (f + 1) := by
          have : 10 ^ (f + 1 + 1) = 10 ^ (f + 1) * 10 := Nat.pow_succ ..
          omega
        obtain ⟨h1, h2⟩ := digE_ok f (n / 10) ((48 + n % 10) :: a) hlt fun x hx => by
          rcases List.mem_cons.1 hx with rfl | hx
          · omega
          · exact ha x hx
        refine ⟨h1, ?_⟩
        rw [h2]
        conv => rhs; rw [Lib.decDigits, dif_neg (by omega)]
        simp [bts]
theorem digs_ok (n : Nat) (h : n ≤ 9223372036854775807) : okB (digE 20 n []) ∧ bts (digE 20 n []) = Lib.itoa (n : Int) := by
  obtain ⟨h1, h2⟩ := digE_ok 19 n [] (by omega) fun x hx => (List.not_mem_nil hx).elim
  refine ⟨h1, ?_⟩
  rw [h2]
  unfold Lib.itoa
  rw [if_neg (by omega)]
  simp [bts]
theorem xItoa_ok (pg : Pg) (htab : ∀ (L : Lo) (s : St) (w : World), Rep e R L s w → Lib.TabIs P w "internal/strconv.uint64pow10" .u64 Lib.pow10Tab) (args : List EV) (s : St) (v : EV) (s' : St) (h : xItoa args s = some (v, s')) : CallAt e R pg 119 args s v s' := by
  unfold xItoa at h
  split at h
  · rename_i n
    obtain ⟨h1, h2⟩ := cnd_some h
    cases h2
    have h1 := Nat.le_of_ble_eq_true h1
    obtain ⟨k1, k2⟩ := digs_ok n h1
    intro L xs w hg hx hw
    cases hx with
    | cons h3 h4 =>
      cases h4
      rw [h3.int_inv]
      unfold NextK
      rw [callFunc_run (by kernel_rfl)]
      refine Calls.mono (Tryz.strconv_Itoa (n : Int) (by omega) (by omega) w (htab L s w hw)) fun en w' ⟨h5, k, os, h6⟩ => ?_
      exact ⟨_, h5, L, Lo.le_refl L, by rw [show (⟨(Lib.itoa (n : Int)).toArray⟩ : ByteArray) = ba (bts (digE 20 n [])) by rw [k2]]; exact .str _ k1, hw.below (by rw [h6]; exact Lib.below_grow _ w (Nat.le_refl _) k os)⟩
  · cases h
/-! a byte's place; how many there are -/
noncomputable def ixb (c : Nat) : List Nat → Nat → Int
  | [], _ => -1
  | x :: r, i => cnd (Nat.beq x c) (.ofNat i) (ixb c r (Nat.succ i))
noncomputable def cntb (c : Nat) : List Nat → Nat → Nat
  | [], n => n
  | x :: r, n => cntb c r (cnd (Nat.beq x c) (Nat.succ n) n)
theorem byte_eq {x c : Nat} (hx : x < 256) (hc : c < 256) : (UInt8.ofNat x == UInt8.ofNat c) = Nat.beq x c := by
  rw [beq_eq]
  by_cases h : x = c
  · subst h; simp
  · have : UInt8.ofNat x ≠ UInt8.ofNat c := fun he => h (by
      have := congrArg UInt8.toNat he
      simpa [UInt8.toNat_ofNat', Nat.mod_eq_of_lt hx, Nat.mod_eq_of_lt hc] using this)
    simp [h, this]
theorem ixb_ok {c : Nat} (hc : c < 256) : ∀ (l : List Nat) (i : Nat), okB l → ixb c l i = if Lib.indexByte (bts l) (UInt8.ofNat c) = -1 then -1 else Lib.indexByte (bts l) (UInt8.ofNat c) + i
  | [], _, _ => rfl
  | x :: l, i, h => by
    have hx := h x List.mem_cons_self
    have ih := ixb_ok hc l (i + 1) fun y hy => h y (List.mem_cons_of_mem _ hy)
    have hge := Lib.indexByte_ge (bts l) (UInt8.ofNat c)
    show cnd (Nat.beq x c) (.ofNat i) (ixb c l (i + 1)) = if (Lib.indexByte (UInt8.ofNat x :: bts l) (UInt8.ofNat c)) = -1 then -1 else Lib.indexByte (UInt8.ofNat x :: bts l) (UInt8.ofNat c) + i
    unfold Lib.indexByte
    rw [byte_eq hx hc]
    cases hb : Nat.beq x c with
    | true => simp [cnd]
    | false =>
      rw [cnd_false, ih]
      by_cases h1 : Lib.indexByte (bts l) (UInt8.ofNat c) = -1
      · simp [h1]
      · have h2 : ¬ (Lib.indexByte (bts l) (UInt8.ofNat c) + 1 = -1) := by omega
        simp [h1, h2]; omega
theorem cntb_ok {c : Nat} (hc : c < 256) : ∀ (l : List Nat) (n : Nat), okB l → cntb c l n = n + Lib.countByte (bts l) (UInt8.ofNat c)
  | [], n, _ => rfl
  | x :: l, n, h => by
    have hx := h x List.mem_cons_self
    have ih := cntb_ok hc l (cnd (Nat.beq x c) (n + 1) n) fun y hy => h y (List.mem_cons_of_mem _ hy)
    show cntb c l (cnd (Nat.beq x c) (n + 1) n) = n + Lib.countByte (UInt8.ofNat x :: bts l) (UInt8.ofNat c)
    rw [ih]
    unfold Lib.countByte
    rw [List.count_cons, byte_eq hx hc]
    cases hb : Nat.beq x c with
    | true => simp only [cnd_true, if_true]; omega
    | false => simp [cnd]
theorem run_ext {f : FuncId} {fn : Func} {x : Array Value → Sem Value} (hf : P.funcs[f]? = some fn) (hname : (fn.name == "runtime.NumGoroutine") = false) (hb : fn.body.isNone = true) (hn : Extern.findNext fn = none) (he : Extern.find fn = some x)
    {L : Lo} {s : St} {v : EV} {y : Value} {args : Array Value} {w : World} (hw : Rep e R L s w) (hv : Real L v y) (hrun : (x args).run P w = .ok y w) : NextK P (callFunc f args) (fun y w' => ∃ M, Lo.le L M ∧ Real M v y ∧ Rep e R M s w') w := by
  unfold NextK
  rw [run_callFunc_extern hf hname hb hn he, hrun]
  exact ⟨L, Lo.le_refl L, hv, hw⟩
theorem toB {c : Nat} (hc : c < 256) : ((c : Int).toNat.toUInt8) = UInt8.ofNat c := by rw [Int.toNat_natCast]
noncomputable def xIxs (a : List EV) (s : St) : Option (EV × St) := match a with
  | [.str l, .int .u8 (.ofNat c)] => cnd (blt c 256) (some (.int .i64 (ixb c l 0), s)) none
  | _ => none
theorem ixb_ix {c : Nat} (hc : c < 256) {l : List Nat} (h : okB l) : ixb c l 0 = Lib.indexByte (bts l) (UInt8.ofNat c) := by
  rw [ixb_ok hc l 0 h]
  split
  · rename_i h1; rw [h1]
  · simp
theorem xIxs_ok (pg : Pg) (args : List EV) (s : St) (v : EV) (s' : St) (h : xIxs args s = some (v, s')) : CallAt e R pg 255 args s v s' := by
  unfold xIxs at h
  split at h
  · rename_i l c
    obtain ⟨h1, h2⟩ := cnd_some h
    cases h2
    rw [blt_eq, decide_eq_true_eq] at h1
    intro L xs w hg hx hw
    cases hx with
    | cons h3 h4 =>
      cases h4 with
      | cons h5 h6 =>
        cases h6
        obtain ⟨hb, rfl⟩ := h3.str_inv
        rw [h5.int_inv]
        refine run_ext Tryz.func255 (by kernel_rfl) (by kernel_rfl) (by rfl) (by rfl) hw (.int .i64 (ixb c l 0)) ?_
        have := Lib.run_indexByteString (P := P) (ba (bts l)) (c : Int) w
        rw [toB h1] at this
        rw [ixb_ix h1 hb]
        exact this
  · cases h
noncomputable def xCnt (a : List EV) (s : St) : Option (EV × St) := match a with
  | [.str l, .int .u8 (.ofNat c)] => cnd (blt c 256) (some (.int .i64 (.ofNat (cntb c l 0)), s)) none
  | _ => none
theorem xCnt_ok (pg : Pg) (args : List EV) (s : St) (v : EV) (s' : St) (h : xCnt args s = some (v, s')) : CallAt e R pg 424 args s v s' := by
  unfold xCnt at h
  split at h
  · rename_i l c
    obtain ⟨h1, h2⟩ := cnd_some h
    cases h2
    rw [blt_eq, decide_eq_true_eq] at h1
    intro L xs w hg hx hw
    cases hx with
    | cons h3 h4 =>
      cases h4 with
      | cons h5 h6 =>
        cases h6
        obtain ⟨hb, rfl⟩ := h3.str_inv
        rw [h5.int_inv]
        refine run_ext Tryz.func424 (by kernel_rfl) (by kernel_rfl) (by rfl) (by rfl) hw (.int .i64 (.ofNat (cntb c l 0))) ?_
        have := Lib.run_countString (P := P) (ba (bts l)) (c : Int) w
        rw [toB h1] at this
        rw [cntb_ok h1 l 0 hb, Nat.zero_add]
        exact this
  · cases h
/-- bytes of memory -/
theorem bytes_ok {L : Lo} {s : St} {w : World} (h : Rep e R L s w) {u : EV} {l : List Nat} (hv : convB s u = some (.str l)) {x : Value} (hx : Real L u x) : okB l ∧ (Extern.Bytes.bytesOf x).run P w = .ok (ba (bts l)) w := by
  unfold convB at hv
  split at hv
  · cases hv
    cases hx
    exact ⟨fun x hx => (List.not_mem_nil hx).elim, rfl⟩
  · rename_i i off n c xx
    obtain ⟨cs, h1, hv⟩ := ob2_ok hv
    obtain ⟨l, h2, hv⟩ := ob2_ok hv
    cases hv
    obtain ⟨h3, h4⟩ := okB_of h2
    obtain ⟨p, hp, rfl⟩ := hx.slice_inv
    refine ⟨h3, ?_⟩
    have hcells : ∃ vs, Reals L cs vs ∧ cs.length = n ∧ ∀ j v, vs[j]? = some v → w.cell? ((p.adr off).add j) = some v := by
      cases h0 : Nat.beq (Nat.mul n 1) 0 with
      | true =>
        have hn : n = 0 := by have := Nat.eq_of_beq_eq_true h0; simpa using this
        have h5 : cnd (Nat.beq (Nat.mul n 1) 0) (some []) (cutE s i off (Nat.mul n 1)) = some cs := h1
        rw [h0] at h5
        cases h5
        subst hn
        exact ⟨[], .nil, rfl, fun j v hj => by simp at hj⟩
      | false =>
        have h5 : cnd (Nat.beq (Nat.mul n 1) 0) (some []) (cutE s i off (Nat.mul n 1)) = some cs := h1
        rw [h0] at h5
        obtain ⟨h6, vs, h7, h8⟩ := h.cut hp h5
        exact ⟨vs, h7, by rw [h6]; exact Nat.mul_one n, h8⟩
    obtain ⟨vs, h5, h6, h7⟩ := hcells
    rw [h4] at h5
    have h8 := reals_u8 h3 h5
    subst h8
    have hlen : ((bts l).map fun b => (b.toNat : Int)).length = n := by
      rw [List.length_map, bts_len, ← h6, h4, List.length_map]
    have := Lib.run_loadBytesX (P := P) (w := w) ((bts l).map fun b => (b.toNat : Int)) (p.adr off) .empty fun j x hj => h7 j _ (by
      have e0 : (u8 (bts l))[j]? = ((bts l)[j]?).map fun b => Value.int .u8 b.toNat := by simp [u8]
      rw [List.getElem?_map] at hj
      rw [e0]
      cases hb : (bts l)[j]? with
      | none => rw [hb] at hj; cases hj
      | some b => rw [hb] at hj; cases hj; rfl)
    rw [hlen] at this
    show (Extern.Bytes.loadBytes (p.adr off) n .empty).run P w = _
    rw [this]
    congr 1
    simp only [ba, Lib.bytesOf, List.map_map]
    congr 1
    apply Array.ext'
    have e0 : ((fun n : Int => n.toNat.toUInt8) ∘ fun b : UInt8 => (b.toNat : Int)) = id := by funext b; simp
    simp [e0]
  · cases hv
noncomputable def xIxb (a : List EV) (s : St) : Option (EV × St) := match a with
  | [v, .int .u8 (.ofNat c)] => cnd (blt c 256) (ob2 (convB s v) fun r => match r with | .str l => some (.int .i64 (ixb c l 0), s) | _ => none) none
  | _ => none
theorem xIxb_ok (pg : Pg) (args : List EV) (s : St) (v : EV) (s' : St) (h : xIxb args s = some (v, s')) : CallAt e R pg 470 args s v s' := by
  unfold xIxb at h
  split at h
  · rename_i u c
    obtain ⟨h1, h2⟩ := cnd_some h
    obtain ⟨r, h3, h4⟩ := ob2_ok h2
    rw [blt_eq, decide_eq_true_eq] at h1
    cases r <;> (first | (cases h4; done) | skip)
    rename_i l
    cases h4
    intro L xs w hg hx hw
    cases hx with
    | cons h5 h6 =>
      cases h6 with
      | cons h7 h8 =>
        cases h8
        rename_i x y
        rw [h7.int_inv]
        obtain ⟨hb, hrun⟩ := bytes_ok hw h3 h5
        refine run_ext Tryz.func470 (by kernel_rfl) (by kernel_rfl) (by rfl) (by rfl) hw (.int .i64 (ixb c l 0)) ?_
        have := Lib.run_indexByteString (P := P) (ba (bts l)) (c : Int) w
        rw [toB h1] at this
        rw [ixb_ix h1 hb]
        have e1 : (Extern.BytealgIndexByte.indexByte #[x, .int .u8 (c : Int)]).run P w = (Extern.BytealgIndexByte.indexByte #[.string (ba (bts l)), .int .u8 (c : Int)]).run P w := by
          change Sem.run P (do
            let b ← Extern.Bytes.bytesOf x
            let c' ← Extern.Bytes.asByte (.int .u8 (c : Int))
            match (List.range b.size).find? fun i => b[i]! == c' with
            | some i => pure (goInt i)
            | none => pure (goInt (-1))) w = Sem.run P (do
            let b ← Extern.Bytes.bytesOf (.string (ba (bts l)))
            let c' ← Extern.Bytes.asByte (.int .u8 (c : Int))
            match (List.range b.size).find? fun i => b[i]! == c' with
            | some i => pure (goInt i)
            | none => pure (goInt (-1))) w
          rw [Sem.run_bind, hrun, Sem.run_bind]
          rfl
        exact e1.trans this
  · cases h
end Go.Proofs.YtiabhghlhnnnjaaGreatDoor.Ev
