/-
  THE DOCUMENT's READER (layer 31): letters, blanks, numbers, words, names.
-/
import Derived.Test.YtoneapgooihajaaGreatDoorUa
set_option maxRecDepth 100000
set_option linter.unusedVariables false
set_option linter.unusedSectionVars false
set_option linter.unusedSimpArgs false
set_option maxHeartbeats 0
namespace Go.Proofs.YtoneapgooihajaaGreatDoor.Qa
open Go Sh Sl
open Go.RowKit
attribute [local irreducible] condK ArK NilK OpK FnK StK joinK loopK DrawK andK PuK NxK EnK vS uS bS callS invokeS
def lw (s : Bs) : Bs := s.takeWhile (fun c => c != 32)
def ld (s : Bs) : Bs := s.dropWhile (fun c => c != 32)
theorem lw_ld (s : Bs) : lw s ++ ld s = s := List.takeWhile_append_dropWhile
theorem lw_at {a r : Bs} (h : nb a) : lw (a ++ 32 :: r) = a ∧ ld (a ++ 32 :: r) = 32 :: r := by
  have h1 : ∀ c ∈ a, (c != 32) = true := fun c hc => bne_iff_ne.2 (h c hc)
  unfold lw ld
  rw [List.takeWhile_append_of_pos h1, List.dropWhile_append_of_pos h1]
  simp
theorem lw_all {a : Bs} (h : nb a) : lw a = a ∧ ld a = [] := by
  have h1 : ∀ c ∈ a, (c != 32) = true := fun c hc => bne_iff_ne.2 (h c hc)
  unfold lw ld
  have := List.takeWhile_append_of_pos (l₂ := []) h1
  rw [List.append_nil] at this
  have h2 := List.dropWhile_append_of_pos (l₂ := []) h1
  rw [List.append_nil] at h2
  rw [this, h2]
  simp
theorem lw_stop {s : Bs} {n : Nat} (hn : n ≤ s.length) (h : nb (s.take n)) (hs : n = s.length ∨ s[n]? = some 32) : lw s = s.take n ∧ ld s = s.drop n := by
  rcases hs with hs | hs
  · rw [hs, List.take_length] at h
    rw [hs, List.take_length, List.drop_length]
    exact lw_all h
  · have e1 : s = s.take n ++ 32 :: s.drop (n + 1) := by
      have hlt := (List.getElem?_eq_some_iff.1 hs).1
      have h2 := (List.getElem?_eq_some_iff.1 hs).2
      rw [← h2, List.getElem_cons_drop hlt, List.take_append_drop]
    have e2 : s.drop n = 32 :: s.drop (n + 1) := by
      have hlt := (List.getElem?_eq_some_iff.1 hs).1
      rw [List.drop_eq_getElem_cons hlt, (List.getElem?_eq_some_iff.1 hs).2]
    have := lw_at (r := s.drop (n + 1)) h
    rw [← e1] at this
    rw [e2]
    exact this
theorem lw_len (s : Bs) : (lw s).length ≤ s.length ∧ (ld s).length ≤ s.length := by
  have := congrArg List.length (lw_ld s)
  rw [List.length_append] at this
  omega
/-- a blank taken -/
def blankR (z : Rs) : Rs := match z.1 with
  | [] => ([], true)
  | c :: r => if c = 32 then (r, z.2) else (c :: r, true)
theorem blankR_at (r : Bs) (b : Bool) : blankR (32 :: r, b) = (r, b) := rfl
theorem blankR_ok {z : Rs} (h : (blankR z).2 = false) : z.1 = 32 :: (blankR z).1 ∧ z.2 = false := by
  obtain ⟨s, b⟩ := z
  unfold blankR at h ⊢
  cases s with
  | nil => cases h
  | cons c r =>
    dsimp only at h ⊢
    split at h
    · rename_i hc
      rw [if_pos hc]
      exact ⟨by rw [hc], h⟩
    · cases h
theorem blankR_len (z : Rs) : (blankR z).1.length ≤ z.1.length := by
  unfold blankR
  split
  · simp
  · rename_i c r hz
    split <;> rw [hz] <;> simp
/-- the value of digits -/
def valD (l : Bs) : Nat := l.foldl (fun u c => 10 * u + (c.toNat - 48)) 0
def digs (l : Bs) : Prop := ∀ c ∈ l, 48 ≤ c.toNat ∧ c.toNat ≤ 57
theorem valD_snoc (l : Bs) (c : UInt8) : valD (l ++ [c]) = 10 * valD l + (c.toNat - 48) := by simp [valD]
theorem valD_lt (l : Bs) (h : digs l) : valD l < 10 ^ l.length := by
  have key : ∀ (l : Bs) (u : Nat), digs l → l.foldl (fun u c => 10 * u + (c.toNat - 48)) u < (u + 1) * 10 ^ l.length := by
    intro l
    induction l with
    | nil => intro u _; simp
    | cons c l ih =>
      intro u h
      have h1 := ih (10 * u + (c.toNat - 48)) fun x hx => h x (by simp [hx])
      have h2 := h c (by simp)
      rw [List.foldl_cons, List.length_cons, Nat.pow_succ]
      refine Nat.lt_of_lt_of_le h1 ?_
      have h3 : 10 * u + (c.toNat - 48) + 1 ≤ (u + 1) * 10 := by omega
      calc (10 * u + (c.toNat - 48) + 1) * 10 ^ l.length ≤ (u + 1) * 10 * 10 ^ l.length := Nat.mul_le_mul_right _ h3
        _ = (u + 1) * (10 ^ l.length * 10) := by rw [Nat.mul_assoc, Nat.mul_comm 10]
  have := key l 0 h
  simpa [valD] using this
theorem valD_dec (u : Nat) : valD (Lib.decDigits u) = u := by
  induction u using Nat.strongRecOn with
  | _ u ih =>
    have hd : (dgt u).toNat = 48 + u % 10 := by have := dgt_nat u; omega
    by_cases h : u < 10
    · rw [dec_small h]
      simp only [valD, List.foldl_cons, List.foldl_nil, hd]
      omega
    · rw [dec_big h, valD_snoc, ih (u / 10) (by omega), hd]
      omega
theorem dec_len_lt : ∀ (k u : Nat), 1 ≤ k → u < 10 ^ k → (Lib.decDigits u).length ≤ k
  | 0, _, h, _ => absurd h (by omega)
  | k + 1, u, _, h => by
    by_cases h10 : u < 10
    · rw [dec_small h10]; simp
    · rw [dec_big h10, List.length_append, List.length_singleton]
      have hk : 1 ≤ k := by
        rcases Nat.eq_zero_or_pos k with rfl | hk
        · simp at h; omega
        · exact hk
      rw [Nat.pow_succ] at h
      have := dec_len_lt k (u / 10) hk (by omega)
      omega
theorem pow_ten : (10 : Nat) ^ 19 = 10000000000000000000 := by decide
section
variable {e : Env} {ctx rest R : List HProp}
theorem letters_spec {K : ByteArray → WP} {rb : Nat} {z : Rs} (hs : z.1.length ≤ 268435456) (h : Ent e (pt rb (rdC (ld z.1, z.2)) :: rest) (K (ba (lw z.1)))) : Ent e (pt rb (rdC z) :: rest) (ref31_Reader_letters (ptr rb) K) := by
  have hsz : ((ba z.1).size : Int) = (z.1.length : Int) := by simp [ByteArray.size]
  (refine Ent.fn ref31_Reader_letters_ok ?_; unfold ref31_Reader_letters_sh)
  refine Ent.loop1 (k0 := .int .i64) (fun N (i : Int) => pur (0 ≤ i ∧ i ≤ z.1.length ∧ N = z.1.length - i.toNat ∧ nb (z.1.take i.toNat)) :: pt rb (rdC z) :: rest) z.1.length (Imp.pur ⟨by omega, by omega, by omega, fun c hc => by simp at hc⟩ (Imp.refl _)) fun N j2 hj2 i => ?_
  refine Ent.pur fun ⟨f1, f2, f3, f4⟩ => ?_
  obtain ⟨k, rfl⟩ := Int.eq_ofNat_of_zero_le f1
  rw [Int.toNat_natCast] at f3 f4
  have fin : (k = z.1.length ∨ z.1[k]? = some 32) → Ent e (pt rb (rdC z) :: rest) (nS 123 (ptr rb) 0 9 fun t26 =>
      oS (vS (Instr.sliceAt 9 (.string t26) none (some (.int .i64 (k : Int))) none)) fun t28 =>
      nS 123 (ptr rb) 0 9 fun t33 => oS (vS (Instr.sliceAt 9 (.string t33) (some (.int .i64 (k : Int))) none none)) fun t35 =>
      nW 123 (ptr rb) 0 9 (.string t35) <| K t28) := fun hst => by
    obtain ⟨g1, g2⟩ := lw_stop (by omega) f4 hst
    rw [g1, g2] at h
    refine Ent.wnS ?_
    refine Ent.opS (st_slSH rfl (by omega) (by omega)).still ?_
    refine Ent.wnS ?_
    refine Ent.opS (st_slSL rfl (by omega) (by omega)).still ?_
    refine Ent.wnW ?_
    rw [Int.toNat_natCast]
    exact h
  refine Ent.wnS ?_
  refine Ent.wlenS ?_
  rw [hsz]
  refine Ent.condD (fun hlt => ?_) fun hge => ?_
  · obtain ⟨x, hx⟩ : ∃ x, z.1[k]? = some x := ⟨_, List.getElem?_eq_getElem (by omega)⟩
    refine Ent.wnS ?_
    refine oIx (by omega) (by rw [Int.toNat_natCast]; exact hx) ?_
    refine Ent.cond (fun hc => ?_) fun hc => ?_
    · have hxn : x ≠ 32 := fun hh => by subst hh; simp at hc
      refine Ent.war ?_
      refine (hj2 (N - 1) (by omega) ((k : Int) + 1)).imp (Imp.pur ⟨by omega, by omega, by omega, ?_⟩ (Imp.refl _))
      rw [show ((k : Int) + 1).toNat = k + 1 by omega, take_snoc hx]
      intro c hc
      rcases List.mem_append.1 hc with hc | hc
      · exact f4 c hc
      · rw [List.mem_singleton.1 hc]; exact hxn
    · have hx32 : x = 32 := by
        have h9 : (x.toNat : Int) = 32 := by simpa using hc
        exact UInt8.toNat_inj.1 (by simpa using (by omega : x.toNat = 32))
      exact fin (.inr (by rw [hx, hx32]))
  · exact fin (.inl (by omega))
theorem blank_spec {K : Value → WP} {rb : Nat} {z : Rs} (hs : z.1.length ≤ 268435456) (h : Ent e (pt rb (rdC (blankR z)) :: rest) (K (.tuple #[]))) : Ent e (pt rb (rdC z) :: rest) (ref31_Reader_blank (ptr rb) K) := by
  have hsz : ((ba z.1).size : Int) = (z.1.length : Int) := by simp [ByteArray.size]
  (refine Ent.fn ref31_Reader_blank_ok ?_; unfold ref31_Reader_blank_sh)
  refine Ent.join1 (kd := .bool) (fun v => pur (v = !decide (z.1.head? = some 32)) :: pt rb (rdC z) :: rest) ?_ ?_
  rotate_left
  · intro j1 hj1
    refine Ent.wnS ?_
    refine Ent.wlenS ?_
    rw [hsz]
    refine Ent.condE (fun h0 => ?_) fun h0 => ?_
    · have : z.1 = [] := List.length_eq_zero_iff.1 (by omega)
      refine (hj1 _).imp (Imp.pur ?_ (Imp.refl _))
      rw [this]; rfl
    · cases hz : z.1 with
      | nil => rw [hz] at h0; simp at h0
      | cons c r =>
        refine Ent.wnS ?_
        rw [hz]
        refine oIx (l := c :: r) (c := c) (by omega) (by simp) ?_
        refine (hj1 _).imp (Imp.pur ?_ (Imp.refl _))
        rw [hz, List.head?_cons]
        by_cases hc : c = 32
        · subst hc; rfl
        · rw [decide_eq_false (fun hh => hc (Option.some.inj hh))]
          refine bne_iff_ne.2 fun hh => hc ?_
          exact UInt8.toNat_inj.1 (by simpa using (by omega : c.toNat = 32))
  intro v
  refine Ent.pur fun hv => ?_
  subst hv
  unfold blankR at h
  cases hz : z.1 with
  | nil =>
    rw [hz] at h
    refine Ent.wT ?_ (by simp)
    refine Ent.wnW ?_
    rw [hz]
    exact h
  | cons c r =>
    rw [hz] at h
    dsimp only at h
    rw [List.head?_cons]
    by_cases hc : c = 32
    · rw [if_pos hc] at h
      rw [hc]
      refine Ent.wF ?_ (by simp)
      refine Ent.wnS ?_
      rw [hz]
      refine Ent.opS (st_slSL (l := c :: r) rfl (by omega) (by simp; omega)).still ?_
      refine Ent.wnW ?_
      exact h
    · rw [if_neg hc] at h
      refine Ent.wT ?_ (by simp [hc])
      refine Ent.wnW ?_
      rw [hz]
      exact h
theorem wrap_i64 (x : Int) : IntKind.i64.wrap x = (if 9223372036854775808 ≤ x % 18446744073709551616 then x % 18446744073709551616 - 18446744073709551616 else x % 18446744073709551616) := by
  simp [IntKind.wrap, IntKind.signed, IntKind.bits]
theorem wrap_u64 (x : Int) : IntKind.u64.wrap x = x % 18446744073709551616 := rfl
theorem wrap_I64 (x : Int) : I64 (IntKind.i64.wrap x) := by
  rw [wrap_i64]
  unfold I64
  split <;> omega
/-- the digits of a numeral -/
def dgs (s : Bs) : Bs := if s.head? = some 45 then s.drop 1 else s
theorem dgs_itoa {m : Int} : dgs (Lib.itoa m) = Lib.decDigits m.natAbs ∧ ((Lib.itoa m).head? = some 45 ↔ m < 0) := by
  unfold dgs Lib.itoa
  by_cases h : m < 0
  · rw [if_pos h]; simp [h]
  · rw [if_neg h, show m.toNat = m.natAbs by omega]
    have h1 := dec_mem m.natAbs
    have h2 := dec_ne m.natAbs
    cases hd : Lib.decDigits m.natAbs with
    | nil => exact absurd hd h2
    | cons c r =>
      rw [hd] at h1
      have h3 := h1 c (by simp)
      have h4 : c ≠ 45 := fun hh => by subst hh; simp at h3
      rw [List.head?_cons, if_neg (fun hh => h4 (Option.some.inj hh))]
      exact ⟨rfl, ⟨fun hh => absurd (Option.some.inj hh) h4, fun hh => absurd hh h⟩⟩
theorem refnumber_spec {K : Int → WP} {rb : Nat} {z : Rs} (hs : z.1.length ≤ 268435456)
    (h : ∀ n b, I64 n → (b = false → Lib.itoa n = lw (blankR z).1) → (∀ m, I64 m → Lib.itoa m = lw (blankR z).1 → b = false ∧ n = m) → Ent e (pt rb (rdC (ld (blankR z).1, (blankR z).2 || b)) :: rest) (K n)) :
    Ent e (pt rb (rdC z) :: rest) (ref31_Reader_number (ptr rb) K) := by
  (refine Ent.fn ref31_Reader_number_ok ?_; unfold ref31_Reader_number_sh)
  refine blank_spec hs ?_
  have hzl := blankR_len z
  obtain ⟨y, hy⟩ : ∃ y, y = blankR z := ⟨_, rfl⟩
  rw [← hy] at h hzl ⊢
  refine letters_spec (by omega) ?_
  obtain ⟨s, hsd⟩ : ∃ s, s = lw y.1 := ⟨_, rfl⟩
  rw [← hsd] at h ⊢
  have hsl : s.length ≤ 268435456 := by have := (lw_len y.1).1; rw [hsd]; omega
  have hsz : ((ba s).size : Int) = (s.length : Int) := by simp [ByteArray.size]
  have bad : ∀ n, I64 n → (∀ m, I64 m → Lib.itoa m ≠ s) → Ent e (pt rb (rdC (ld y.1, true)) :: rest) (K n) := fun n hn hno => by
    have := h n true hn (fun hh => by cases hh) (fun m hm he => absurd he (hno m hm))
    rwa [Bool.or_true] at this
  refine Ent.join1 (kd := .str) (fun v => pur (v = ba (dgs s)) :: pt rb (rdC (ld y.1, y.2)) :: rest) ?_ ?_
  rotate_left
  · intro j1 hj1
    refine Ent.wlenS ?_
    rw [hsz]
    unfold dgs at hj1
    refine Ent.condD (fun hl => ?_) fun hl => ?_
    · cases hc : s with
      | nil => rw [hc] at hl; simp at hl
      | cons c r =>
        rw [hc] at hj1
        refine oIx (l := c :: r) (c := c) (by omega) (by simp) ?_
        refine Ent.condE (fun h45 => ?_) fun h45 => ?_
        · have : c = 45 := UInt8.toNat_inj.1 (by simpa using (by omega : c.toNat = 45))
          refine Ent.opS (st_slSL (l := c :: r) rfl (by omega) (by simp; omega)).still ?_
          refine (hj1 _).imp (Imp.pur ?_ (Imp.refl _))
          rw [this]; rfl
        · refine (hj1 _).imp (Imp.pur ?_ (Imp.refl _))
          rw [List.head?_cons, if_neg fun hh => h45 (by rw [Option.some.inj hh]; rfl)]
    · have : s = [] := List.length_eq_zero_iff.1 (by omega)
      refine (hj1 _).imp (Imp.pur ?_ (Imp.refl _))
      rw [this]; rfl
  intro v
  refine Ent.pur fun hv => ?_
  subst hv
  have hdl : (dgs s).length ≤ s.length := by
    unfold dgs
    split
    · rw [List.length_drop]; omega
    · omega
  have hdz : ((ba (dgs s)).size : Int) = ((dgs s).length : Int) := by simp [ByteArray.size]
  have own : ∀ m, I64 m → Lib.itoa m = s → dgs s = Lib.decDigits m.natAbs ∧ (dgs s).length ≤ 19 ∧ 1 ≤ (dgs s).length := fun m hm he => by
    have h1 := (dgs_itoa (m := m)).1
    rw [he] at h1
    have h2 := dec_len_lt 19 m.natAbs (by omega) (by rw [pow_ten]; have := hm.1; have := hm.2; omega)
    rw [h1]
    exact ⟨rfl, h2, dec_len _⟩
  refine Ent.join1 (kd := .bool) (fun v => pur (v = (decide ((dgs s).length = 0) || decide (19 < (dgs s).length))) :: pt rb (rdC (ld y.1, y.2)) :: rest) ?_ ?_
  rotate_left
  · intro j2 hj2
    refine Ent.wlenS ?_
    rw [hdz]
    refine Ent.condE (fun h0 => ?_) fun h0 => ?_
    · refine (hj2 _).imp (Imp.pur ?_ (Imp.refl _))
      rw [decide_eq_true (by omega)]; rfl
    · refine Ent.wlenS ?_
      rw [hdz]
      refine (hj2 _).imp (Imp.pur ?_ (Imp.refl _))
      rw [decide_eq_false (p := (dgs s).length = 0) (by omega), Bool.false_or]
      exact decide_eq_decide.2 (by omega)
  intro v
  refine Ent.pur fun hv => ?_
  subst hv
  by_cases hbad : (dgs s).length = 0 ∨ 19 < (dgs s).length
  · refine Ent.wT ?_ (by simpa using hbad)
    refine Ent.wnW ?_
    exact bad 0 ⟨by omega, by omega⟩ fun m hm he => by have := own m hm he; omega
  refine Ent.wF ?_ (by simpa using hbad)
  have hd19 : (dgs s).length ≤ 19 := by omega
  refine Ent.loop2 (k0 := .int .u64) (k1 := .int .i64) (fun N (u : Int) (i : Int) => pur (0 ≤ i ∧ i ≤ (dgs s).length ∧ N = (dgs s).length - i.toNat ∧ digs ((dgs s).take i.toNat) ∧ u = (valD ((dgs s).take i.toNat) : Int)) :: pt rb (rdC (ld y.1, y.2)) :: rest) (dgs s).length
    (Imp.pur ⟨by omega, by omega, by omega, fun c hc => by simp at hc, rfl⟩ (Imp.refl _)) fun N j4 hj4 u i => ?_
  refine Ent.pur fun ⟨f1, f2, f3, f4, f5⟩ => ?_
  obtain ⟨k, rfl⟩ := Int.eq_ofNat_of_zero_le f1
  rw [Int.toNat_natCast] at f3 f4 f5
  subst f5
  have hvl := valD_lt _ f4
  have hpl : 10 ^ ((dgs s).take k).length ≤ 10 ^ 19 := Nat.pow_le_pow_right (by omega) (by rw [List.length_take]; omega)
  rw [pow_ten] at hpl
  refine Ent.wlenS ?_
  rw [hdz]
  refine Ent.condD (fun hlt => ?_) fun hge => ?_
  · obtain ⟨x, hx⟩ : ∃ x, (dgs s)[k]? = some x := ⟨_, List.getElem?_eq_getElem (by omega)⟩
    have hx' : (dgs s)[(k : Int).toNat]? = some x := hx
    have hnd : ¬ (48 ≤ x.toNat ∧ x.toNat ≤ 57) → ∀ m, I64 m → Lib.itoa m ≠ s := fun hx48 m hm he => by
      have h1 := (own m hm he).1
      have h2 := dec_mem m.natAbs x (by rw [← h1]; exact List.mem_of_getElem? hx)
      exact hx48 h2
    refine Ent.join1 (kd := .bool) (fun v => pur (v = !decide (48 ≤ x.toNat ∧ x.toNat ≤ 57)) :: pt rb (rdC (ld y.1, y.2)) :: rest) ?_ ?_
    rotate_left
    · intro j5 hj5
      refine oIx (by omega) hx' ?_
      refine Ent.condD (fun h48 => ?_) fun h48 => ?_
      · refine (hj5 _).imp (Imp.pur ?_ (Imp.refl _))
        rw [decide_eq_false (by omega)]; rfl
      · refine oIx (by omega) hx' ?_
        refine (hj5 _).imp (Imp.pur ?_ (Imp.refl _))
        rw [← decide_not]
        exact decide_eq_decide.2 (by omega)
    intro v
    refine Ent.pur fun hv => ?_
    subst hv
    by_cases hdx : 48 ≤ x.toNat ∧ x.toNat ≤ 57
    · refine Ent.wF ?_ (by rw [decide_eq_true hdx]; rfl)
      have hk1 : digs ((dgs s).take (k + 1)) := fun c hc => by
        rw [take_snoc hx] at hc
        rcases List.mem_append.1 hc with hc | hc
        · exact f4 c hc
        · rw [List.mem_singleton.1 hc]; exact hdx
      have hvl1 := valD_lt _ hk1
      have hpl1 : 10 ^ ((dgs s).take (k + 1)).length ≤ 10 ^ 19 := Nat.pow_le_pow_right (by omega) (by rw [List.length_take]; omega)
      rw [pow_ten] at hpl1
      have hsn : valD ((dgs s).take (k + 1)) = 10 * valD ((dgs s).take k) + (x.toNat - 48) := by rw [take_snoc hx, valD_snoc]
      refine Ent.war ?_ (in_u64 (by omega) (by omega))
      refine oIx (by omega) hx' ?_
      refine Ent.war ?_ (in_u8 (by omega) (by omega))
      refine Ent.opI (st_conv rfl rfl (in_u64 (by omega) (by omega))).still ?_
      refine Ent.war ?_ (in_u64 (by omega) (by omega))
      refine Ent.war ?_
      refine (hj4 (N - 1) (by omega) _ ((k : Int) + 1)).imp (Imp.pur ⟨by omega, by omega, by omega, ?_, ?_⟩ (Imp.refl _))
      · rw [show ((k : Int) + 1).toNat = k + 1 by omega]; exact hk1
      · rw [show ((k : Int) + 1).toNat = k + 1 by omega, hsn]
        push_cast
        omega
    · refine Ent.wT ?_ (by rw [decide_eq_false hdx]; rfl)
      refine Ent.wnW ?_
      exact bad 0 ⟨by omega, by omega⟩ (hnd hdx)
  · obtain rfl : k = (dgs s).length := by omega
    rw [List.take_length] at hvl hpl f4 ⊢
    have hvb : valD (dgs s) < 10000000000000000000 := by omega
    obtain ⟨vn, hvn⟩ : ∃ vn : Int, vn = if (dgs s).length < s.length then IntKind.i64.wrap (IntKind.u64.wrap (0 - (valD (dgs s) : Int))) else IntKind.i64.wrap (valD (dgs s) : Int) := ⟨_, rfl⟩
    refine Ent.opI (st_convw rfl rfl).still ?_
    refine Ent.join1 (kd := .int .i64) (fun v => pur (v = vn) :: pt rb (rdC (ld y.1, y.2)) :: rest) ?_ ?_
    rotate_left
    · intro j6 hj6
      refine Ent.wlenS ?_
      refine Ent.wlenS ?_
      rw [hdz, hsz]
      refine Ent.condD (fun hneg => ?_) fun hpos => ?_
      · rw [if_pos (by omega)] at hvn
        refine Ent.arw ?_
        refine Ent.opI (st_convw rfl rfl).still ?_
        exact (hj6 _).imp (Imp.pur hvn.symm (Imp.refl _))
      · rw [if_neg (by omega)] at hvn
        exact (hj6 _).imp (Imp.pur hvn.symm (Imp.refl _))
    intro (v : Int)
    refine Ent.pur fun hv => ?_
    subst hv
    have hvI : I64 v := by
      rw [hvn]
      split <;> exact wrap_I64 _
    have hall : ∀ m, I64 m → Lib.itoa m = s → v = m := fun m hm he => by
      have h1 := (own m hm he).1
      have h2 := (dgs_itoa (m := m)).2
      rw [he] at h2
      have h3 : valD (dgs s) = m.natAbs := by rw [h1, valD_dec]
      have hmb := hm
      unfold I64 at hmb
      rw [hvn, h3]
      by_cases hneg : m < 0
      · have h5 := h2.2 hneg
        have h6 : (dgs s).length < s.length := by
          unfold dgs
          rw [if_pos h5]
          cases hc : s with
          | nil => rw [hc] at h5; cases h5
          | cons c r => simp
        rw [if_pos h6, wrap_u64, wrap_i64]
        split <;> omega
      · have h5 : ¬ s.head? = some 45 := fun hh => hneg (h2.1 hh)
        have h6 : ¬ (dgs s).length < s.length := by
          unfold dgs
          rw [if_neg h5]; omega
        rw [if_neg h6, wrap_i64]
        split <;> omega
    refine refnum_spec hvI ?_
    refine Ent.opB (st_neS).still ?_
    rw [ba_eqb]
    refine Ent.cond (fun hc => ?_) fun hc => ?_
    · have hne : Lib.itoa v ≠ s := by simpa using hc
      refine Ent.wnW ?_
      exact bad v hvI fun m hm he => hne (by rw [hall m hm he]; exact he)
    · have heq : Lib.itoa v = s := by simpa using hc
      have := h v false hvI (fun _ => heq) fun m hm he => ⟨rfl, hall m hm he⟩
      rwa [Bool.or_false] at this
/-- a word taken -/
noncomputable def refword (z : Rs) : Bs × Rs := match uq (blankR z).1 with
  | some (b, r) => (b, r, (blankR z).2)
  | none => ([], [], true)
theorem refword_spec {K : Value → WP} {rb : Nat} {z : Rs} (hs : z.1.length ≤ 268435456) (h : ∀ a c, Ent e (pt rb (rdC (refword z).2) :: SlO a (refword z).1.length c 1 (u8 (refword z).1) :: rest) (K (.slice a (refword z).1.length c))) :
    Ent e (pt rb (rdC z) :: rest) (ref31_Reader_word (ptr rb) K) := by
  (refine Ent.fn ref31_Reader_word_ok ?_; unfold ref31_Reader_word_sh)
  refine blank_spec hs ?_
  have hzl := blankR_len z
  unfold refword at h
  obtain ⟨y, hy⟩ : ∃ y, y = blankR z := ⟨_, rfl⟩
  rw [← hy] at h hzl ⊢
  refine Ent.wnS ?_
  refine ref_unquote_spec (s := y.1) (by omega) (fun b r a c hq => ?_) fun hno => ?_
  · rw [uq_some.2 hq] at h
    dsimp only at h
    refine Ent.wF ?_
    refine Ent.imp (ctx' := pt rb (rdC y) :: SlO a b.length c 1 (u8 b) :: rest) (by (focus ((repeat ((with_reducible apply Imp.pick); (repeat (first | exact Pick.hd | apply Pick.tl)))); (repeat (first | exact Imp.refl _ | exact Imp.nil _ | apply Imp.drop)); done))) ?_
    refine Ent.wnW ?_
    exact h a c
  · rw [uq_none.2 hno] at h
    dsimp only at h
    have h2 := (h none 0).imp (Imp.trans (b := SlO none 0 0 1 [] :: pt rb (rdC ([], true)) :: rest) (Imp.slN (sz := 1) (Imp.refl _)) (by show Imp _ (_ :: SlO none 0 0 1 [] :: rest); (focus ((repeat ((with_reducible apply Imp.pick); (repeat (first | exact Pick.hd | apply Pick.tl)))); (repeat (first | exact Imp.refl _ | exact Imp.nil _ | apply Imp.drop)); done))))
    refine Ent.wT ?_
    refine Ent.wnW ?_
    refine Ent.wnW ?_
    exact h2
theorem name_inj {k m : Int} (h1 : 1 ≤ k ∧ k ≤ 8) (h2 : 1 ≤ m ∧ m ≤ 8) (h : nameAt kindsL k = nameAt kindsL m) : k = m := by
  have := name_ix h1
  rw [h, name_ix h2] at this
  exact this.symm
theorem name_dom {k : Int} (h : nameAt kindsL k ≠ []) : 1 ≤ k ∧ k ≤ 8 := by
  unfold nameAt at h
  split at h
  · rename_i h1
    have : kindsL.length = 9 := rfl
    omega
  · exact absurd rfl h
theorem refkind_spec {K : Int → WP} {rb : Nat} {z : Rs} (hs : z.1.length ≤ 268435456)
    (h : ∀ k b, (b = false → (1 ≤ k ∧ k ≤ 8) ∧ nameAt kindsL k = lw z.1) → (∀ m, 1 ≤ m ∧ m ≤ 8 → nameAt kindsL m = lw z.1 → b = false ∧ k = m) → Ent e (pt rb (rdC (ld z.1, z.2 || b)) :: rest) (K k)) :
    Ent e (pt rb (rdC z) :: rest) (ref31_Reader_kind (ptr rb) K) := by
  (refine Ent.fn ref31_Reader_kind_ok ?_; unfold ref31_Reader_kind_sh)
  refine letters_spec hs ?_
  refine Ent.loop1 (k0 := .int .i64) (fun N (i : Int) => pur (1 ≤ i ∧ i ≤ 9 ∧ N = (9 - i).toNat ∧ ∀ m : Int, 1 ≤ m → m < i → nameAt kindsL m ≠ lw z.1) :: pt rb (rdC (ld z.1, z.2)) :: rest) 8 (Imp.pur ⟨by omega, by omega, by decide, fun m h1 h2 => absurd h2 (by omega)⟩ (Imp.refl _)) fun N j2 hj2 i => ?_
  refine Ent.pur fun ⟨f1, f2, f3, f4⟩ => ?_
  refine Ent.condD (fun hle => ?_) fun hgt => ?_
  · refine kind_spec ?_
    refine Ent.opB (st_eqS).still ?_
    rw [ba_eqb]
    refine Ent.condD (fun he => ?_) fun hne => ?_
    · have := h i false (fun _ => ⟨⟨f1, hle⟩, he⟩) fun m hm hm2 => ⟨rfl, name_inj ⟨f1, hle⟩ hm (by rw [he, hm2])⟩
      rwa [Bool.or_false] at this
    · refine Ent.war ?_
      refine (hj2 (N - 1) (by omega) (i + 1)).imp (Imp.pur ⟨by omega, by omega, by omega, fun m h1 h2 => ?_⟩ (Imp.refl _))
      rcases Int.lt_or_le m i with g | g
      · exact f4 m h1 g
      · obtain rfl : m = i := by omega
        exact hne
  · have hno : ∀ m : Int, 1 ≤ m ∧ m ≤ 8 → nameAt kindsL m ≠ lw z.1 := fun m hm => f4 m hm.1 (by omega)
    refine Ent.wnW ?_
    have := h 0 true (fun hh => by cases hh) fun m hm hm2 => absurd hm2 (hno m hm)
    rwa [Bool.or_true] at this
end
end Go.Proofs.YtoneapgooihajaaGreatDoor.Qa
