/-
  TEXT (layer 2): Trim and List of the program and of the document's answer; Join.
-/
import Derived.Test.YtfofnagocedlgaaGreatDoorTy
import Derived.Test.YtfofnagocedlgaaGreatDoorShelf
import Derived.Shelf.Strings.SlTrimAscii
set_option maxRecDepth 100000
set_option linter.unusedVariables false
set_option linter.unusedSectionVars false
set_option linter.unusedSimpArgs false
set_option maxHeartbeats 0
namespace Go.Proofs.YtfofnagocedlgaaGreatDoor.Tx
open Go Sh Sl
open Go.RowKit
attribute [local irreducible] condK ArK NilK OpK FnK StK joinK loopK DrawK andK PuK NxK EnK vS uS bS callS invokeS
section
variable {e : Env} {ctx ctx' rest : List HProp}
theorem Sat.below {w w' : World} (h : Sat e (sepL ctx) w) (hb : Below w.heap.size w w') : Sat e (sepL ctx) w' :=
  ⟨hb.os.trans h.os, hb.tape.trans h.tape, hb.output.trans h.output, sepL_mono (fun i o hi => by
    have hlt : i < w.heap.size := (Array.getElem?_eq_some_iff.1 hi).1
    show w'.heap[i]? = some o
    rw [hb.block i hlt]; exact hi) h.heap⟩
theorem Ent.libS {f : Nat} {args : Array Value} {s : ByteArray} {K : ByteArray → WP} (hc : ∀ w, Sat e (sepL ctx) w → Calls P f args w fun e' w' => e' = .returned (.string s) ∧ Below w.heap.size w w') (h : Ent e ctx (K s)) : Ent e ctx (FnK P (.one .str) f args K) := fun w hw => by
  unfold FnK CallK
  refine Calls.mono (hc w hw) fun e' w' hh => ?_
  exact ⟨_, hh.1, s, rfl, h w' (Sat.below hw hh.2)⟩
theorem info_trim : (P.info? (Tryz.lays160_ren.t 116)).map (fun i => (i.zero, i.size)) = some (some (.agg (Array.replicate 256 (.bool false))), 256) := by kernel_rfl
theorem trim_spec {K : ByteArray → WP} {l : Bs} (hl : l.length ≤ 1099511627776) (h : Ent e rest (K (ba (trim l)))) : Ent e rest (text_Trim (ba l) K) := by
  (refine Ent.fn text_Trim_ok ?_; unfold text_Trim_sh)
  refine Ent.libS (s := ba (trim l)) (fun w _ => ?_) h
  have hsz : (ba l).size = l.length := by simp [ba, ByteArray.size]
  have := Any.strings_Trim_laid Tryz.lays160 info_trim (ba l) ⟨#[32, 9]⟩ w (by rw [hsz]; omega) (by decide) (ascii_of_all (by decide))
  exact this
theorem st_slSB {l : Bs} {k k' : IntKind} {a b : Int} (h0 : 0 ≤ a) (h1 : a ≤ b) (h2 : b ≤ l.length) :
    Pu (vS (Instr.sliceAt 9 (.string (ba l)) (some (.int k a)) (some (.int k' b)) none)) (.string (ba ((l.take b.toNat).drop a.toNat))) := Still.of_run fun w => by
  have hsz : (ba l).size = l.length := by simp [ba, ByteArray.size]
  rw [run_sliceAt_string w _ _ _ _ _ (dd_str rfl), run_slice_string w _ _ k k' a b (dd_str rfl) h0 h1 (by rw [hsz]; exact h2), ByteArray.extract_mk]
  congr 3
  rw [List.drop_take]
theorem ref_trim_spec {K : ByteArray → WP} {l : Bs} (hl : l.length ≤ 1099511627776) (h : Ent e rest (K (ba (trim l)))) : Ent e rest (ref02_Trim (ba l) K) := by
  (refine Ent.fn ref02_Trim_ok ?_; unfold ref02_Trim_sh)
  refine Ent.wlenB ?_
  have isT : ∀ {c : UInt8}, c.toNat = 32 ∨ c.toNat = 9 → isB c = true := fun {c} h => by rw [isB_nat]; rcases h with h | h <;> simp [h]
  have isF : ∀ {c : UInt8}, c.toNat ≠ 32 → c.toNat ≠ 9 → isB c = false := fun {c} h1 h2 => by rw [isB_nat]; simp [h1, h2]
  -- the right side
  have right : ∀ k : Nat, k ≤ l.length → (∀ c ∈ l.take k, isB c = true) → (∀ c, l[k]? = some c → isB c = false) → Ent e rest (loopK [(4, (.int .i64))] (fun (j3 : Int → WP) => j3 (l.length : Int)) (fun (j4 : Int → WP) (to : Int) =>
     condK (decide ((k : Int) < to))
     (ArK .i64 (to - 1) fun t30 =>
     oI .u8 (vS (Instr.index 9 (.string (ba l)) (.int .i64 t30))) fun t31 =>
     condK (t31 == 32)
     (ArK .i64 (to - 1) fun t42 =>
     j4 t42)
     (ArK .i64 (to - 1) fun t36 =>
     oI .u8 (vS (Instr.index 9 (.string (ba l)) (.int .i64 t36))) fun t37 =>
     condK (t37 == 9)
     (ArK .i64 (to - 1) fun t42_1 =>
     j4 t42_1)
     (oS (vS (Instr.sliceAt 9 (.string (ba l)) (some (.int .i64 (k : Int))) (some (.int .i64 to)) none)) fun t46 =>
     K t46)))
     (oS (vS (Instr.sliceAt 9 (.string (ba l)) (some (.int .i64 (k : Int))) (some (.int .i64 to)) none)) fun t46_1 =>
     K t46_1))) := by
    intro k hk hbef haft
    refine Ent.loop1 (k0 := .int .i64) (fun N v => exs (fun (m : Nat) => sepL [pur (v = (m : Int) ∧ k ≤ m ∧ m ≤ l.length ∧ (∀ c : UInt8, c ∈ l.drop m → isB c = true) ∧ N = m)]) :: rest) l.length ?_ ?_
    · exact Imp.exs l.length (Imp.g1 (Imp.pur ⟨rfl, hk, Nat.le_refl _, by simp, rfl⟩ (Imp.refl _)))
    intro m K' hK v
    refine Ent.exs fun m' => Ent.g1 (Ent.pur fun ⟨f1, f2, f3, f4, f5⟩ => ?_)
    subst f1 f5
    have shut : (∀ c, k < m → l[m - 1]? = some c → isB c = false) → Ent e rest (oS (vS (Instr.sliceAt 9 (.string (ba l)) (some (.int .i64 (k : Int))) (some (.int .i64 (m : Int))) none)) fun t46 => K t46) := fun hlast => by
      refine Ent.opS (st_slSB (by omega) (by omega) (by omega)).still ?_
      rw [Int.toNat_natCast, Int.toNat_natCast]
      have e1 : trim l = (l.take m).drop k := by
        have hsplit : l = l.take k ++ (l.take m).drop k ++ l.drop m := by
          have e2 : l.take k = (l.take m).take k := by rw [List.take_take]; congr 1; omega
          rw [e2, List.take_append_drop, List.take_append_drop]
        have e9 := congrArg trim hsplit
        rw [e9]
        refine trim_mid hbef f4 (fun c r hm => ?_) (fun c r hm => ?_)
        · refine haft c ?_
          have h1 : ((l.take m).drop k)[0]? = some c := by rw [hm]; rfl
          rw [List.getElem?_drop, List.getElem?_take] at h1
          split at h1
          · simpa using h1
          · cases h1
        · have hlen : ((l.take m).drop k).length = r.length + 1 := by rw [hm]; simp
          have hkm : k < m := by simp at hlen; omega
          refine hlast c hkm ?_
          have h1 : ((l.take m).drop k)[r.length]? = some c := by rw [hm]; simp
          have h3 : r.length = m - 1 - k := by simp at hlen; omega
          rw [List.getElem?_drop, List.getElem?_take, h3] at h1
          have h4 : k + (m - 1 - k) = m - 1 := by omega
          rw [h4, if_pos (by omega)] at h1
          exact h1
      rw [← e1]; exact h
    by_cases hkm : k < m
    · obtain ⟨c, hc⟩ : ∃ c, l[m - 1]? = some c := ⟨_, List.getElem?_eq_getElem (by omega)⟩
      have hc' : l[((m : Int) - 1).toNat]? = some c := by rw [show ((m : Int) - 1).toNat = m - 1 by omega]; exact hc
      have next : isB c = true → Ent e rest (K' ((m : Int) - 1)) := fun hb => by
        have e1 : (m : Int) - 1 = ((m - 1 : Nat) : Int) := by omega
        rw [e1]
        refine Ent.imp ?_ (hK (m - 1) (by omega) _)
        refine Imp.exs (m - 1) (Imp.g1 (Imp.pur ⟨rfl, by omega, by omega, fun d hd => ?_, rfl⟩ (Imp.refl _)))
        have e2 : l.drop (m - 1) = c :: l.drop (m - 1 + 1) := by
          have hg := List.getElem?_eq_getElem (l := l) (i := m - 1) (by omega)
          rw [hc] at hg
          rw [Option.some.inj hg, List.getElem_cons_drop]
        rw [Nat.sub_add_cancel (by omega)] at e2
        rw [e2] at hd
        rcases List.mem_cons.1 hd with rfl | hd
        · exact hb
        · exact f4 d hd
      refine Ent.wT ?_ (decide_eq_true (by omega))
      (refine Ent.go ?_)
      refine ixB (t := 0) (by omega) hc' ?_
      refine Ent.condE (fun h32 => ?_) fun h32 => ?_
      · (refine Ent.go ?_)
        exact next (isT (.inl (by omega)))
      · (refine Ent.go ?_)
        refine ixB (t := 0) (by omega) hc' ?_
        refine Ent.condE (fun h9 => ?_) fun h9 => ?_
        · (refine Ent.go ?_)
          exact next (isT (.inr (by omega)))
        · exact shut fun d hd hdc => by
            rw [hc] at hdc
            cases hdc
            exact isF (by omega) (by omega)
    · refine Ent.wF ?_ (decide_eq_false (by omega))
      exact shut fun c hc => absurd hc hkm
  refine Ent.loop1 (k0 := .int .i64) (fun N v => exs (fun (m : Nat) => sepL [pur (v = (m : Int) ∧ m ≤ l.length ∧ (∀ c ∈ l.take m, isB c = true) ∧ N = l.length - m)]) :: rest) l.length ?_ ?_
  · exact Imp.exs 0 (Imp.g1 (Imp.pur ⟨rfl, by omega, by simp, rfl⟩ (Imp.refl _)))
  intro N K' hK v
  refine Ent.exs fun m => Ent.g1 (Ent.pur fun ⟨f1, f2, f3, f4⟩ => ?_)
  subst f1 f4
  by_cases hm : m < l.length
  · obtain ⟨c, hc⟩ : ∃ c, l[m]? = some c := ⟨_, List.getElem?_eq_getElem hm⟩
    have hc' : l[(m : Int).toNat]? = some c := by rw [Int.toNat_natCast]; exact hc
    have next : isB c = true → Ent e rest (K' ((m : Int) + 1)) := fun hb => by
      have e1 : (m : Int) + 1 = ((m + 1 : Nat) : Int) := by omega
      rw [e1]
      refine Ent.imp ?_ (hK (l.length - (m + 1)) (by omega) _)
      refine Imp.exs (m + 1) (Imp.g1 (Imp.pur ⟨rfl, by omega, fun d hd => ?_, rfl⟩ (Imp.refl _)))
      rw [List.take_add_one, hc] at hd
      rcases List.mem_append.1 hd with hd | hd
      · exact f3 d hd
      · simp at hd; subst hd; exact hb
    refine Ent.wT ?_ (decide_eq_true (by omega))
    refine ixB (t := 0) (by omega) hc' ?_
    refine Ent.condE (fun h32 => ?_) fun h32 => ?_
    · (refine Ent.go ?_)
      exact next (isT (.inl (by omega)))
    · refine ixB (t := 0) (by omega) hc' ?_
      refine Ent.condE (fun h9 => ?_) fun h9 => ?_
      · (refine Ent.go ?_)
        exact next (isT (.inr (by omega)))
      · exact right m f2 f3 fun d hd => by
          rw [hc] at hd
          cases hd
          exact isF (by omega) (by omega)
  · refine Ent.wF ?_ (decide_eq_false (by omega))
    exact right m f2 f3 fun d hd => by
      rw [List.getElem?_eq_none (by omega)] at hd; cases hd
end
end Go.Proofs.YtfofnagocedlgaaGreatDoor.Tx
