/-
  GO's LIBRARY, as far as texts of this layer call it: specified.
-/
import Derived.Test.YtoneapgooihajaaGreatDoorQa
import Derived.Test.YtoneapgooihajaaGreatDoorQb
import Derived.Test.YtoneapgooihajaaGreatDoorShelf
import Derived.Lib.AppendIntMem
set_option maxRecDepth 100000
set_option linter.unusedVariables false
set_option linter.unusedSectionVars false
set_option linter.unusedSimpArgs false
namespace Go.Proofs.YtoneapgooihajaaGreatDoor.Qa
open Go Sh Sl
open Go.RowKit
attribute [local irreducible] condK ArK NilK OpK FnK StK joinK loopK DrawK andK PuK NxK EnK vS uS bS callS invokeS
def ss (l : List Bs) : List Value := l.map fun b => .string (ba b)
section
variable {e : Env} {ctx rest : List HProp}
theorem Sat.below {w w' : World} (h : Sat e (sepL ctx) w) (hb : Below w.heap.size w w') : Sat e (sepL ctx) w' :=
  ⟨hb.os.trans h.os, hb.tape.trans h.tape, hb.output.trans h.output, sepL_mono (fun i o hi => by
    have hlt : i < w.heap.size := (Array.getElem?_eq_some_iff.1 hi).1
    show w'.heap[i]? = some o
    rw [hb.block i hlt]; exact hi) h.heap⟩
theorem Ent.lib {r : RK} {f : Nat} {args : Array Value} {v : Value} {K : r.A} (hc : ∀ w, Sat e (sepL ctx) w → Calls P f args w fun e' w' => e' = .returned v ∧ Below w.heap.size w w') (h : ∀ w, Sat e (sepL ctx) w → tyR r K v w) : Ent e ctx (FnK P r f args K) := fun w hw => by
  unfold FnK CallK
  refine Calls.mono (hc w hw) fun e' w' hh => ?_
  exact ⟨_, hh.1, h w' (Sat.below hw hh.2)⟩
theorem Ent.libS {f : Nat} {args : Array Value} {s : ByteArray} {K : ByteArray → WP} (hc : ∀ w, Sat e (sepL ctx) w → Calls P f args w fun e' w' => e' = .returned (.string s) ∧ Below w.heap.size w w') (h : Ent e ctx (K s)) : Ent e ctx (FnK P (.one .str) f args K) :=
  Ent.lib hc fun w hw => ⟨s, rfl, h w hw⟩
theorem Ent.libB {f : Nat} {args : Array Value} {s : Bool} {K : Bool → WP} (hc : ∀ w, Sat e (sepL ctx) w → Calls P f args w fun e' w' => e' = .returned (.bool s) ∧ Below w.heap.size w w') (h : Ent e ctx (K s)) : Ent e ctx (FnK P (.one .bool) f args K) :=
  Ent.lib hc fun w hw => ⟨s, rfl, h w hw⟩
theorem Ent.libI {f : Nat} {args : Array Value} {k : IntKind} {s : Int} {K : Int → WP} (hc : ∀ w, Sat e (sepL ctx) w → Calls P f args w fun e' w' => e' = .returned (.int k s) ∧ Below w.heap.size w w') (h : Ent e ctx (K s)) : Ent e ctx (FnK P (.one (.int k)) f args K) :=
  Ent.lib hc fun w hw => ⟨s, rfl, h w hw⟩
theorem still_below {f : Nat} {args : Array Value} {v : Value} {w : World} (h : Calls P f args w fun e' w' => e' = .returned v ∧ w' = w) : Calls P f args w fun e' w' => e' = .returned v ∧ Below w.heap.size w w' :=
  h.mono fun _ w' ⟨h1, h2⟩ => ⟨h1, by rw [h2]; exact Below.refl _ _⟩
theorem hasPrefix_spec {K : Bool → WP} {s p : Bs} (h : Ent e rest (K (Lib.hasPrefix s p))) : Ent e rest (strings_HasPrefix (ba s) (ba p) K) :=
  Ent.libB (fun w _ => still_below (Tryz.strings_HasPrefix (ba s) (ba p) w)) h
theorem trimSuffix_spec {K : ByteArray → WP} {s p : Bs} (hs : s.length ≤ 9223372036854775807) (h : Ent e rest (K (ba (Lib.trimSuffix s p)))) : Ent e rest (strings_TrimSuffix (ba s) (ba p) K) :=
  Ent.libS (fun w _ => still_below (Tryz.strings_TrimSuffix (ba s) (ba p) w (by simpa [ByteArray.size] using hs))) h
theorem trimPrefix_spec {K : ByteArray → WP} {s p : Bs} (h : Ent e rest (K (ba (Lib.trimPrefix s p)))) : Ent e rest (strings_TrimPrefix (ba s) (ba p) K) :=
  Ent.libS (fun w _ => still_below (Tryz.strings_TrimPrefix (ba s) (ba p) w)) h
theorem indexByte_spec {K : Int → WP} {s : Bs} {c : UInt8} (h : Ent e rest (K (Lib.indexByte s c))) : Ent e rest (strings_IndexByte (ba s) (c.toNat : Int) K) :=
  Ent.libI (fun w _ => by
    have := Tryz.strings_IndexByte (ba s) (c.toNat : Int) w
    rw [Int.toNat_natCast, show c.toNat.toUInt8 = c by simp] at this
    exact still_below this) h
theorem index_one_spec {K : Int → WP} {s : Bs} {c : UInt8} (h : Ent e rest (K (Lib.indexByte s c))) : Ent e rest (stringslite_Index (ba s) ⟨#[c]⟩ K) :=
  Ent.libI (fun w _ => still_below (Tryz.stringslite_Index_one (ba s) c w)) h
/-- what numbers' texts need of memory -/
def GL (e : Env) (ctx : List HProp) : Prop := ∀ w, Sat e (sepL ctx) w → Lib.TabIs P w "internal/strconv.uint64pow10" .u64 Lib.pow10Tab ∧ (∃ m, w.cell? ⟨0, 0, none⟩ = some (.int .i64 m)) ∧ (∃ tp p, w.var? P "strconv.ErrSyntax" = some #[.iface tp p]) ∧ (∃ tp p, w.var? P "strconv.ErrRange" = some #[.iface tp p])
theorem GL.mono {ctx' : List HProp} (h : GL e ctx) (hi : Imp ctx' ctx) : GL e ctx' := fun w hw => h w (hw.imp hi)
theorem itoa_spec {K : ByteArray → WP} {n : Int} (hn : -9223372036854775808 ≤ n ∧ n ≤ 9223372036854775807) (hG : GL e rest) (h : Ent e rest (K (ba (Lib.itoa n)))) : Ent e rest (strconv_Itoa n K) :=
  Ent.libS (fun w hw => (Tryz.strconv_Itoa n hn.1 hn.2 w (hG w hw).1).mono fun _ w' ⟨h1, k, os, h2⟩ => ⟨h1, by rw [h2]; exact Lib.below_grow _ w (Nat.le_refl _) k os⟩) h
/-- a number's text read: the number, and whether it was none -/
def atoi (s : Bs) : Int × Bool := match Lib.atoiAll s with
  | .ok v => (v, false)
  | Lib.NumEnd.syntax => (0, true)
  | .range => (Lib.atoiSat s, true)
theorem atoi_spec {K : Int → Value → WP} {s : Bs} (hs : s.length ≤ 281474976710656) (hG : GL e rest) (h : ∀ er : Value, (if (atoi s).2 = true then ∃ T p, er = .iface T p else er = .nilIface) → Ent e rest (K (atoi s).1 er)) : Ent e rest (strconv_Atoi (ba s) K) := by
  have hsz : (ba s).size = s.length := by simp [ByteArray.size]
  cases ha : Lib.atoiAll s with
  | ok v =>
    have e1 : atoi s = (v, false) := by unfold atoi; rw [ha]
    rw [e1] at h
    refine Ent.lib (v := .tuple #[.int .i64 v, .nilIface]) (fun w hw => (Tryz.strconv_Atoi_ok (ba s) (by rw [hsz]; omega) v ha w).mono fun _ w' ⟨h1, h2⟩ => ⟨h1, ?_⟩) fun w hw => ⟨v, .nilIface, rfl, h .nilIface (by simp) w hw⟩
    rcases h2 with rfl | ⟨t, rfl⟩
    · exact Below.refl _ _
    · exact ⟨rfl, rfl, rfl, by rw [Lib.bytesWorld_size]; omega, fun j hj => Lib.bytesWorld_at_old w _ t j hj⟩
  | range =>
    have e1 : atoi s = (Lib.atoiSat s, true) := by unfold atoi; rw [ha]
    rw [e1] at h
    intro w hw
    obtain ⟨tp, p, hv⟩ := (hG w hw).2.2.2
    unfold strconv_Atoi FnK CallK
    refine Calls.mono (Tryz.strconv_Atoi_range_var (ba s) (by rw [hsz]; exact hs) ha tp p w hv) fun e' w' ⟨N, h1, _, _, h4⟩ => ?_
    exact ⟨_, h1, _, _, rfl, h _ (by rw [if_pos rfl]; exact ⟨_, _, rfl⟩) w' (Sat.below hw h4)⟩
  | _ =>
    have e1 : atoi s = (0, true) := by unfold atoi; rw [ha]
    rw [e1] at h
    intro w hw
    obtain ⟨tp, p, hv⟩ := (hG w hw).2.2.1
    unfold strconv_Atoi FnK CallK
    refine Calls.mono (Tryz.strconv_Atoi_syntax_var (ba s) (by rw [hsz]; exact hs) ha tp p w hv) fun e' w' ⟨N, h1, _, _, h4⟩ => ?_
    exact ⟨_, h1, 0, _, rfl, h _ (by rw [if_pos rfl]; exact ⟨_, _, rfl⟩) w' (Sat.below hw h4)⟩
/-- the text before the first blank, and what stands behind it -/
def cutB (s : Bs) : Bs × Bs := (s.takeWhile (fun c => c != 32), (s.dropWhile (fun c => c != 32)).drop 1)
theorem ix_blank (s : Bs) : (Lib.indexByte s 32 = -1 ∧ s.takeWhile (fun c => c != 32) = s ∧ s.dropWhile (fun c => c != 32) = []) ∨
    ∃ n, Lib.indexByte s 32 = (n : Nat) ∧ n < s.length ∧ s.takeWhile (fun c => c != 32) = s.take n ∧ s.dropWhile (fun c => c != 32) = s.drop n := by
  induction s with
  | nil => exact .inl ⟨rfl, rfl, rfl⟩
  | cons c s ih =>
    unfold Lib.indexByte
    by_cases hc : c = 32
    · subst hc
      exact .inr ⟨0, by simp, by simp, by simp, by simp⟩
    · have h1 : (c == 32) = false := beq_eq_false_iff_ne.2 hc
      have h2 : (c != 32) = true := bne_iff_ne.2 hc
      rw [h1]
      simp only [Bool.false_eq_true, if_false, List.takeWhile_cons, List.dropWhile_cons, h2, if_true]
      rcases ih with ⟨g1, g2, g3⟩ | ⟨n, g1, g2, g3, g4⟩
      · rw [g1, g2, g3]
        exact .inl ⟨rfl, rfl, rfl⟩
      · rw [g1, g3, g4]
        refine .inr ⟨n + 1, ?_, by simp; omega, rfl, rfl⟩
        have : ((n : Int) == -1) = false := beq_eq_false_iff_ne.2 (by omega)
        rw [this]
        simp
theorem cut_spec {K : ByteArray → ByteArray → Bool → WP} {s : Bs} (hs : s.length ≤ 9223372036854775806) (h : ∀ is_, Ent e rest (K (ba (cutB s).1) (ba (cutB s).2) is_)) : Ent e rest (strings_Cut (ba s) ⟨#[32]⟩ K) := by
  (refine Ent.fn strings_Cut_ok ?_; unfold strings_Cut_sh)
  (refine Ent.fn stringslite_Cut_ok ?_; unfold stringslite_Cut_sh)
  refine index_one_spec ?_
  rcases ix_blank s with ⟨g1, g2, g3⟩ | ⟨n, g1, g2, g3, g4⟩
  · have e1 : cutB s = (s, []) := by unfold cutB; rw [g2, g3]; rfl
    rw [e1] at h
    rw [g1]
    refine Ent.wF ?_
    exact h false
  · have e1 : cutB s = (s.take n, s.drop (n + 1)) := by unfold cutB; rw [g3, g4, List.drop_drop]
    rw [e1] at h
    rw [g1]
    refine Ent.wT ?_ (decide_eq_true (by omega))
    refine Ent.draw [] (Imp.nil _) ?_
    refine Ent.puS (st_slSH rfl (by omega) (by omega)) ?_
    refine Ent.wsI ?_
    rw [show (((⟨#[32]⟩ : ByteArray).size : Nat) : Int) = 1 from rfl]
    refine Ent.war ?_
    refine Ent.puS (st_slSL rfl (by omega) (by omega)) ?_
    rw [Int.toNat_natCast, show ((n : Int) + 1).toNat = n + 1 by omega]
    exact h true
theorem splitB_len (sep : ByteArray) (save : Nat) : ∀ (k : Nat) (s : ByteArray), (Lib.splitB sep save k s).length ≤ k + 1
  | 0, s => by simp [Lib.splitB]
  | k + 1, s => by
    unfold Lib.splitB
    split
    · simp
    · have := splitB_len sep save k (s.extract ((Lib.indexB s sep).toNat + sep.size) s.size)
      simp; omega
/-- a text at whose blanks it is parted -/
structure Parted (S : Bs) (L : List Bs) : Prop where
  eq : Lib.splitB ⟨#[32]⟩ 0 (Lib.countB (ba S) ⟨#[32]⟩) (ba S) = L.map ba
  len : L.length = Lib.countB (ba S) ⟨#[32]⟩ + 1
  small : S.length < 4294967281
theorem split_spec {K : Value → WP} {S : Bs} {L : List Bs} (hL : Parted S L) (hG : GL e rest) (h : ∀ b, Ent e (pt b (ss L) :: rest) (K (.slice (some ⟨b, 0, none⟩) L.length L.length))) : Ent e rest (strings_Split (ba S) ⟨#[32]⟩ K) := fun w hw => by
  obtain ⟨m, hm⟩ := (hG w hw).2.1
  unfold strings_Split FnK CallK
  refine Calls.mono (Tryz.strings_Split (ba S) ⟨#[32]⟩ m w (by have := hL.small; simpa [ByteArray.size] using this) hm (by decide)) fun e' w' ⟨h1, h2⟩ => ?_
  rw [← hL.len] at h1
  refine ⟨_, h1, _, rfl, h w.heap.size w' ?_⟩
  rw [h2, hL.eq]
  have := hw.new (ss L) 9
  simpa [ss, List.map_map, Function.comp_def] using this
/-- the place of a text among texts; -1: it is not there -/
def ixOf (L : List Bs) (x : Bs) : Int := Lib.idxOfS (L.map ba) (ba x)
theorem index_spec {K : Int → WP} {b : Nat} {L : List Bs} {x : Bs} (hl : L.length ≤ 9223372036854775807) (h : Ent e (pt b (ss L) :: rest) (K (ixOf L x))) : Ent e (pt b (ss L) :: rest) (slices_Index_string (.slice (some ⟨b, 0, none⟩) L.length L.length) (ba x) K) := by
  refine Ent.libI (fun w hw => ?_) h
  obtain ⟨T, fr, hb, _⟩ := Has.pt .hd hw
  have := Tryz.slices_Index_string b 0 L.length L.length (L.map ba) (ba x) w (by simp) hl (fun j hj => by
    rw [List.length_map] at hj
    simp [World.cell?, hb, ss, hj, List.getD])
  rw [List.take_of_length_le (by simp)] at this
  exact still_below this
theorem name_spec {K : ByteArray → WP} {S : Bs} {L : List Bs} {at_ : Int} (hL : Parted S L) (hl : L.length ≤ 1000) (hG : GL e rest) (h : Ent e rest (K (ba (if 1 ≤ at_ ∧ at_ < L.length then L.getD at_.toNat [] else [])))) : Ent e rest (shell_name (ba S) at_ K) := by
  (refine Ent.fn shell_name_ok ?_; unfold shell_name_sh)
  refine split_spec hL hG fun b => ?_
  refine Ent.condD (fun h1 => ?_) fun h1 => ?_
  · rw [if_neg (by omega)] at h
    exact h.drop
  refine Ent.wlen ?_
  refine Ent.condD (fun h2 => ?_) fun h2 => ?_
  · rw [if_neg (by omega)] at h
    exact h.drop
  rw [if_pos (by omega)] at h
  obtain ⟨x, hx⟩ : ∃ x, L[at_.toNat]? = some x := ⟨_, List.getElem?_eq_getElem (by omega)⟩
  rw [show L.getD at_.toNat [] = x by simp [List.getD, hx]] at h
  refine Ent.wiSb (v := ba x) ?_ (hv := by simp [ss, hx])
  exact h.drop
theorem ba_app (a b : Bs) : ba a ++ ba b = ba (a ++ b) := by
  apply ByteArray.ext
  simp [ByteArray.data_append]
theorem addB {t : Nat} {X Y : Operand} {a b : Bs} {K : ByteArray → WP} (hl : a.length + b.length ≤ 9223372036854775807) (h : Ent e ctx (K (ba (a ++ b)))) : Ent e ctx (oS (bS .add t X Y (.string (ba a)) (.string (ba b))) K) := by
  refine Ent.opS (st_addS (by simp [ba, ByteArray.size]; omega)).still ?_
  rw [ba_app]; exact h
/-- texts with blanks between -/
def joinB (g : List Bs) : Bs := Lib.join g [32]
theorem line_spec {K : ByteArray → WP} {b c : Nat} {g : List Bs} (hgl : g.length ≤ 1000) (hc : g.length ≤ c) (h0 : 0 < g.length) (hg : (joinB g).length ≤ 140737488355327) (h : Ent e (pt b (ss g) :: rest) (K (ba (joinB g ++ [10])))) :
    Ent e (pt b (ss g) :: rest) (shell_line (.slice (some ⟨b, 0, none⟩) g.length c) K) := by
  (refine Ent.fn shell_line_ok ?_; unfold shell_line_sh)
  refine Ent.libS (s := ba (joinB g)) (fun w hw => ?_) ?_
  · obtain ⟨T, fr, hb, _⟩ := Has.pt .hd hw
    have hlt : b < w.heap.size := (Array.getElem?_eq_some_iff.1 hb).1
    have e1 : (g.map ba).map (·.data.toList) = g := by simp [ba, Function.comp_def]
    have := Tryz.strings_Join b 0 c (g.map ba) ⟨#[32]⟩ w (fun j x hx => by
      have : (ss g)[j]? = some (.string x) := by
        simp only [List.getElem?_map, Option.map_eq_some_iff] at hx
        obtain ⟨y, hy, rfl⟩ := hx
        simp [ss, hy]
      simp [World.cell?, hb, this]) hlt (by simp; omega) (by simpa using hc) (by rw [e1]; show (joinB g).length ≤ _; omega)
    rw [e1, List.length_map] at this
    exact this
  · exact addB (a := joinB g) (b := [10]) (by simp; omega) h
end
end Go.Proofs.YtoneapgooihajaaGreatDoor.Qa
