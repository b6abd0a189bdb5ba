/-
  BUILDERS, their methods.
-/
import Derived.Test.YtoneapgooihajaaGreatDoorBd
import Derived.Test.YtoneapgooihajaaGreatDoorFZ
import Derived.Laws.Externs
import Derived.Lib.UnsafeStr
set_option maxRecDepth 100000
set_option linter.unusedVariables false
set_option linter.unusedSectionVars false
set_option linter.unusedSimpArgs false
namespace Go.Proofs.YtoneapgooihajaaGreatDoor.Qa
open Go Sh Sl
attribute [local irreducible] condK ArK NilK OpK FnK StK joinK loopK DrawK andK PuK NxK EnK vS uS bS callS invokeS
abbrev ptr (b : Nat) : Value := .pointer (some ⟨b, 0, none⟩)
def Bld (b : Nat) (l : List UInt8) : HProp := exs fun (q : Value × Value) => sepL [pur (q.1 = .pointer none ∨ q.1 = ptr b), ob b (tc [q.1, q.2] 101), RowT q.2 l]
section
variable {e : Env} {ctx rest : List HProp}
theorem Bld.open {b : Nat} {l : List UInt8} {k : WP} (h : ∀ p v, (p = .pointer none ∨ p = ptr b) → Ent e (ob b (tc [p, v] 101) :: RowT v l :: rest) k) : Ent e (Bld b l :: rest) k :=
  Ent.exs fun q => Ent.g3 (Ent.pur fun hp => h _ _ hp)
theorem Bld.shut {b : Nat} {l : List UInt8} {p v : Value} (hp : p = .pointer none ∨ p = ptr b) : Imp (ob b (tc [p, v] 101) :: RowT v l :: rest) (Bld b l :: rest) :=
  Imp.exs (p, v) (Imp.g3 (Imp.pur hp (Imp.refl _)))
theorem bld_new {c : Value → WP} (h : ∀ b, Ent e (Bld b [] :: ctx) (c (ptr b))) : Ent e ctx (oR (vS (Instr.alloc 101 true (.tuple #[]))) c) := by
  refine Ent.allocT fun b => ?_
  refine Ent.imp ?_ (h b)
  refine Imp.trans (b := ob b (tc [.pointer none, .slice none 0 0] 101) :: RowT (.slice none 0 0) [] :: ctx) ?_ (Bld.shut (.inl rfl))
  refine Imp.cons fun x k => ⟨fun _ => none, x, fun _ => .inl rfl, (fun _ _ hh => by cases hh), Hp.le_refl x, .inl ⟨rfl, rfl⟩, k⟩
theorem shape_of {b : Nat} {l : List Value} {T : TypeId} {w : World} (hw : Sat e (sepL (ob b (tc l T) :: ctx)) w) : w.shape? b = some (T, l.length) := by
  have hb : w.heap[b]? = some (tc l T) := Has.ob .hd hw
  simp [World.shape?, hb]
theorem same_ptr {b : Nat} {t x : TypeId} {j : TypeInfo} {X Y : Operand} {ctx : List HProp} (hp : P.underlying t = some (.pointer x)) (hte : P.info? x = some j) : Pu (bS .neq t X Y (ptr b) (ptr b)) (.bool false) :=
  still_bS (guard_ptr _ _ _ _ _ _) fun w => Lib.run_neq_ptr_same w _ hp hte
theorem check_spec {K : Value → WP} {b : Nat} {p v : Value} (hp : p = .pointer none ∨ p = ptr b) (h : Ent e (ob b (tc [ptr b, v] 101) :: rest) (K (.tuple #[]))) : Ent e (ob b (tc [p, v] 101) :: rest) (strings_Builder_copyCheck (ptr b) K) := by
  (refine Ent.fn strings_Builder_copyCheck_ok ?_; unfold strings_Builder_copyCheck_sh)
  refine Ent.nil ?_
  refine Ent.opR (st_field (off := 0) rfl).still ?_
  refine Ent.opR (st_loadR (i := 0) (ob_rds .hd) rfl rfl) ?_
  rcases hp with rfl | rfl
  · refine Ent.opB (by apply Pu.still; exact st_nilP rfl (.inr rfl)) ?_
    refine Ent.wT ?_
    refine Ent.opR (v := ptr b) (fun w hw => run_vS ?_) ?_
    · exact Lib.run_to_unsafe w ⟨b, 0, none⟩ rfl rfl rfl (by decide) (shape_of hw) (Nat.zero_lt_succ _)
    refine Ent.opR (v := ptr b) (fun w hw => ?_) ?_
    · rw [run_callFunc_extern Tryz.func82 (by kernel_rfl) (by kernel_rfl) (by kernel_rfl) (e := Extern.AbiNoEscape.same) (by kernel_rfl)]
      rfl
    refine Ent.opR (v := ptr b) (fun w hw => run_vS ?_) ?_
    · exact Lib.run_from_unsafe w ⟨b, 0, none⟩ rfl rfl rfl (shape_of hw) (by kernel_rfl)
    refine Ent.nil ?_
    refine Ent.opR (st_field (off := 0) rfl).still ?_
    refine Ent.storeT .hd rfl rfl (by simp) ?_
    exact h
  · refine Ent.opB (by apply Pu.still; exact st_nilP rfl (.inr rfl)) ?_
    refine Ent.wF ?_
    refine Ent.nil ?_
    refine Ent.opR (st_field (off := 0) rfl).still ?_
    refine Ent.opR (st_loadR (i := 0) (ob_rds .hd) rfl rfl) ?_
    refine Ent.opB (same_ptr (ctx := []) (x := 101) rfl rfl).still ?_
    refine Ent.wF ?_
    exact h
theorem RowT.slice {v : Value} {l : List UInt8} {k : WP} (h : ∀ a c, v = .slice a l.length c → (a = none → l = []) → Ent e (RowT v l :: ctx) k) : Ent e (RowT v l :: ctx) k := fun w hw => by
  obtain ⟨g1, g2, hd, l1, l2, hA, hr⟩ := hw.heap
  rcases hA with ⟨hv, hl⟩ | ⟨g, cap, r, hv, hg⟩
  · exact h none 0 (by rw [hv, hl]; rfl) (fun _ => hl) w hw
  · exact h _ _ hv (fun hh => by cases hh) w hw
theorem write_spec {K : Int → Value → WP} {b : Nat} {l s : List UInt8} (hl : l.length + s.length ≤ 140737488355328) (h : Ent e (Bld b (l ++ s) :: rest) (K s.length .nilIface)) : Ent e (Bld b l :: rest) (strings_Builder_WriteString (ptr b) (ba s) K) := by
  (refine Ent.fn strings_Builder_WriteString_ok ?_; unfold strings_Builder_WriteString_sh)
  refine Bld.open fun p v hp => ?_
  refine check_spec hp ?_
  refine Ent.nil ?_
  refine Ent.opR (st_field (off := 1) rfl).still ?_
  refine Ent.opR (st_loadR (i := 1) (ob_rds .hd) rfl rfl) ?_
  refine Ent.appS (.tl .hd) hl fun v' => ?_
  refine RowT.slice fun a c hv _ => ?_
  refine Ent.nil ?_
  refine Ent.opR (st_field (off := 1) rfl).still ?_
  refine Ent.storeT (.tl .hd) rfl (by rw [hv]; rfl) (by simp) ?_
  refine Ent.wlenS ?_
  have e1 : ((ba s).size : Int) = (s.length : Int) := by simp [ByteArray.size]
  rw [e1]
  refine Ent.imp ?_ h
  exact Bld.shut (.inr rfl)
theorem len_spec {K : Int → WP} {b : Nat} {l : List UInt8} (h : Ent e (Bld b l :: rest) (K l.length)) : Ent e (Bld b l :: rest) (strings_Builder_Len (ptr b) K) := by
  (refine Ent.fn strings_Builder_Len_ok ?_; unfold strings_Builder_Len_sh)
  refine Bld.open fun p v hp => ?_
  refine Ent.imp (ctx' := RowT v l :: ob b (tc [p, v] 101) :: rest) (by (focus ((repeat ((with_reducible apply Imp.pick); (repeat (first | exact Pick.hd | apply Pick.tl)))); (repeat (first | exact Imp.refl _ | exact Imp.nil _ | apply Imp.drop)); done))) ?_
  refine RowT.slice fun a c hv _ => ?_
  refine Ent.nil ?_
  refine Ent.opR (st_field (off := 1) rfl).still ?_
  refine Ent.opR (st_loadR (i := 1) (ob_rds (.tl .hd)) rfl rfl) ?_
  rw [hv]
  refine Ent.wlen ?_
  refine Ent.imp ?_ h
  rw [← hv]
  exact Imp.trans (b := ob b (tc [p, v] 101) :: RowT v l :: rest) (by (focus ((repeat ((with_reducible apply Imp.pick); (repeat (first | exact Pick.hd | apply Pick.tl)))); (repeat (first | exact Imp.refl _ | exact Imp.nil _ | apply Imp.drop)); done))) (Bld.shut hp)
theorem RowT.open {v : Value} {l : List UInt8} {k : WP} (h : ∀ g cap r, v = .slice (some ⟨g, 0, none⟩) l.length cap → 0 < cap → (u8 l ++ r).length = cap → Ent e (ob g (tc (u8 l ++ r) 5) :: ctx) k) (h0 : v = .slice none 0 0 → l = [] → Ent e ctx k) : Ent e (RowT v l :: ctx) k := fun w hw => by
  obtain ⟨g1, g2, hd, l1, l2, hA, hr⟩ := hw.heap
  rcases hA with ⟨hv, hl⟩ | ⟨g, cap, r, hv, hg, hc, h1⟩
  · exact h0 hv hl w (hw.imp fun _ => sepL_drop)
  · exact h g cap r hv h1 hc w ⟨hw.os, hw.tape, hw.output, g1, g2, hd, l1, l2, hg, hr⟩
theorem un_str {pt_ it ty g : Nat} {l : List UInt8} {r : List Value} {K : ByteArray → WP} (h0 : l ≠ []) (hpe : P.underlying pt_ = some (.pointer 5)) (h63 : l.length ≤ 9223372036854775807) (h : Ent e ctx (K (ba l))) :
    Ent e (ob g (tc (u8 l ++ r) 5) :: ctx) (oS (vS (Builtin.unsafeString_ #[pt_, it] ty #[.pointer (some ⟨g, 0, none⟩), .int .i64 l.length])) K) := Ent.act fun w hw => by
  have hb : w.heap[g]? = some (tc (u8 l ++ r) 5) := Has.ob .hd hw
  have hrun := Lib.run_unsafeString_row (P := P) (w := w) pt_ it ty 5 hpe (by kernel_rfl) g (u8 l ++ r).length (by simp [World.shape?, hb]) l h0 (by simp) h63 (fun j x hj => by
    rw [Addr.add_lit, Nat.zero_add]
    have hjl := (List.getElem?_eq_some_iff.1 hj).1
    obtain ⟨_, hjx⟩ := List.getElem?_eq_some_iff.1 hj
    simp [World.cell?, hb, List.getElem?_append_left, hjl, u8, hjx])
  refine ⟨_, _, .inl (run_vS hrun), ba l, rfl, h _ ?_⟩
  have hn : l.length ≠ 0 := fun hh => h0 (List.eq_nil_of_length_eq_zero hh)
  have hfz : w.freeze ⟨g, 0, none⟩ l.length = { w with heap := w.heap.modify g fun
      | .cells c elem (lo, hi) => .cells c elem (if lo == hi then (0, 0 + l.length) else (min lo 0, max hi (0 + l.length)))
      | o => o } := by
    unfold World.freeze
    rw [if_neg hn]
    congr 2
  have := Sat.turn (A := ob g (tc (u8 l ++ r) 5)) (B := fun _ => True) (w := w) (w' := w.freeze ⟨g, 0, none⟩ l.length) (b := g) (o' := .cells (u8 l ++ r).toArray 5 (0, l.length)) hw (fun _ k => k) (fun _ _ => trivial) (by rw [hfz]) (by rw [hfz]) (by rw [hfz]) (by
    rw [hfz]
    simp [Array.getElem?_modify, hb]) (fun i hi => by
    rw [hfz]
    simp only [Array.getElem?_modify, if_neg (fun hh : g = i => hi hh.symm)])
  exact this.imp fun _ => sepL_drop
/-- what it holds, as text; it is used up -/
theorem string_spec {K : ByteArray → WP} {b : Nat} {l : List UInt8} (h63 : l.length ≤ 9223372036854775807) (h : Ent e rest (K (ba l))) : Ent e (Bld b l :: rest) (strings_Builder_String (ptr b) K) := by
  (refine Ent.fn strings_Builder_String_ok ?_; unfold strings_Builder_String_sh)
  refine Bld.open fun p v hp => ?_
  refine Ent.imp (ctx' := RowT v l :: ob b (tc [p, v] 101) :: rest) (by (focus ((repeat ((with_reducible apply Imp.pick); (repeat (first | exact Pick.hd | apply Pick.tl)))); (repeat (first | exact Imp.refl _ | exact Imp.nil _ | apply Imp.drop)); done))) ?_
  refine RowT.slice fun a c hv hnone => ?_
  refine Ent.draw [ob b (tc [p, v] 101)] (by (focus ((repeat ((with_reducible apply Imp.pick); (repeat (first | exact Pick.hd | apply Pick.tl)))); (repeat (first | exact Imp.refl _ | exact Imp.nil _ | apply Imp.drop)); done))) ?_
  refine Ent.nil ?_
  refine Ent.puR (st_field (off := 1) rfl) ?_
  refine Ent.stR (st_loadR (i := 1) (ob_rds .hd) rfl rfl) ?_
  refine Ent.nil ?_
  refine Ent.puR (st_field (off := 1) rfl) ?_
  refine Ent.stR (st_loadR (i := 1) (ob_rds .hd) rfl rfl) ?_
  have hlen : Pu (vS (Builtin.len_ #[52] 3 #[v])) (.int .i64 l.length) := by rw [hv]; exact st_len rfl
  refine Ent.stI hlen.still ?_
  refine RowT.open (fun g cap r hv2 hc0 hcap => ?_) fun hv2 hl0 => ?_
  · subst hv2
    refine Ent.opR (v := ptr g) (fun w hw => run_vS (Lib.run_unsafeSliceData_row w _ _ _ _ _ (by omega))) ?_
    refine Ent.wand ?_
    by_cases h0 : l = []
    · subst h0
      refine Ent.opS (b := ba []) (fun w hw => run_vS (Lib.run_unsafeString_none w _ _ _ _)) ?_
      refine Ent.wand ?_
      exact h.drop.drop
    · refine un_str h0 rfl h63 ?_
      refine Ent.wand ?_
      exact h.drop
  · subst hv2 hl0
    refine Ent.opR (v := .pointer none) (fun w hw => run_vS (Lib.run_unsafeSliceData_nil w _ _ _ _)) ?_
    refine Ent.wand ?_
    refine Ent.opS (b := ba []) (fun w hw => run_vS (Lib.run_unsafeString_none w _ _ _ _)) ?_
    refine Ent.wand ?_
    exact h.drop
end
end Go.Proofs.YtoneapgooihajaaGreatDoor.Qa
