/-
  READING THROUGH POINTERS INTO WHAT A LAW WAS HANDED ('Rd R'): places of elements, their fields.
-/
import Derived.Test.YtoneapgooihajaaGreatDoorPx
set_option linter.unusedVariables false
set_option linter.unusedSectionVars false
set_option linter.unusedSimpArgs false
set_option maxRecDepth 100000
namespace Go.Proofs.YtoneapgooihajaaGreatDoor.Sl
open Go Sh
section
variable {e : Env} {ctx R R' : List HProp}
theorem Rd.at {a : Option Addr} {X : Type} {f : X → List Value} {xs : List X} {y : X} {sz i : Nat} (h : Rd R a ((xs.map f).flatten)) (hf : ∀ y, (f y).length = sz) (hz : 0 < sz) (hx : xs[i]? = some y) :
    ∃ b o, a = some ⟨b, o, none⟩ ∧ Rds R b (o + i * sz) (f y) := by
  have hl : 0 < ((xs.map f).flatten).length := by
    rw [flat_len f sz hf]
    have := (List.getElem?_eq_some_iff.1 hx).1
    exact Nat.mul_pos (by omega) hz
  obtain ⟨b, o, rfl, hr⟩ := rd_some h hl
  refine ⟨b, o, rfl, ?_⟩
  have := hr.sub (i * sz) sz
  rwa [flat_sub f sz hf hx] at this
theorem Ent.wixH {t x n cp sz by_ i : Nat} {a : Option Addr} {j : IntKind} {X : Type} {f : X → List Value} {xs : List X} {y : X} {c : Value → WP} (hr : Rd R a ((xs.map f).flatten)) (hx : xs[i]? = some y) (h : ∀ b o, Rds R b o (f y) → Ent e ctx (c (.pointer (some ⟨b, o, none⟩)))) (h1 : i < n := by omega) (ht : dd t = some (.sl x) := by exact rfl) (hs : szof x = some (sz, by_) := by exact rfl) (hf : ∀ y, (f y).length = sz := by intro y; exact rfl) (hz : 0 < sz := by decide) : Ent e ctx (oR (vS (Instr.indexAt t (.slice a n cp) (.int j (i : Int)))) c) := by
  obtain ⟨b, o, rfl, hp⟩ := hr.at hf hz hx
  refine Ent.opR (st_ix ht hs (by omega) (by omega)).still ?_
  rw [Int.toNat_natCast]
  exact h _ _ hp
theorem Ent.wixHQ {t x n cp sz by_ i : Nat} {a : Option Addr} {j : IntKind} {X : Type} {f : X → List Value} {xs : List X} {y : X} {c : Value → WP} (hr : Rd R a ((xs.map f).flatten)) (hx : xs[i]? = some y) (h : ∀ b o, Rds R b o (f y) → Ent e ctx (c (.pointer (some ⟨b, o, none⟩)))) (h1 : i < n := by omega) (ht : dd t = some (.sl x) := by exact rfl) (hs : szof x = some (sz, by_) := by exact rfl) (hf : ∀ y, (f y).length = sz := by intro y; exact rfl) (hz : 0 < sz := by decide) : Ent e ctx (qR (vS (Instr.indexAt t (.slice a n cp) (.int j (i : Int)))) c) := by
  obtain ⟨b, o, rfl, hp⟩ := hr.at hf hz hx
  refine Ent.puR (st_ix ht hs (by omega) (by omega)) ?_
  rw [Int.toNat_natCast]
  exact h _ _ hp
theorem Ent.wfRz {t b o i u off : Nat} {l : List Value} {v : Value} {c : Value → WP} (hP : Rds R' b o l) (h : Ent e ctx (c v)) (hi : Imp ctx R' := by (focus (repeat (first | exact Imp.refl _ | exact Imp.nil _ | apply Imp.drop)))) (hf : fld t i = some off := by exact rfl) (hs : sc u = true := by exact rfl) (hv : l[off]? = some v := by exact rfl) : Ent e ctx (fR t (.pointer (some ⟨b, o, none⟩)) i u c) := Ent.opR (st_field hf).still (Ent.opR (st_loadR (i := off) (hP.mono hi) hs hv) h)
theorem Ent.wfIz {t b o i u off : Nat} {l : List Value} {v : Int} {c : Int → WP} {k : IntKind} (hP : Rds R' b o l) (h : Ent e ctx (c v)) (hi : Imp ctx R' := by (focus (repeat (first | exact Imp.refl _ | exact Imp.nil _ | apply Imp.drop)))) (hf : fld t i = some off := by exact rfl) (hs : sc u = true := by exact rfl) (hv : l[off]? = some (.int k v) := by exact rfl) : Ent e ctx (fI t (.pointer (some ⟨b, o, none⟩)) i u k c) := Ent.opR (st_field hf).still (Ent.opI (st_loadR (i := off) (hP.mono hi) hs hv) h)
theorem Ent.wgRz {t b o i u off : Nat} {l : List Value} {v : Value} {c : Value → WP} (hP : Rds R' b o l) (h : Ent e ctx (c v)) (hi : Imp R R' := by (focus (repeat (first | exact Imp.refl _ | exact Imp.nil _ | apply Imp.drop)))) (hf : fld t i = some off := by exact rfl) (hs : sc u = true := by exact rfl) (hv : l[off]? = some v := by exact rfl) : Ent e ctx (gR (Sat e (sepL R)) t (.pointer (some ⟨b, o, none⟩)) i u c) := Ent.puR (st_field hf) (Ent.stR (st_loadR (i := off) (hP.mono hi) hs hv) h)
theorem Ent.wgIz {t b o i u off : Nat} {l : List Value} {v : Int} {c : Int → WP} {k : IntKind} (hP : Rds R' b o l) (h : Ent e ctx (c v)) (hi : Imp R R' := by (focus (repeat (first | exact Imp.refl _ | exact Imp.nil _ | apply Imp.drop)))) (hf : fld t i = some off := by exact rfl) (hs : sc u = true := by exact rfl) (hv : l[off]? = some (.int k v) := by exact rfl) : Ent e ctx (gI (Sat e (sepL R)) t (.pointer (some ⟨b, o, none⟩)) i u k c) := Ent.puR (st_field hf) (Ent.stI (st_loadR (i := off) (hP.mono hi) hs hv) h)
theorem Ent.wjAz {t x n cp sz by_ i u : Nat} {a : Option Addr} {j : IntKind} {X : Type} {f : X → List Value} {xs : List X} {y : X} {c : Value → WP} (hr : Rd R' a ((xs.map f).flatten)) (hx : xs[i]? = some y) (h : Ent e ctx (c (.agg (f y).toArray))) (hi : Imp R R' := by (focus (repeat (first | exact Imp.refl _ | exact Imp.nil _ | apply Imp.drop)))) (h1 : i < n := by omega) (ht : dd t = some (.sl x) := by exact rfl) (hs : szof x = some (sz, by_) := by exact rfl) (hu : ag u = some sz := by exact rfl) (hf : ∀ y, (f y).length = sz := by intro y; exact rfl) (hz : 0 < sz := by decide) : Ent e ctx (jR (Sat e (sepL R)) t (.slice a n cp) j (i : Int) u c) := by
  obtain ⟨b, o, rfl, hp⟩ := hr.at hf hz hx
  refine Ent.puR (st_ix ht hs (by omega) (by omega)) ?_
  rw [Int.toNat_natCast]
  exact Ent.stR (st_loadRA (i := 0) (hp.mono hi) hu (by rw [List.drop_zero]; exact List.take_of_length_le (Nat.le_of_eq (hf y))) (hf y)) h
end
end Go.Proofs.YtoneapgooihajaaGreatDoor.Sl
