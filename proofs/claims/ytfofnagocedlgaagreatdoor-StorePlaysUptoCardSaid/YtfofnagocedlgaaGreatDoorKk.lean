/- The texts Px Si2 Sr Sr2, laid together. -/
import Derived.Test.YtfofnagocedlgaaGreatDoorKe
import Derived.Test.YtfofnagocedlgaaGreatDoorKi
import Derived.Test.YtfofnagocedlgaaGreatDoorKj
section
/-
  READING THROUGH POINTERS INTO WHAT LIES STILL (printed by px.py).
-/
set_option maxRecDepth 100000
set_option linter.unusedVariables false
set_option linter.unusedSectionVars false
set_option linter.unusedSimpArgs false
namespace Go.Proofs.YtfofnagocedlgaaGreatDoor.Sl
open Go Sh
/-- cells that M holds at a place -/
def PM (M : Hp) (b o : Nat) (l : List Value) : Prop := ∃ T fr, ∃ c : Array Value, M b = some (.cells c T fr) ∧ ∀ j v, l[j]? = some v → c[o + j]? = some v
section
variable {e : Env} {ctx ctx' R : List HProp} {M M' : Hp}
theorem PM.mono {b o : Nat} {l : List Value} (h : PM M b o l) (hl : Hp.le M M') : PM M' b o l := by
  obtain ⟨T, fr, c, h1, h2⟩ := h
  exact ⟨T, fr, c, hl _ _ h1, h2⟩
theorem PM.rds {b o : Nat} {l : List Value} (h : PM M b o l) (hM : Has ctx (Sl.ro M)) : Rds ctx b o l := fun x k => by
  obtain ⟨T, fr, c, h1, h2⟩ := h
  obtain ⟨r, hr⟩ := hM.pick
  obtain ⟨g1, g2, _, l1, _, a', _⟩ := sepL_perm hr.perm _ k
  exact ⟨T, fr, c, l1 _ _ (a' _ _ h1), h2⟩
theorem PM.sub {b o : Nat} {l l' : List Value} {i : Nat} (h : PM M b o l) (hs : ∀ j v, l'[j]? = some v → l[i + j]? = some v) : PM M b (o + i) l' := by
  obtain ⟨T, fr, c, h1, h2⟩ := h
  exact ⟨T, fr, c, h1, fun j v hj => by rw [Nat.add_assoc]; exact h2 _ _ (hs j v hj)⟩
theorem RdM.at {a : Option Addr} {X : Type} {f : X → List Value} {xs : List X} {y : X} {sz i : Nat} (h : RdM M a ((xs.map f).flatten)) (hf : ∀ y, (f y).length = sz) (hz : 0 < sz) (hx : xs[i]? = some y) :
    ∃ b o, a = some ⟨b, o, none⟩ ∧ PM M b (o + i * sz) (f y) := by
  have hi := (List.getElem?_eq_some_iff.1 hx).1
  have hl : 0 < ((xs.map f).flatten).length := by rw [flat_len f sz hf]; exact Nat.mul_pos (by omega) hz
  cases a with
  | none => have : (xs.map f).flatten = [] := h; rw [this] at hl; simp at hl
  | some a =>
    rcases h with h | ⟨h1, T, fr, c, h2, h3⟩
    · rw [h] at hl; simp at hl
    · obtain ⟨b, o, s⟩ := a
      simp only at h1 h2 h3
      subst h1
      refine ⟨b, o, rfl, T, fr, c, h2, fun j v hj => ?_⟩
      have hsub := flat_sub f sz hf hx
      have hjl := (List.getElem?_eq_some_iff.1 hj).1
      rw [hf y] at hjl
      rw [← hsub, List.getElem?_take, if_pos hjl, List.getElem?_drop] at hj
      rw [Nat.add_assoc]
      exact h3 _ _ hj
theorem Ent.wix {t x n cp sz by_ i : Nat} {a : Option Addr} {j : IntKind} {X : Type} {f : X → List Value} {xs : List X} {y : X} {c : Value → WP} (hr : RdM M a ((xs.map f).flatten)) (hx : xs[i]? = some y) (h : ∀ b o, PM M b o (f y) → Ent e ctx (c (.pointer (some ⟨b, o, none⟩)))) (h1 : i < n := by omega) (ht : dd t = some (.sl x) := by exact rfl) (hs : szof x = some (sz, by_) := by exact rfl) (hf : ∀ y, (f y).length = sz := by intro y; exact rfl) (hz : 0 < sz := by decide) : Ent e ctx (oR (vS (Instr.indexAt t (.slice a n cp) (.int j (i : Int)))) c) := by
  obtain ⟨b, o, rfl, hp⟩ := hr.at hf hz hx
  refine Ent.opR (st_ix ht hs (by omega) (by omega)).still ?_
  rw [Int.toNat_natCast]
  exact h _ _ hp
theorem Ent.wixQ {t x n cp sz by_ i : Nat} {a : Option Addr} {j : IntKind} {X : Type} {f : X → List Value} {xs : List X} {y : X} {c : Value → WP} (hr : RdM M a ((xs.map f).flatten)) (hx : xs[i]? = some y) (h : ∀ b o, PM M b o (f y) → Ent e ctx (c (.pointer (some ⟨b, o, none⟩)))) (h1 : i < n := by omega) (ht : dd t = some (.sl x) := by exact rfl) (hs : szof x = some (sz, by_) := by exact rfl) (hf : ∀ y, (f y).length = sz := by intro y; exact rfl) (hz : 0 < sz := by decide) : Ent e ctx (qR (vS (Instr.indexAt t (.slice a n cp) (.int j (i : Int)))) c) := by
  obtain ⟨b, o, rfl, hp⟩ := hr.at hf hz hx
  refine Ent.puR (st_ix ht hs (by omega) (by omega)) ?_
  rw [Int.toNat_natCast]
  exact h _ _ hp
theorem Ent.wjAm {t x n cp sz by_ i u : Nat} {a : Option Addr} {j : IntKind} {X : Type} {f : X → List Value} {xs : List X} {y : X} {c : Value → WP} (hr : RdM M a ((xs.map f).flatten)) (hx : xs[i]? = some y) (h : Ent e ctx (c (.agg (f y).toArray))) (hM : Has R (Sl.ro M) := by repeat (first | exact Has.hd | apply Has.tl)) (h1 : i < n := by omega) (ht : dd t = some (.sl x) := by exact rfl) (hs : szof x = some (sz, by_) := by exact rfl) (hu : ag u = some sz := by exact rfl) (hf : ∀ y, (f y).length = sz := by intro y; exact rfl) (hz : 0 < sz := by decide) : Ent e ctx (jR (Sat e (sepL R)) t (.slice a n cp) j (i : Int) u c) := by
  obtain ⟨b, o, rfl, hp⟩ := hr.at hf hz hx
  refine Ent.puR (st_ix ht hs (by omega) (by omega)) ?_
  rw [Int.toNat_natCast]
  exact Ent.stR (st_loadRA (i := 0) (hp.rds hM) hu (by rw [List.drop_zero]; exact List.take_of_length_le (Nat.le_of_eq (hf y))) (hf y)) h
theorem Ent.wfRp {t b o i u off : Nat} {l : List Value} {v : Value} {c : Value → WP} (h : Ent e ctx (c v)) (hM : Has ctx (Sl.ro M) := by repeat (first | exact Has.hd | apply Has.tl)) (hP : PM M b o l := by assumption) (hf : fld t i = some off := by exact rfl) (hs : sc u = true := by exact rfl) (hv : l[off]? = some (v) := by first | exact rfl | assumption | (simp only [List.getElem?_cons_zero, List.getElem?_cons_succ]; done) | (simp; done)) : Ent e ctx (fR t (.pointer (some ⟨b, o, none⟩)) i u c) := Ent.opR (st_field hf).still (Ent.opR (st_loadR (i := off) (hP.rds hM) hs hv) h)
theorem Ent.wfRq {t b o i u off kk : Nat} {l : List Value} {v : Value} {c : Value → WP} (h : Ent e ctx (c v)) (hM : Has ctx (Sl.ro M) := by repeat (first | exact Has.hd | apply Has.tl)) (hP : PM M b o l := by assumption) (hf : fld t i = some off := by exact rfl) (hs : sc u = true := by exact rfl) (hv : l[kk + off]? = some (v) := by first | exact rfl | assumption | (simp only [List.getElem?_cons_zero, List.getElem?_cons_succ]; done) | (simp; done)) : Ent e ctx (fR t (.pointer (some ⟨b, o + kk, none⟩)) i u c) := Ent.opR (st_field hf).still (Ent.opR (by have := st_loadR (e := e) (t := u) (i := kk + off) (hP.rds hM) hs hv; rw [← Nat.add_assoc] at this; exact this) h)
theorem Ent.wfIp {t b o i u off : Nat} {l : List Value} {v : Int} {c : Int → WP} {k : IntKind} (h : Ent e ctx (c v)) (hM : Has ctx (Sl.ro M) := by repeat (first | exact Has.hd | apply Has.tl)) (hP : PM M b o l := by assumption) (hf : fld t i = some off := by exact rfl) (hs : sc u = true := by exact rfl) (hv : l[off]? = some (.int k v) := by first | exact rfl | assumption | (simp only [List.getElem?_cons_zero, List.getElem?_cons_succ]; done) | (simp; done)) : Ent e ctx (fI t (.pointer (some ⟨b, o, none⟩)) i u k c) := Ent.opR (st_field hf).still (Ent.opI (st_loadR (i := off) (hP.rds hM) hs hv) h)
theorem Ent.wfIq {t b o i u off kk : Nat} {l : List Value} {v : Int} {c : Int → WP} {k : IntKind} (h : Ent e ctx (c v)) (hM : Has ctx (Sl.ro M) := by repeat (first | exact Has.hd | apply Has.tl)) (hP : PM M b o l := by assumption) (hf : fld t i = some off := by exact rfl) (hs : sc u = true := by exact rfl) (hv : l[kk + off]? = some (.int k v) := by first | exact rfl | assumption | (simp only [List.getElem?_cons_zero, List.getElem?_cons_succ]; done) | (simp; done)) : Ent e ctx (fI t (.pointer (some ⟨b, o + kk, none⟩)) i u k c) := Ent.opR (st_field hf).still (Ent.opI (by have := st_loadR (e := e) (t := u) (i := kk + off) (hP.rds hM) hs hv; rw [← Nat.add_assoc] at this; exact this) h)
theorem Ent.wfBp {t b o i u off : Nat} {l : List Value} {v : Bool} {c : Bool → WP} (h : Ent e ctx (c v)) (hM : Has ctx (Sl.ro M) := by repeat (first | exact Has.hd | apply Has.tl)) (hP : PM M b o l := by assumption) (hf : fld t i = some off := by exact rfl) (hs : sc u = true := by exact rfl) (hv : l[off]? = some (.bool v) := by first | exact rfl | assumption | (simp only [List.getElem?_cons_zero, List.getElem?_cons_succ]; done) | (simp; done)) : Ent e ctx (fB t (.pointer (some ⟨b, o, none⟩)) i u c) := Ent.opR (st_field hf).still (Ent.opB (st_loadR (i := off) (hP.rds hM) hs hv) h)
theorem Ent.wfBq {t b o i u off kk : Nat} {l : List Value} {v : Bool} {c : Bool → WP} (h : Ent e ctx (c v)) (hM : Has ctx (Sl.ro M) := by repeat (first | exact Has.hd | apply Has.tl)) (hP : PM M b o l := by assumption) (hf : fld t i = some off := by exact rfl) (hs : sc u = true := by exact rfl) (hv : l[kk + off]? = some (.bool v) := by first | exact rfl | assumption | (simp only [List.getElem?_cons_zero, List.getElem?_cons_succ]; done) | (simp; done)) : Ent e ctx (fB t (.pointer (some ⟨b, o + kk, none⟩)) i u c) := Ent.opR (st_field hf).still (Ent.opB (by have := st_loadR (e := e) (t := u) (i := kk + off) (hP.rds hM) hs hv; rw [← Nat.add_assoc] at this; exact this) h)
theorem Ent.wfSp {t b o i u off : Nat} {l : List Value} {v : ByteArray} {c : ByteArray → WP} (h : Ent e ctx (c v)) (hM : Has ctx (Sl.ro M) := by repeat (first | exact Has.hd | apply Has.tl)) (hP : PM M b o l := by assumption) (hf : fld t i = some off := by exact rfl) (hs : sc u = true := by exact rfl) (hv : l[off]? = some (.string v) := by first | exact rfl | assumption | (simp only [List.getElem?_cons_zero, List.getElem?_cons_succ]; done) | (simp; done)) : Ent e ctx (fS t (.pointer (some ⟨b, o, none⟩)) i u c) := Ent.opR (st_field hf).still (Ent.opS (st_loadR (i := off) (hP.rds hM) hs hv) h)
theorem Ent.wfSq {t b o i u off kk : Nat} {l : List Value} {v : ByteArray} {c : ByteArray → WP} (h : Ent e ctx (c v)) (hM : Has ctx (Sl.ro M) := by repeat (first | exact Has.hd | apply Has.tl)) (hP : PM M b o l := by assumption) (hf : fld t i = some off := by exact rfl) (hs : sc u = true := by exact rfl) (hv : l[kk + off]? = some (.string v) := by first | exact rfl | assumption | (simp only [List.getElem?_cons_zero, List.getElem?_cons_succ]; done) | (simp; done)) : Ent e ctx (fS t (.pointer (some ⟨b, o + kk, none⟩)) i u c) := Ent.opR (st_field hf).still (Ent.opS (by have := st_loadR (e := e) (t := u) (i := kk + off) (hP.rds hM) hs hv; rw [← Nat.add_assoc] at this; exact this) h)
theorem Ent.wfAp {t b o i u off m : Nat} {l cs : List Value} {c : Value → WP} (h : Ent e ctx (c (.agg cs.toArray))) (hM : Has ctx (Sl.ro M) := by repeat (first | exact Has.hd | apply Has.tl)) (hP : PM M b o l := by assumption) (hf : fld t i = some off := by exact rfl) (hs : ag u = some m := by exact rfl) (hv : (l.drop (off)).take m = cs := by (try simp only [List.take_succ_cons, List.take_zero, List.take_nil, List.drop_succ_cons, List.drop_zero, List.drop_nil, Nat.reduceAdd, Nat.zero_add]); first | done | exact rfl) (hn : cs.length = m := by exact rfl) : Ent e ctx (fR t (.pointer (some ⟨b, o, none⟩)) i u c) := Ent.opR (st_field hf).still (Ent.opR (st_loadRA (i := off) (hP.rds hM) hs hv hn) h)
theorem Ent.wfAq {t b o i u off m kk : Nat} {l cs : List Value} {c : Value → WP} (h : Ent e ctx (c (.agg cs.toArray))) (hM : Has ctx (Sl.ro M) := by repeat (first | exact Has.hd | apply Has.tl)) (hP : PM M b o l := by assumption) (hf : fld t i = some off := by exact rfl) (hs : ag u = some m := by exact rfl) (hv : (l.drop (kk + off)).take m = cs := by (try simp only [List.take_succ_cons, List.take_zero, List.take_nil, List.drop_succ_cons, List.drop_zero, List.drop_nil, Nat.reduceAdd, Nat.zero_add]); first | done | exact rfl) (hn : cs.length = m := by exact rfl) : Ent e ctx (fR t (.pointer (some ⟨b, o + kk, none⟩)) i u c) := Ent.opR (st_field hf).still (Ent.opR (by have := st_loadRA (e := e) (t := u) (i := kk + off) (hP.rds hM) hs hv hn; rw [← Nat.add_assoc] at this; exact this) h)
theorem Ent.wnRp {t b o i u off : Nat} {l : List Value} {v : Value} {c : Value → WP} (h : Ent e ctx (c v)) (hM : Has ctx (Sl.ro M) := by repeat (first | exact Has.hd | apply Has.tl)) (hP : PM M b o l := by assumption) (hf : fld t i = some off := by exact rfl) (hs : sc u = true := by exact rfl) (hv : l[off]? = some (v) := by first | exact rfl | assumption | (simp only [List.getElem?_cons_zero, List.getElem?_cons_succ]; done) | (simp; done)) : Ent e ctx (nR t (.pointer (some ⟨b, o, none⟩)) i u c) := Ent.nil (Ent.opR (st_field hf).still (Ent.opR (st_loadR (i := off) (hP.rds hM) hs hv) h))
theorem Ent.wnRq {t b o i u off kk : Nat} {l : List Value} {v : Value} {c : Value → WP} (h : Ent e ctx (c v)) (hM : Has ctx (Sl.ro M) := by repeat (first | exact Has.hd | apply Has.tl)) (hP : PM M b o l := by assumption) (hf : fld t i = some off := by exact rfl) (hs : sc u = true := by exact rfl) (hv : l[kk + off]? = some (v) := by first | exact rfl | assumption | (simp only [List.getElem?_cons_zero, List.getElem?_cons_succ]; done) | (simp; done)) : Ent e ctx (nR t (.pointer (some ⟨b, o + kk, none⟩)) i u c) := Ent.nil (Ent.opR (st_field hf).still (Ent.opR (by have := st_loadR (e := e) (t := u) (i := kk + off) (hP.rds hM) hs hv; rw [← Nat.add_assoc] at this; exact this) h))
theorem Ent.wnIp {t b o i u off : Nat} {l : List Value} {v : Int} {c : Int → WP} {k : IntKind} (h : Ent e ctx (c v)) (hM : Has ctx (Sl.ro M) := by repeat (first | exact Has.hd | apply Has.tl)) (hP : PM M b o l := by assumption) (hf : fld t i = some off := by exact rfl) (hs : sc u = true := by exact rfl) (hv : l[off]? = some (.int k v) := by first | exact rfl | assumption | (simp only [List.getElem?_cons_zero, List.getElem?_cons_succ]; done) | (simp; done)) : Ent e ctx (nI t (.pointer (some ⟨b, o, none⟩)) i u k c) := Ent.nil (Ent.opR (st_field hf).still (Ent.opI (st_loadR (i := off) (hP.rds hM) hs hv) h))
theorem Ent.wnIq {t b o i u off kk : Nat} {l : List Value} {v : Int} {c : Int → WP} {k : IntKind} (h : Ent e ctx (c v)) (hM : Has ctx (Sl.ro M) := by repeat (first | exact Has.hd | apply Has.tl)) (hP : PM M b o l := by assumption) (hf : fld t i = some off := by exact rfl) (hs : sc u = true := by exact rfl) (hv : l[kk + off]? = some (.int k v) := by first | exact rfl | assumption | (simp only [List.getElem?_cons_zero, List.getElem?_cons_succ]; done) | (simp; done)) : Ent e ctx (nI t (.pointer (some ⟨b, o + kk, none⟩)) i u k c) := Ent.nil (Ent.opR (st_field hf).still (Ent.opI (by have := st_loadR (e := e) (t := u) (i := kk + off) (hP.rds hM) hs hv; rw [← Nat.add_assoc] at this; exact this) h))
theorem Ent.wnBp {t b o i u off : Nat} {l : List Value} {v : Bool} {c : Bool → WP} (h : Ent e ctx (c v)) (hM : Has ctx (Sl.ro M) := by repeat (first | exact Has.hd | apply Has.tl)) (hP : PM M b o l := by assumption) (hf : fld t i = some off := by exact rfl) (hs : sc u = true := by exact rfl) (hv : l[off]? = some (.bool v) := by first | exact rfl | assumption | (simp only [List.getElem?_cons_zero, List.getElem?_cons_succ]; done) | (simp; done)) : Ent e ctx (nB t (.pointer (some ⟨b, o, none⟩)) i u c) := Ent.nil (Ent.opR (st_field hf).still (Ent.opB (st_loadR (i := off) (hP.rds hM) hs hv) h))
theorem Ent.wnBq {t b o i u off kk : Nat} {l : List Value} {v : Bool} {c : Bool → WP} (h : Ent e ctx (c v)) (hM : Has ctx (Sl.ro M) := by repeat (first | exact Has.hd | apply Has.tl)) (hP : PM M b o l := by assumption) (hf : fld t i = some off := by exact rfl) (hs : sc u = true := by exact rfl) (hv : l[kk + off]? = some (.bool v) := by first | exact rfl | assumption | (simp only [List.getElem?_cons_zero, List.getElem?_cons_succ]; done) | (simp; done)) : Ent e ctx (nB t (.pointer (some ⟨b, o + kk, none⟩)) i u c) := Ent.nil (Ent.opR (st_field hf).still (Ent.opB (by have := st_loadR (e := e) (t := u) (i := kk + off) (hP.rds hM) hs hv; rw [← Nat.add_assoc] at this; exact this) h))
theorem Ent.wnSp {t b o i u off : Nat} {l : List Value} {v : ByteArray} {c : ByteArray → WP} (h : Ent e ctx (c v)) (hM : Has ctx (Sl.ro M) := by repeat (first | exact Has.hd | apply Has.tl)) (hP : PM M b o l := by assumption) (hf : fld t i = some off := by exact rfl) (hs : sc u = true := by exact rfl) (hv : l[off]? = some (.string v) := by first | exact rfl | assumption | (simp only [List.getElem?_cons_zero, List.getElem?_cons_succ]; done) | (simp; done)) : Ent e ctx (nS t (.pointer (some ⟨b, o, none⟩)) i u c) := Ent.nil (Ent.opR (st_field hf).still (Ent.opS (st_loadR (i := off) (hP.rds hM) hs hv) h))
theorem Ent.wnSq {t b o i u off kk : Nat} {l : List Value} {v : ByteArray} {c : ByteArray → WP} (h : Ent e ctx (c v)) (hM : Has ctx (Sl.ro M) := by repeat (first | exact Has.hd | apply Has.tl)) (hP : PM M b o l := by assumption) (hf : fld t i = some off := by exact rfl) (hs : sc u = true := by exact rfl) (hv : l[kk + off]? = some (.string v) := by first | exact rfl | assumption | (simp only [List.getElem?_cons_zero, List.getElem?_cons_succ]; done) | (simp; done)) : Ent e ctx (nS t (.pointer (some ⟨b, o + kk, none⟩)) i u c) := Ent.nil (Ent.opR (st_field hf).still (Ent.opS (by have := st_loadR (e := e) (t := u) (i := kk + off) (hP.rds hM) hs hv; rw [← Nat.add_assoc] at this; exact this) h))
theorem Ent.wnAp {t b o i u off m : Nat} {l cs : List Value} {c : Value → WP} (h : Ent e ctx (c (.agg cs.toArray))) (hM : Has ctx (Sl.ro M) := by repeat (first | exact Has.hd | apply Has.tl)) (hP : PM M b o l := by assumption) (hf : fld t i = some off := by exact rfl) (hs : ag u = some m := by exact rfl) (hv : (l.drop (off)).take m = cs := by (try simp only [List.take_succ_cons, List.take_zero, List.take_nil, List.drop_succ_cons, List.drop_zero, List.drop_nil, Nat.reduceAdd, Nat.zero_add]); first | done | exact rfl) (hn : cs.length = m := by exact rfl) : Ent e ctx (nR t (.pointer (some ⟨b, o, none⟩)) i u c) := Ent.nil (Ent.opR (st_field hf).still (Ent.opR (st_loadRA (i := off) (hP.rds hM) hs hv hn) h))
theorem Ent.wnAq {t b o i u off m kk : Nat} {l cs : List Value} {c : Value → WP} (h : Ent e ctx (c (.agg cs.toArray))) (hM : Has ctx (Sl.ro M) := by repeat (first | exact Has.hd | apply Has.tl)) (hP : PM M b o l := by assumption) (hf : fld t i = some off := by exact rfl) (hs : ag u = some m := by exact rfl) (hv : (l.drop (kk + off)).take m = cs := by (try simp only [List.take_succ_cons, List.take_zero, List.take_nil, List.drop_succ_cons, List.drop_zero, List.drop_nil, Nat.reduceAdd, Nat.zero_add]); first | done | exact rfl) (hn : cs.length = m := by exact rfl) : Ent e ctx (nR t (.pointer (some ⟨b, o + kk, none⟩)) i u c) := Ent.nil (Ent.opR (st_field hf).still (Ent.opR (by have := st_loadRA (e := e) (t := u) (i := kk + off) (hP.rds hM) hs hv hn; rw [← Nat.add_assoc] at this; exact this) h))
theorem Ent.wgRp {t b o i u off : Nat} {l : List Value} {v : Value} {c : Value → WP} (h : Ent e ctx (c v)) (hM : Has R (Sl.ro M) := by repeat (first | exact Has.hd | apply Has.tl)) (hP : PM M b o l := by assumption) (hf : fld t i = some off := by exact rfl) (hs : sc u = true := by exact rfl) (hv : l[off]? = some (v) := by first | exact rfl | assumption | (simp only [List.getElem?_cons_zero, List.getElem?_cons_succ]; done) | (simp; done)) : Ent e ctx (gR (Sat e (sepL R)) t (.pointer (some ⟨b, o, none⟩)) i u c) := Ent.puR (st_field hf) (Ent.stR (st_loadR (i := off) (hP.rds hM) hs hv) h)
theorem Ent.wgRq {t b o i u off kk : Nat} {l : List Value} {v : Value} {c : Value → WP} (h : Ent e ctx (c v)) (hM : Has R (Sl.ro M) := by repeat (first | exact Has.hd | apply Has.tl)) (hP : PM M b o l := by assumption) (hf : fld t i = some off := by exact rfl) (hs : sc u = true := by exact rfl) (hv : l[kk + off]? = some (v) := by first | exact rfl | assumption | (simp only [List.getElem?_cons_zero, List.getElem?_cons_succ]; done) | (simp; done)) : Ent e ctx (gR (Sat e (sepL R)) t (.pointer (some ⟨b, o + kk, none⟩)) i u c) := Ent.puR (st_field hf) (Ent.stR (by have := st_loadR (e := e) (t := u) (i := kk + off) (hP.rds hM) hs hv; rw [← Nat.add_assoc] at this; exact this) h)
theorem Ent.wgIp {t b o i u off : Nat} {l : List Value} {v : Int} {c : Int → WP} {k : IntKind} (h : Ent e ctx (c v)) (hM : Has R (Sl.ro M) := by repeat (first | exact Has.hd | apply Has.tl)) (hP : PM M b o l := by assumption) (hf : fld t i = some off := by exact rfl) (hs : sc u = true := by exact rfl) (hv : l[off]? = some (.int k v) := by first | exact rfl | assumption | (simp only [List.getElem?_cons_zero, List.getElem?_cons_succ]; done) | (simp; done)) : Ent e ctx (gI (Sat e (sepL R)) t (.pointer (some ⟨b, o, none⟩)) i u k c) := Ent.puR (st_field hf) (Ent.stI (st_loadR (i := off) (hP.rds hM) hs hv) h)
theorem Ent.wgIq {t b o i u off kk : Nat} {l : List Value} {v : Int} {c : Int → WP} {k : IntKind} (h : Ent e ctx (c v)) (hM : Has R (Sl.ro M) := by repeat (first | exact Has.hd | apply Has.tl)) (hP : PM M b o l := by assumption) (hf : fld t i = some off := by exact rfl) (hs : sc u = true := by exact rfl) (hv : l[kk + off]? = some (.int k v) := by first | exact rfl | assumption | (simp only [List.getElem?_cons_zero, List.getElem?_cons_succ]; done) | (simp; done)) : Ent e ctx (gI (Sat e (sepL R)) t (.pointer (some ⟨b, o + kk, none⟩)) i u k c) := Ent.puR (st_field hf) (Ent.stI (by have := st_loadR (e := e) (t := u) (i := kk + off) (hP.rds hM) hs hv; rw [← Nat.add_assoc] at this; exact this) h)
theorem Ent.wgBp {t b o i u off : Nat} {l : List Value} {v : Bool} {c : Bool → WP} (h : Ent e ctx (c v)) (hM : Has R (Sl.ro M) := by repeat (first | exact Has.hd | apply Has.tl)) (hP : PM M b o l := by assumption) (hf : fld t i = some off := by exact rfl) (hs : sc u = true := by exact rfl) (hv : l[off]? = some (.bool v) := by first | exact rfl | assumption | (simp only [List.getElem?_cons_zero, List.getElem?_cons_succ]; done) | (simp; done)) : Ent e ctx (gB (Sat e (sepL R)) t (.pointer (some ⟨b, o, none⟩)) i u c) := Ent.puR (st_field hf) (Ent.stB (st_loadR (i := off) (hP.rds hM) hs hv) h)
theorem Ent.wgBq {t b o i u off kk : Nat} {l : List Value} {v : Bool} {c : Bool → WP} (h : Ent e ctx (c v)) (hM : Has R (Sl.ro M) := by repeat (first | exact Has.hd | apply Has.tl)) (hP : PM M b o l := by assumption) (hf : fld t i = some off := by exact rfl) (hs : sc u = true := by exact rfl) (hv : l[kk + off]? = some (.bool v) := by first | exact rfl | assumption | (simp only [List.getElem?_cons_zero, List.getElem?_cons_succ]; done) | (simp; done)) : Ent e ctx (gB (Sat e (sepL R)) t (.pointer (some ⟨b, o + kk, none⟩)) i u c) := Ent.puR (st_field hf) (Ent.stB (by have := st_loadR (e := e) (t := u) (i := kk + off) (hP.rds hM) hs hv; rw [← Nat.add_assoc] at this; exact this) h)
theorem Ent.wgSp {t b o i u off : Nat} {l : List Value} {v : ByteArray} {c : ByteArray → WP} (h : Ent e ctx (c v)) (hM : Has R (Sl.ro M) := by repeat (first | exact Has.hd | apply Has.tl)) (hP : PM M b o l := by assumption) (hf : fld t i = some off := by exact rfl) (hs : sc u = true := by exact rfl) (hv : l[off]? = some (.string v) := by first | exact rfl | assumption | (simp only [List.getElem?_cons_zero, List.getElem?_cons_succ]; done) | (simp; done)) : Ent e ctx (gS (Sat e (sepL R)) t (.pointer (some ⟨b, o, none⟩)) i u c) := Ent.puR (st_field hf) (Ent.stS (st_loadR (i := off) (hP.rds hM) hs hv) h)
theorem Ent.wgSq {t b o i u off kk : Nat} {l : List Value} {v : ByteArray} {c : ByteArray → WP} (h : Ent e ctx (c v)) (hM : Has R (Sl.ro M) := by repeat (first | exact Has.hd | apply Has.tl)) (hP : PM M b o l := by assumption) (hf : fld t i = some off := by exact rfl) (hs : sc u = true := by exact rfl) (hv : l[kk + off]? = some (.string v) := by first | exact rfl | assumption | (simp only [List.getElem?_cons_zero, List.getElem?_cons_succ]; done) | (simp; done)) : Ent e ctx (gS (Sat e (sepL R)) t (.pointer (some ⟨b, o + kk, none⟩)) i u c) := Ent.puR (st_field hf) (Ent.stS (by have := st_loadR (e := e) (t := u) (i := kk + off) (hP.rds hM) hs hv; rw [← Nat.add_assoc] at this; exact this) h)
theorem Ent.wgAp {t b o i u off m : Nat} {l cs : List Value} {c : Value → WP} (h : Ent e ctx (c (.agg cs.toArray))) (hM : Has R (Sl.ro M) := by repeat (first | exact Has.hd | apply Has.tl)) (hP : PM M b o l := by assumption) (hf : fld t i = some off := by exact rfl) (hs : ag u = some m := by exact rfl) (hv : (l.drop (off)).take m = cs := by (try simp only [List.take_succ_cons, List.take_zero, List.take_nil, List.drop_succ_cons, List.drop_zero, List.drop_nil, Nat.reduceAdd, Nat.zero_add]); first | done | exact rfl) (hn : cs.length = m := by exact rfl) : Ent e ctx (gR (Sat e (sepL R)) t (.pointer (some ⟨b, o, none⟩)) i u c) := Ent.puR (st_field hf) (Ent.stR (st_loadRA (i := off) (hP.rds hM) hs hv hn) h)
theorem Ent.wgAq {t b o i u off m kk : Nat} {l cs : List Value} {c : Value → WP} (h : Ent e ctx (c (.agg cs.toArray))) (hM : Has R (Sl.ro M) := by repeat (first | exact Has.hd | apply Has.tl)) (hP : PM M b o l := by assumption) (hf : fld t i = some off := by exact rfl) (hs : ag u = some m := by exact rfl) (hv : (l.drop (kk + off)).take m = cs := by (try simp only [List.take_succ_cons, List.take_zero, List.take_nil, List.drop_succ_cons, List.drop_zero, List.drop_nil, Nat.reduceAdd, Nat.zero_add]); first | done | exact rfl) (hn : cs.length = m := by exact rfl) : Ent e ctx (gR (Sat e (sepL R)) t (.pointer (some ⟨b, o + kk, none⟩)) i u c) := Ent.puR (st_field hf) (Ent.stR (by have := st_loadRA (e := e) (t := u) (i := kk + off) (hP.rds hM) hs hv hn; rw [← Nat.add_assoc] at this; exact this) h)
theorem Ent.whRp {t b o i u off : Nat} {l : List Value} {v : Value} {c : Value → WP} (h : Ent e ctx (c v)) (hM : Has R (Sl.ro M) := by repeat (first | exact Has.hd | apply Has.tl)) (hP : PM M b o l := by assumption) (hf : fld t i = some off := by exact rfl) (hs : sc u = true := by exact rfl) (hv : l[off]? = some (v) := by first | exact rfl | assumption | (simp only [List.getElem?_cons_zero, List.getElem?_cons_succ]; done) | (simp; done)) : Ent e ctx (hR (Sat e (sepL R)) t (.pointer (some ⟨b, o, none⟩)) i u c) := Ent.nil (Ent.puR (st_field hf) (Ent.stR (st_loadR (i := off) (hP.rds hM) hs hv) h))
theorem Ent.whRq {t b o i u off kk : Nat} {l : List Value} {v : Value} {c : Value → WP} (h : Ent e ctx (c v)) (hM : Has R (Sl.ro M) := by repeat (first | exact Has.hd | apply Has.tl)) (hP : PM M b o l := by assumption) (hf : fld t i = some off := by exact rfl) (hs : sc u = true := by exact rfl) (hv : l[kk + off]? = some (v) := by first | exact rfl | assumption | (simp only [List.getElem?_cons_zero, List.getElem?_cons_succ]; done) | (simp; done)) : Ent e ctx (hR (Sat e (sepL R)) t (.pointer (some ⟨b, o + kk, none⟩)) i u c) := Ent.nil (Ent.puR (st_field hf) (Ent.stR (by have := st_loadR (e := e) (t := u) (i := kk + off) (hP.rds hM) hs hv; rw [← Nat.add_assoc] at this; exact this) h))
theorem Ent.whIp {t b o i u off : Nat} {l : List Value} {v : Int} {c : Int → WP} {k : IntKind} (h : Ent e ctx (c v)) (hM : Has R (Sl.ro M) := by repeat (first | exact Has.hd | apply Has.tl)) (hP : PM M b o l := by assumption) (hf : fld t i = some off := by exact rfl) (hs : sc u = true := by exact rfl) (hv : l[off]? = some (.int k v) := by first | exact rfl | assumption | (simp only [List.getElem?_cons_zero, List.getElem?_cons_succ]; done) | (simp; done)) : Ent e ctx (hI (Sat e (sepL R)) t (.pointer (some ⟨b, o, none⟩)) i u k c) := Ent.nil (Ent.puR (st_field hf) (Ent.stI (st_loadR (i := off) (hP.rds hM) hs hv) h))
theorem Ent.whIq {t b o i u off kk : Nat} {l : List Value} {v : Int} {c : Int → WP} {k : IntKind} (h : Ent e ctx (c v)) (hM : Has R (Sl.ro M) := by repeat (first | exact Has.hd | apply Has.tl)) (hP : PM M b o l := by assumption) (hf : fld t i = some off := by exact rfl) (hs : sc u = true := by exact rfl) (hv : l[kk + off]? = some (.int k v) := by first | exact rfl | assumption | (simp only [List.getElem?_cons_zero, List.getElem?_cons_succ]; done) | (simp; done)) : Ent e ctx (hI (Sat e (sepL R)) t (.pointer (some ⟨b, o + kk, none⟩)) i u k c) := Ent.nil (Ent.puR (st_field hf) (Ent.stI (by have := st_loadR (e := e) (t := u) (i := kk + off) (hP.rds hM) hs hv; rw [← Nat.add_assoc] at this; exact this) h))
theorem Ent.whBp {t b o i u off : Nat} {l : List Value} {v : Bool} {c : Bool → WP} (h : Ent e ctx (c v)) (hM : Has R (Sl.ro M) := by repeat (first | exact Has.hd | apply Has.tl)) (hP : PM M b o l := by assumption) (hf : fld t i = some off := by exact rfl) (hs : sc u = true := by exact rfl) (hv : l[off]? = some (.bool v) := by first | exact rfl | assumption | (simp only [List.getElem?_cons_zero, List.getElem?_cons_succ]; done) | (simp; done)) : Ent e ctx (hB (Sat e (sepL R)) t (.pointer (some ⟨b, o, none⟩)) i u c) := Ent.nil (Ent.puR (st_field hf) (Ent.stB (st_loadR (i := off) (hP.rds hM) hs hv) h))
theorem Ent.whBq {t b o i u off kk : Nat} {l : List Value} {v : Bool} {c : Bool → WP} (h : Ent e ctx (c v)) (hM : Has R (Sl.ro M) := by repeat (first | exact Has.hd | apply Has.tl)) (hP : PM M b o l := by assumption) (hf : fld t i = some off := by exact rfl) (hs : sc u = true := by exact rfl) (hv : l[kk + off]? = some (.bool v) := by first | exact rfl | assumption | (simp only [List.getElem?_cons_zero, List.getElem?_cons_succ]; done) | (simp; done)) : Ent e ctx (hB (Sat e (sepL R)) t (.pointer (some ⟨b, o + kk, none⟩)) i u c) := Ent.nil (Ent.puR (st_field hf) (Ent.stB (by have := st_loadR (e := e) (t := u) (i := kk + off) (hP.rds hM) hs hv; rw [← Nat.add_assoc] at this; exact this) h))
theorem Ent.whSp {t b o i u off : Nat} {l : List Value} {v : ByteArray} {c : ByteArray → WP} (h : Ent e ctx (c v)) (hM : Has R (Sl.ro M) := by repeat (first | exact Has.hd | apply Has.tl)) (hP : PM M b o l := by assumption) (hf : fld t i = some off := by exact rfl) (hs : sc u = true := by exact rfl) (hv : l[off]? = some (.string v) := by first | exact rfl | assumption | (simp only [List.getElem?_cons_zero, List.getElem?_cons_succ]; done) | (simp; done)) : Ent e ctx (hS (Sat e (sepL R)) t (.pointer (some ⟨b, o, none⟩)) i u c) := Ent.nil (Ent.puR (st_field hf) (Ent.stS (st_loadR (i := off) (hP.rds hM) hs hv) h))
theorem Ent.whSq {t b o i u off kk : Nat} {l : List Value} {v : ByteArray} {c : ByteArray → WP} (h : Ent e ctx (c v)) (hM : Has R (Sl.ro M) := by repeat (first | exact Has.hd | apply Has.tl)) (hP : PM M b o l := by assumption) (hf : fld t i = some off := by exact rfl) (hs : sc u = true := by exact rfl) (hv : l[kk + off]? = some (.string v) := by first | exact rfl | assumption | (simp only [List.getElem?_cons_zero, List.getElem?_cons_succ]; done) | (simp; done)) : Ent e ctx (hS (Sat e (sepL R)) t (.pointer (some ⟨b, o + kk, none⟩)) i u c) := Ent.nil (Ent.puR (st_field hf) (Ent.stS (by have := st_loadR (e := e) (t := u) (i := kk + off) (hP.rds hM) hs hv; rw [← Nat.add_assoc] at this; exact this) h))
theorem Ent.whAp {t b o i u off m : Nat} {l cs : List Value} {c : Value → WP} (h : Ent e ctx (c (.agg cs.toArray))) (hM : Has R (Sl.ro M) := by repeat (first | exact Has.hd | apply Has.tl)) (hP : PM M b o l := by assumption) (hf : fld t i = some off := by exact rfl) (hs : ag u = some m := by exact rfl) (hv : (l.drop (off)).take m = cs := by (try simp only [List.take_succ_cons, List.take_zero, List.take_nil, List.drop_succ_cons, List.drop_zero, List.drop_nil, Nat.reduceAdd, Nat.zero_add]); first | done | exact rfl) (hn : cs.length = m := by exact rfl) : Ent e ctx (hR (Sat e (sepL R)) t (.pointer (some ⟨b, o, none⟩)) i u c) := Ent.nil (Ent.puR (st_field hf) (Ent.stR (st_loadRA (i := off) (hP.rds hM) hs hv hn) h))
theorem Ent.whAq {t b o i u off m kk : Nat} {l cs : List Value} {c : Value → WP} (h : Ent e ctx (c (.agg cs.toArray))) (hM : Has R (Sl.ro M) := by repeat (first | exact Has.hd | apply Has.tl)) (hP : PM M b o l := by assumption) (hf : fld t i = some off := by exact rfl) (hs : ag u = some m := by exact rfl) (hv : (l.drop (kk + off)).take m = cs := by (try simp only [List.take_succ_cons, List.take_zero, List.take_nil, List.drop_succ_cons, List.drop_zero, List.drop_nil, Nat.reduceAdd, Nat.zero_add]); first | done | exact rfl) (hn : cs.length = m := by exact rfl) : Ent e ctx (hR (Sat e (sepL R)) t (.pointer (some ⟨b, o + kk, none⟩)) i u c) := Ent.nil (Ent.puR (st_field hf) (Ent.stR (by have := st_loadRA (e := e) (t := u) (i := kk + off) (hP.rds hM) hs hv hn; rw [← Nat.add_assoc] at this; exact this) h))
theorem Ent.wlRp {b o u : Nat} {l : List Value} {v : Value} {c : Value → WP} (h : Ent e ctx (c v)) (hM : Has ctx (Sl.ro M) := by repeat (first | exact Has.hd | apply Has.tl)) (hP : PM M b o l := by assumption) (hs : sc u = true := by exact rfl) (hv : l[0]? = some (v) := by first | exact rfl | assumption | (simp only [List.getElem?_cons_zero, List.getElem?_cons_succ]; done) | (simp; done)) : Ent e ctx (lR u (.pointer (some ⟨b, o, none⟩)) c) := Ent.opR (st_loadR (i := 0) (hP.rds hM) hs hv) h
theorem Ent.wlIp {b o u : Nat} {l : List Value} {v : Int} {c : Int → WP} {k : IntKind} (h : Ent e ctx (c v)) (hM : Has ctx (Sl.ro M) := by repeat (first | exact Has.hd | apply Has.tl)) (hP : PM M b o l := by assumption) (hs : sc u = true := by exact rfl) (hv : l[0]? = some (.int k v) := by first | exact rfl | assumption | (simp only [List.getElem?_cons_zero, List.getElem?_cons_succ]; done) | (simp; done)) : Ent e ctx (lI u k (.pointer (some ⟨b, o, none⟩)) c) := Ent.opI (st_loadR (i := 0) (hP.rds hM) hs hv) h
theorem Ent.wlBp {b o u : Nat} {l : List Value} {v : Bool} {c : Bool → WP} (h : Ent e ctx (c v)) (hM : Has ctx (Sl.ro M) := by repeat (first | exact Has.hd | apply Has.tl)) (hP : PM M b o l := by assumption) (hs : sc u = true := by exact rfl) (hv : l[0]? = some (.bool v) := by first | exact rfl | assumption | (simp only [List.getElem?_cons_zero, List.getElem?_cons_succ]; done) | (simp; done)) : Ent e ctx (lB u (.pointer (some ⟨b, o, none⟩)) c) := Ent.opB (st_loadR (i := 0) (hP.rds hM) hs hv) h
theorem Ent.wlSp {b o u : Nat} {l : List Value} {v : ByteArray} {c : ByteArray → WP} (h : Ent e ctx (c v)) (hM : Has ctx (Sl.ro M) := by repeat (first | exact Has.hd | apply Has.tl)) (hP : PM M b o l := by assumption) (hs : sc u = true := by exact rfl) (hv : l[0]? = some (.string v) := by first | exact rfl | assumption | (simp only [List.getElem?_cons_zero, List.getElem?_cons_succ]; done) | (simp; done)) : Ent e ctx (lS u (.pointer (some ⟨b, o, none⟩)) c) := Ent.opS (st_loadR (i := 0) (hP.rds hM) hs hv) h
theorem Ent.wlAp {b o u m : Nat} {l cs : List Value} {c : Value → WP} (h : Ent e ctx (c (.agg cs.toArray))) (hM : Has ctx (Sl.ro M) := by repeat (first | exact Has.hd | apply Has.tl)) (hP : PM M b o l := by assumption) (hs : ag u = some m := by exact rfl) (hv : l.take m = cs := by (try simp only [List.take_succ_cons, List.take_zero, List.take_nil]); first | done | exact rfl) (hn : cs.length = m := by exact rfl) : Ent e ctx (lR u (.pointer (some ⟨b, o, none⟩)) c) := Ent.opR (st_loadRA (i := 0) (hP.rds hM) hs (by rw [List.drop_zero]; exact hv) hn) h
/-- an aggregate read in a region -/
theorem Ent.wgA {t b o i u off m : Nat} {l cs : List Value} {c : Value → WP} (h : Ent e ctx (c (.agg cs.toArray))) (hf : fld t i = some off := by exact rfl) (hs : ag u = some m := by exact rfl) (hh : Has R (pt b l) := by repeat (first | exact Has.hd | apply Has.tl)) (hv : (l.drop (o + off)).take m = cs := by (try simp only [List.take_succ_cons, List.take_zero, List.take_nil, List.drop_succ_cons, List.drop_zero, List.drop_nil, Nat.reduceAdd, Nat.zero_add]); first | done | exact rfl) (hn : cs.length = m := by exact rfl) : Ent e ctx (gR (Sat e (sepL R)) t (.pointer (some ⟨b, o, none⟩)) i u c) := Ent.puR (st_field hf) (Ent.stR (st_loadA hh hs hv hn) h)
/-- a field of an element of one's own slice is written -/
theorem Ent.wfWo {t y n cp u by_ sz off g i : Nat} {a : Option Addr} {j : IntKind} {l : List Value} {x : Value} {c : WP} (h : Ent e (SlO a n cp sz (l.set (i * sz + off) x) :: ctx') c) (hp : Pick ctx (SlO a n cp sz l) ctx' := by (repeat (first | exact Pick.hd | apply Pick.tl))) (ht : dd t = some (.sl y) := by exact rfl) (hs : szof y = some (sz, by_) := by exact rfl)
    (hf : fld y g = some off := by exact rfl) (ho : off < sz := by decide) (hu : sc u = true := by exact rfl) (hv : one x = true := by exact rfl) (h1 : i < n := by omega) : Ent e ctx (oR (vS (Instr.indexAt t (.slice a n cp) (.int j (i : Int)))) fun q => fW y q g u x c) := Ent.pick hp <| Ent.slO fun k1 k2 k3 k4 => SlO.open2 (fun b r hc hcr ha => by
    subst ha
    refine Ent.opR (st_ix ht hs (by omega) (by omega)).still ?_
    rw [Int.toNat_natCast]
    have hlt : i * sz + off < l.length := by
      have h2 : (i + 1) * sz ≤ n * sz := Nat.mul_le_mul_right sz h1
      rw [Nat.add_mul, Nat.one_mul] at h2
      omega
    refine Ent.opR (st_field hf).still ?_
    refine Ent.store (l := l ++ r) Upd.hd hu hv (by rw [List.length_append]; omega) ?_
    refine h.imp fun y hy => sepL_cons (fun g hg => ?_) (fun _ z => z) hy
    have e1 : (l ++ r).set (0 + i * sz + off) x = l.set (i * sz + off) x ++ r := by
      rw [Nat.zero_add, List.set_append_left _ _ hlt]
    rw [e1] at hg
    refine ⟨by simpa using k1, .inr ⟨b, r, rfl, hc, by simpa using hcr, hg⟩⟩) (fun ha hn hl => by omega)
/-- as Ent.go, through pointers into what lies still, too -/
theorem Ent.gp {p p' : WP} (k : Ent e ctx' p') (h : Ent e ctx' p' → Ent e ctx p := by intro k; (repeat (first | refine Ent.wnR ?_ | refine Ent.wnI ?_ | refine Ent.wnB ?_ | refine Ent.wnS ?_ | refine Ent.wnA ?_ | refine Ent.wfR ?_ | refine Ent.wfI ?_ | refine Ent.wfB ?_ | refine Ent.wfS ?_ | refine Ent.wfA ?_ | refine Ent.wlR ?_ | refine Ent.wlI ?_ | refine Ent.wlB ?_ | refine Ent.wlS ?_ | refine Ent.wlA ?_ | refine Ent.nil ?_ | refine Ent.war ?_ | refine Ent.wT ?_ | refine Ent.wF ?_ | refine Ent.wsto ?_ | refine Ent.wnW ?_ | refine Ent.wfW ?_ | refine Ent.wlen ?_ | refine Ent.wlenB ?_ | refine Ent.wlenS ?_ | refine Ent.wiIm ?_ | refine Ent.wiRm ?_ | refine Ent.wiSm ?_ | refine Ent.wiBm ?_ | refine Ent.wiAm ?_ | refine Ent.wiIh ?_ | refine Ent.wiRh ?_ | refine Ent.wiSh ?_ | refine Ent.wiBh ?_ | refine Ent.wjIm ?_ | refine Ent.wjIh ?_ | refine Ent.wjIq ?_ | refine Ent.wjIb ?_ | refine Ent.wjRm ?_ | refine Ent.wjRh ?_ | refine Ent.wjRq ?_ | refine Ent.wjRb ?_ | refine Ent.wjSm ?_ | refine Ent.wjSh ?_ | refine Ent.wjSq ?_ | refine Ent.wjSb ?_ | refine Ent.wjBm ?_ | refine Ent.wjBh ?_ | refine Ent.wjBq ?_ | refine Ent.wjBb ?_ | refine Ent.wiIb ?_ | refine Ent.wiRb ?_ | refine Ent.wiSb ?_ | refine Ent.wiBb ?_ | refine Ent.wiIq ?_ | refine Ent.wiRq ?_ | refine Ent.wiSq ?_ | refine Ent.wiBq ?_ | refine Ent.wiIo ?_ | refine Ent.wiRo ?_ | refine Ent.wiSo ?_ | refine Ent.wiBo ?_ | refine Ent.wiAo ?_ | refine Ent.wiIp ?_ | refine Ent.wiRp ?_ | refine Ent.wiSp ?_ | refine Ent.wiBp ?_ | refine Ent.wstoA ?_ | refine Ent.wnWA ?_ | refine Ent.wfWA ?_ | refine Ent.wiWp ?_ | refine Ent.wiWAp ?_ | refine Ent.draw0 ?_ | refine Ent.wand ?_ | refine Ent.wgR ?_ | refine Ent.wgI ?_ | refine Ent.wgB ?_ | refine Ent.wgS ?_ | refine Ent.whR ?_ | refine Ent.whI ?_ | refine Ent.whB ?_ | refine Ent.whS ?_ | refine Ent.wqR ?_ | refine Ent.wqI ?_ | refine Ent.wqB ?_ | refine Ent.wqS ?_ | refine Ent.woR ?_ | refine Ent.woI ?_ | refine Ent.woB ?_ | refine Ent.woS ?_ | refine Ent.wsR ?_ | refine Ent.wsI ?_ | refine Ent.wsB ?_ | refine Ent.wsS ?_ | refine Ent.wfRp ?_ | refine Ent.wfRq ?_ | refine Ent.wfIp ?_ | refine Ent.wfIq ?_ | refine Ent.wfBp ?_ | refine Ent.wfBq ?_ | refine Ent.wfSp ?_ | refine Ent.wfSq ?_ | refine Ent.wfAp ?_ | refine Ent.wfAq ?_ | refine Ent.wnRp ?_ | refine Ent.wnRq ?_ | refine Ent.wnIp ?_ | refine Ent.wnIq ?_ | refine Ent.wnBp ?_ | refine Ent.wnBq ?_ | refine Ent.wnSp ?_ | refine Ent.wnSq ?_ | refine Ent.wnAp ?_ | refine Ent.wnAq ?_ | refine Ent.wgRp ?_ | refine Ent.wgRq ?_ | refine Ent.wgIp ?_ | refine Ent.wgIq ?_ | refine Ent.wgBp ?_ | refine Ent.wgBq ?_ | refine Ent.wgSp ?_ | refine Ent.wgSq ?_ | refine Ent.wgAp ?_ | refine Ent.wgAq ?_ | refine Ent.whRp ?_ | refine Ent.whRq ?_ | refine Ent.whIp ?_ | refine Ent.whIq ?_ | refine Ent.whBp ?_ | refine Ent.whBq ?_ | refine Ent.whSp ?_ | refine Ent.whSq ?_ | refine Ent.whAp ?_ | refine Ent.whAq ?_ | refine Ent.wlRp ?_ | refine Ent.wlIp ?_ | refine Ent.wlBp ?_ | refine Ent.wlSp ?_ | refine Ent.wlAp ?_)); exact k) : Ent e ctx p := h k
end
end Go.Proofs.YtfofnagocedlgaaGreatDoor.Sl
end
section
/-
  THE DOCUMENT'S STORE (layer 21): its entries by rising numbers, in plain Lean.
-/
set_option maxRecDepth 100000
set_option linter.unusedVariables false
set_option linter.unusedSectionVars false
set_option linter.unusedSimpArgs false
set_option maxHeartbeats 0
namespace Go.Proofs.YtfofnagocedlgaaGreatDoor.Tx
open Go Sh Sl
open Go.RowKit
attribute [local irreducible] condK ArK NilK OpK FnK StK joinK loopK DrawK andK PuK NxK EnK vS uS bS callS invokeS
abbrev It := Nat × Et
def itO (k : Nat) (o : Option Et) : List It := match o with
  | some x => [(k, x)]
  | none => []
/-- the entries of the first slots, with their numbers -/
def its (X : List (Option Et)) : Nat → List It
  | 0 => []
  | k + 1 => its X k ++ itO k (X[k]?).join
theorem its_mem {X : List (Option Et)} {j : Nat} {x : Et} : ∀ {k : Nat}, (j, x) ∈ its X k ↔ j < k ∧ X[j]? = some (some x)
  | 0 => by simp [its]
  | k + 1 => by
    unfold its
    rw [List.mem_append, its_mem]
    cases ho : (X[k]?).join with
    | none =>
      simp only [itO, List.not_mem_nil, or_false]
      constructor
      · intro ⟨h1, h2⟩; exact ⟨by omega, h2⟩
      · intro ⟨h1, h2⟩
        refine ⟨?_, h2⟩
        rcases Nat.lt_or_ge j k with h | h
        · exact h
        · obtain rfl : j = k := by omega
          rw [h2] at ho; cases ho
    | some z =>
      have hz := Option.join_eq_some_iff.1 ho
      simp only [itO, List.mem_singleton, Prod.mk.injEq]
      constructor
      · rintro (⟨h1, h2⟩ | ⟨rfl, rfl⟩)
        · exact ⟨by omega, h2⟩
        · exact ⟨by omega, hz⟩
      · intro ⟨h1, h2⟩
        rcases Nat.lt_or_ge j k with h | h
        · exact .inl ⟨h, h2⟩
        · obtain rfl : j = k := by omega
          rw [hz] at h2
          exact .inr ⟨rfl, (Option.some.inj (Option.some.inj h2)).symm⟩
theorem itO_len (k : Nat) (o : Option Et) : (itO k o).length ≤ 1 := by cases o <;> simp [itO]
theorem its_len (X : List (Option Et)) : ∀ k, (its X k).length ≤ k
  | 0 => by simp [its]
  | k + 1 => by
    unfold its
    have := its_len X k
    have := itO_len k (X[k]?).join
    rw [List.length_append]; omega
theorem join_set {X : List (Option Et)} {n k : Nat} {o : Option Et} (hn : n < X.length) : ((X.set n o)[k]?).join = if k = n then o else (X[k]?).join := by
  by_cases h : k = n
  · subst h; rw [List.getElem?_set_self hn, if_pos rfl]; rfl
  · rw [List.getElem?_set_ne (fun hh => h hh.symm), if_neg h]
theorem its_none {X : List (Option Et)} {n : Nat} (hn : n < X.length) : ∀ k, its (X.set n none) k = (its X k).filter fun p => decide (p.1 ≠ n)
  | 0 => rfl
  | k + 1 => by
    unfold its
    rw [its_none hn k, List.filter_append, join_set hn]
    congr 1
    by_cases h : k = n
    · subst h
      rw [if_pos rfl]
      cases (X[k]?).join <;> simp [itO]
    · rw [if_neg h]
      cases (X[k]?).join <;> simp [itO, h]
theorem its_ge {X : List (Option Et)} {n : Nat} {o : Option Et} (hn : n < X.length) : ∀ k, k ≤ n → its (X.set n o) k = its X k
  | 0, _ => rfl
  | k + 1, h => by
    unfold its
    rw [its_ge hn k (by omega), join_set hn, if_neg (by omega)]
/-- the slots before the first free one are the first entries -/
theorem its_run {X : List (Option Et)} {n : Nat} (h : ∀ j, j < n → ∃ x, X[j]? = some (some x)) : ∀ k, k ≤ n → (its X k).length = k ∧ ∀ j x, j < k → X[j]? = some (some x) → (its X k)[j]? = some (j, x)
  | 0, _ => ⟨rfl, fun j x hj => by omega⟩
  | k + 1, hk => by
    obtain ⟨ih1, ih2⟩ := its_run h k (by omega)
    obtain ⟨z, hz⟩ := h k (by omega)
    have e : its X (k + 1) = its X k ++ [(k, z)] := by
      show its X k ++ itO k (X[k]?).join = _
      rw [hz]; rfl
    rw [e]
    refine ⟨by simp [ih1], fun j x hj hx => ?_⟩
    rcases Nat.lt_or_ge j k with hjk | hjk
    · rw [List.getElem?_append_left (by omega)]; exact ih2 j x hjk hx
    · obtain rfl : j = k := by omega
      rw [hz] at hx
      cases hx
      rw [List.getElem?_append_right (by omega), ih1, Nat.sub_self]; rfl
/-- an entry more, at the first free slot -/
theorem its_put {X : List (Option Et)} {n : Nat} {y : Et} (hn : n < X.length) (hf : X[n]? = some none) (h : ∀ j, j < n → ∃ x, X[j]? = some (some x)) : ∀ k, n < k → its (X.set n (some y)) k = (its X k).take n ++ [(n, y)] ++ (its X k).drop n
  | 0, hk => by omega
  | k + 1, hk => by
    obtain ⟨r1, r2⟩ := its_run h n (Nat.le_refl _)
    rcases Nat.lt_or_ge n k with h1 | h1
    · have hl : n ≤ (its X k).length := by
        have : ∀ d, n ≤ (its X (n + d)).length := by
          intro d
          induction d with
          | zero => show n ≤ (its X n).length; omega
          | succ d ih =>
            show n ≤ (its X (n + d) ++ _).length
            rw [List.length_append]; omega
        have := this (k - n)
        rwa [show n + (k - n) = k by omega] at this
      show its _ k ++ itO k _ = _
      rw [its_put hn hf h k h1, join_set hn, if_neg (by omega)]
      show _ = (its X k ++ itO k (X[k]?).join).take n ++ [(n, y)] ++ (its X k ++ itO k (X[k]?).join).drop n
      rw [List.take_append_of_le_length hl, List.drop_append_of_le_length hl]
      simp
    · obtain rfl : n = k := by omega
      show its _ n ++ itO n _ = (its X n ++ itO n (X[n]?).join).take n ++ [(n, y)] ++ (its X n ++ itO n (X[n]?).join).drop n
      rw [its_ge hn n (Nat.le_refl _), join_set hn, if_pos rfl, hf]
      show its X n ++ [(n, y)] = (its X n ++ []).take n ++ [(n, y)] ++ (its X n ++ []).drop n
      rw [List.append_nil, List.take_of_length_le (by omega), List.drop_eq_nil_of_le (by omega), List.append_nil]
theorem its_free {X : List (Option Et)} {n : Nat} {j : Nat} {p : It} (hf : X[n]? = some none) (h : ∀ j, j < n → ∃ x, X[j]? = some (some x)) : ∀ k, n ≤ k → (its X k)[n]? = some p → n < p.1
  | 0, hk, hp => by simp [its] at hp
  | k + 1, hk, hp => by
    obtain ⟨r1, r2⟩ := its_run h n (Nat.le_refl _)
    have hm : p ∈ its X (k + 1) := List.mem_of_getElem? hp
    obtain ⟨j, x⟩ := p
    obtain ⟨h1, h2⟩ := its_mem.1 hm
    show n < j
    rcases Nat.lt_or_ge n j with h3 | h3
    · exact h3
    · exfalso
      rcases Nat.lt_or_ge j n with h4 | h4
      · -- it stands at its own place, and once
        have hd : ∀ (k : Nat) (a b : Nat) (p q : It), (its X k)[a]? = some p → (its X k)[b]? = some q → a < b → p.1 < q.1 := by
          intro k
          induction k with
          | zero => intro a b p q ha; simp [its] at ha
          | succ k ih =>
            intro a b p q ha hb hab
            have e : its X (k + 1) = its X k ++ itO k (X[k]?).join := rfl
            rw [e] at ha hb
            rcases Nat.lt_or_ge b (its X k).length with hbl | hbl
            · rw [List.getElem?_append_left hbl] at hb
              rw [List.getElem?_append_left (by omega)] at ha
              exact ih a b p q ha hb hab
            · rw [List.getElem?_append_right hbl] at hb
              have hq := List.mem_of_getElem? hb
              have hone := (List.getElem?_eq_some_iff.1 hb).1
              have := itO_len k (X[k]?).join
              rw [List.getElem?_append_left (by omega)] at ha
              have hpm : (p.1, p.2) ∈ its X k := List.mem_of_getElem? ha
              have := (its_mem.1 hpm).1
              cases hj : (X[k]?).join with
              | none => rw [hj] at hq; cases hq
              | some z =>
                rw [hj] at hq
                rw [List.mem_singleton.1 hq]
                exact this
        obtain ⟨x', hx'⟩ := h j h4
        have hj := r2 j x' h4 hx'
        have hjk : ∀ d, (its X (n + d))[j]? = some (j, x') := by
          intro d
          induction d with
          | zero => exact hj
          | succ d ih =>
            show (its X (n + d) ++ _)[j]? = _
            rw [List.getElem?_append_left (List.getElem?_eq_some_iff.1 ih).1]; exact ih
        have := hjk (k + 1 - n)
        rw [show n + (k + 1 - n) = k + 1 by omega] at this
        have := hd (k + 1) j n _ _ this hp h4
        simp at this
      · obtain rfl : j = n := by omega
        rw [hf] at h2; cases h2
theorem its_snd {X : List (Option Et)} : ∀ k, k ≤ X.length → (its X k).map (·.2) = ents (X.take k)
  | 0, _ => by simp [its, ents]
  | k + 1, h => by
    obtain ⟨o, hx⟩ : ∃ o, X[k]? = some o := ⟨_, List.getElem?_eq_getElem (by omega)⟩
    unfold its
    have e1 : (X[k]?).join = o := by rw [hx]; rfl
    rw [List.map_append, its_snd k (by omega), e1, ents_take hx]
    cases o <;> rfl
theorem used_ents (X : List (Option Et)) : used X = ((ents X).map size).sum := by
  induction X with
  | nil => rfl
  | cons o r ih =>
    unfold used ents at *
    cases o with
    | none => simpa using ih
    | some x => simpa using ih
theorem cnt_ents (X : List (Option Et)) : cnt X = (ents X).length := by
  induction X with
  | nil => rfl
  | cons o r ih =>
    unfold cnt ents at *
    cases o with
    | none => simpa using ih
    | some x => simpa using ih
/-- one entry of those that were there, looked at -/
def gStep (pd : Et → Bool) (s : St3) (p : It) : St3 := if pd p.2 = true then ⟨s.X.set p.1 none, Lr.out s.tr p.1, Lr.out s.kp p.1⟩ else s
/-- those that go, one by one, are those that go -/
theorem gone_fold {pd : Et → Bool} {s : St3} (hX : s.X.length = 64) : ∀ k, k ≤ 64 → (its s.X k).foldl (gStep pd) s = ⟨gX pd s.X k, gL pd s.X k s.tr, gL pd s.X k s.kp⟩
  | 0, _ => by
    show s = _
    rw [gX_0, gL_0, gL_0]
  | k + 1, h => by
    have hx : s.X[k]? = some s.X[k] := List.getElem?_eq_getElem (by omega)
    unfold its
    rw [List.foldl_append, gone_fold hX k (by omega), hx]
    cases ho : s.X[k] with
    | none =>
      rw [ho] at hx
      rw [gX_same hx rfl, gL_same hx rfl, gL_same hx rfl]; rfl
    | some x =>
      rw [ho] at hx
      show gStep pd _ (k, x) = _
      unfold gStep
      by_cases hp : pd x = true
      · rw [if_pos hp, gX_next hx, gL_out hx hp, gL_out hx hp]
        show _ = (⟨(gX pd s.X k).set k (gq pd (some x)), _, _⟩ : St3)
        rw [show gq pd (some x) = none by simp [gq, hp]]
      · have hp' : pd x = false := by simpa using hp
        rw [if_neg hp, gX_same hx (by simp [gq, hp']), gL_same hx (by simp [qo, hp']), gL_same hx (by simp [qo, hp'])]
/-- the place of the entry that is told, among those by rising numbers -/
def btI (Z : List It) (best : Option Nat) (x : Et) : Bool := match best with
  | none => true
  | some j => match Z[j]? with
    | some q => decide (x.came ≥ q.2.came)
    | none => false
def fdI (url : Bs) (l : List Fd) (Z : List It) : Nat → Option Nat
  | 0 => none
  | k + 1 => match Z[k]? with
    | some p => if (decide (p.2.url = url) && (forE p.2 l && btI Z (fdI url l Z k) p.2)) = true then some k else fdI url l Z k
    | none => fdI url l Z k
theorem fdI_lt {url : Bs} {l : List Fd} {Z : List It} {j : Nat} : ∀ {k : Nat}, fdI url l Z k = some j → j < k ∧ j < Z.length
  | 0, h => by cases h
  | k + 1, h => by
    unfold fdI at h
    cases hz : Z[k]? with
    | none => rw [hz] at h; have := fdI_lt h; omega
    | some p =>
      rw [hz] at h
      dsimp only at h
      split at h
      · cases h
        exact ⟨by omega, (List.getElem?_eq_some_iff.1 hz).1⟩
      · have := fdI_lt h; omega
theorem fdI_slot {url : Bs} {l : List Fd} {X : List (Option Et)} : ∀ k, k ≤ X.length →
    (fdk url l X k = none → fdI url l (its X X.length) (its X k).length = none) ∧ (∀ i, fdk url l X k = some i → ∃ r x, fdI url l (its X X.length) (its X k).length = some r ∧ (its X X.length)[r]? = some (i, x) ∧ X[i]? = some (some x))
  | 0, _ => ⟨fun _ => rfl, fun i h => by cases h⟩
  | k + 1, hk => by
    obtain ⟨ih0, ih1⟩ := fdI_slot (url := url) (l := l) (X := X) k (by omega)
    have hx : X[k]? = some X[k] := List.getElem?_eq_getElem (by omega)
    have hpre : ∀ d, ∃ t, its X (k + 1 + d) = its X (k + 1) ++ t := by
      intro d
      induction d with
      | zero => exact ⟨[], by simp⟩
      | succ d ih =>
        obtain ⟨t, ht⟩ := ih
        refine ⟨t ++ itO (k + 1 + d) (X[k + 1 + d]?).join, ?_⟩
        show its X (k + 1 + d) ++ _ = _
        rw [ht, List.append_assoc]; rfl
    obtain ⟨t, ht⟩ := hpre (X.length - (k + 1))
    rw [show k + 1 + (X.length - (k + 1)) = X.length by omega] at ht
    show (fdS url l X (fdk url l X k) k = none → _) ∧ ∀ i, fdS url l X (fdk url l X k) k = some i → _
    unfold fdS
    cases ho : X[k] with
    | none =>
      have e : its X (k + 1) = its X k := by
        show its X k ++ itO k (X[k]?).join = _
        rw [hx, ho]; simp [itO]
      rw [hx, ho, e]
      exact ⟨ih0, ih1⟩
    | some x =>
      have e : its X (k + 1) = its X k ++ [(k, x)] := by
        show its X k ++ itO k (X[k]?).join = _
        rw [hx, ho]; rfl
      have el : (its X (k + 1)).length = (its X k).length + 1 := by rw [e]; simp
      have hat : (its X X.length)[(its X k).length]? = some (k, x) := by
        rw [ht, e, List.append_assoc, List.getElem?_append_right (Nat.le_refl _), Nat.sub_self]; rfl
      rw [hx, ho, el]
      have hun : fdI url l (its X X.length) ((its X k).length + 1) = if (decide (x.url = url) && (forE x l && btI (its X X.length) (fdI url l (its X X.length) (its X k).length) x)) = true then some (its X k).length else fdI url l (its X X.length) (its X k).length := by
        show (match (its X X.length)[(its X k).length]? with
          | some p => _
          | none => _) = _
        rw [hat]
      rw [hun]
      simp only [Option.join_some]
      have hb : btI (its X X.length) (fdI url l (its X X.length) (its X k).length) x = better X (fdk url l X k) x := by
        unfold btI
        cases hf : fdk url l X k with
        | none => rw [ih0 hf]; rfl
        | some i =>
          obtain ⟨r, z, h1, h2, h3⟩ := ih1 i hf
          rw [h1]
          dsimp only
          rw [h2]
          show _ = decide (x.came ≥ cameOf X i)
          unfold cameOf
          rw [h3]; rfl
      rw [hb]
      by_cases hc : (decide (x.url = url) && (forE x l && better X (fdk url l X k) x)) = true
      · rw [if_pos hc, if_pos hc]
        refine ⟨fun h => (by cases h), fun i h => ?_⟩
        cases h
        exact ⟨_, x, rfl, hat, by rw [hx, ho]⟩
      · rw [if_neg hc, if_neg hc]
        exact ⟨ih0, ih1⟩
end Go.Proofs.YtfofnagocedlgaaGreatDoor.Tx
end
section
/-
  THE DOCUMENT'S STORE (layer 21): out, Used, find, Look, Get, Drop.
-/
set_option maxRecDepth 100000
set_option linter.unusedVariables false
set_option linter.unusedSectionVars false
set_option linter.unusedSimpArgs false
set_option maxHeartbeats 0
namespace Go.Proofs.YtfofnagocedlgaaGreatDoor.Tx
open Go Sh Sl
open Go.RowKit
attribute [local irreducible] condK ArK NilK OpK FnK StK joinK loopK DrawK andK PuK NxK EnK vS uS bS callS invokeS
abbrev itC (p : It) : List Value := .int .i64 (p.1 : Int) :: ec p.2
def dI (p : It) := (p.1, dE p.2)
def itcs (Z : List It) : List Value := (Z.map fun p => itC p).flatten
theorem itcs_app (a b : List It) : itcs (a ++ b) = itcs a ++ itcs b := by simp [itcs]
@[simp] theorem itcs_len (Z : List It) : (itcs Z).length = Z.length * 10 := flat_len (fun p => itC p) 10 (fun _ => rfl) Z
structure ROk (M : Hp) (X : List (Option Et)) (tr kp : List Int) (bytes most : Nat) (Z : List It) (a : Option Addr) (c : Nat) : Prop where
  ok : SOk M X tr kp bytes most
  nd : (tr ++ kp).Nodup
  ids : ∀ x, x ∈ tr ++ kp → 0 ≤ x ∧ x < 64
  eq : Z.map dI = (its X 64).map dI
  rd : RdM M a ((Z.map itC).flatten)
  en : ∀ p ∈ Z, RdEM M p.2 ∧ EB p.2
  cap : Z.length ≤ c
def RS (M : Hp) (b : Nat) (X : List (Option Et)) (tr kp : List Int) (bytes most : Nat) : HProp := exs fun (q : Nat × List It × Option Addr × Nat) =>
  sepL [pur (ROk M X tr kp bytes most q.2.1 q.2.2.1 q.2.2.2), pt b [.slice q.2.2.1 q.2.1.length q.2.2.2, ptr q.1, .int .i64 bytes, .int .i64 most], Lr.RRep q.1 tr kp (most * 2 / 3)]
section
variable {e : Env} {ctx ctx' rest R : List HProp} {M : Hp} {b : Nat} {X : List (Option Et)} {tr kp : List Int} {bytes most n : Nat} {Z : List It} {a : Option Addr} {c : Nat}
theorem RS.open {p : WP} (h : ∀ lb Z a c, ROk M X tr kp bytes most Z a c → Ent e (pt b [.slice a (Z : List It).length c, ptr lb, .int .i64 bytes, .int .i64 most] :: Lr.RRep lb tr kp (most * 2 / 3) :: rest) p) : Ent e (RS M b X tr kp bytes most :: rest) p :=
  Ent.exs fun q => Ent.g3 (Ent.pur fun hk => h _ _ _ _ hk)
theorem RS.shut {lb : Nat} (hk : ROk M X tr kp bytes most Z a c) : Imp (pt b [.slice a Z.length c, ptr lb, .int .i64 bytes, .int .i64 most] :: Lr.RRep lb tr kp (most * 2 / 3) :: rest) (RS M b X tr kp bytes most :: rest) :=
  Imp.exs (lb, Z, a, c) (Imp.g3 (Imp.pur hk (Imp.refl _)))
theorem ROk.mono {M' : Hp} (h : ROk M X tr kp bytes most Z a c) (hl : Hp.le M M') : ROk M' X tr kp bytes most Z a c :=
  { h with ok := h.ok.mono hl, rd := h.rd.mono hl, en := fun p hp => ⟨(h.en p hp).1.mono hl, (h.en p hp).2⟩ }
theorem RS.mono {M' : Hp} (hl : Hp.le M M') : Imp (RS M b X tr kp bytes most :: rest) (RS M' b X tr kp bytes most :: rest) := fun _ k =>
  sepL_cons (fun _ ⟨q, hh⟩ => ⟨q, sepL_cons (fun _ (hk : ROk M X tr kp bytes most _ _ _) => hk.mono hl) (fun _ z => z) hh⟩) (fun _ z => z) k
theorem ROk.zl (h : ROk M X tr kp bytes most Z a c) : Z.length = (its X 64).length := by simpa using congrArg List.length h.eq
theorem ROk.z64 (h : ROk M X tr kp bytes most Z a c) : Z.length ≤ 64 := by rw [h.zl]; exact its_len X 64
theorem ROk.lens (h : ROk M X tr kp bytes most Z a c) : tr.length ≤ 64 ∧ kp.length ≤ 64 := by
  have := Lr.len_le 64 _ h.nd h.ids
  rw [List.length_append] at this
  omega
theorem ROk.at (h : ROk M X tr kp bytes most Z a c) {i : Nat} {p : It} (hp : Z[i]? = some p) : ∃ x, (its X 64)[i]? = some (p.1, x) ∧ dE p.2 = dE x ∧ X[p.1]? = some (some x) ∧ p.1 < 64 := by
  have := congrArg (fun l => l[i]?) h.eq
  simp only [List.getElem?_map, hp, Option.map_some] at this
  cases hi : (its X 64)[i]? with
  | none => rw [hi] at this; cases this
  | some q =>
    rw [hi] at this
    simp only [Option.map_some, Option.some.injEq, dI, Prod.mk.injEq] at this
    obtain ⟨j, x⟩ := q
    simp only at this
    obtain ⟨h1, h2⟩ := this
    obtain ⟨g1, g2⟩ := its_mem.1 (List.mem_of_getElem? hi)
    exact ⟨x, by rw [h1], h2, by rw [h1]; exact g2, by rw [h1]; exact g1⟩
theorem filt_eq {n : Nat} : ∀ {Z W : List It}, Z.map dI = W.map dI → (Z.filter fun p => decide (p.1 ≠ n)).map dI = (W.filter fun p => decide (p.1 ≠ n)).map dI
  | [], [], _ => rfl
  | [], _ :: _, h => by cases h
  | _ :: _, [], h => by cases h
  | p :: Z, q :: W, h => by
    simp only [List.map_cons, List.cons.injEq] at h
    have h1 : p.1 = q.1 := (Prod.mk.inj h.1).1
    have ih := filt_eq (n := n) h.2
    by_cases hn : q.1 = n
    · simp only [List.filter_cons, h1, hn]
      simpa using ih
    · simp only [List.filter_cons, h1, hn, ne_eq, not_false_eq_true, decide_true, if_true, List.map_cons, h.1]
      rw [← ih]
theorem out_sub {l : List Int} {x y : Int} (h : y ∈ Lr.out l x) : y ∈ l := (List.mem_filter.1 h).1
theorem rout_spec {K : Value → WP} {i : Nat} {x : Et} (hx : X[i]? = some (some x)) (h : ∀ M', Hp.le M M' → Ent e (RS M' b (X.set i none) (Lr.out tr i) (Lr.out kp i) bytes most :: Sl.ro M' :: rest) (K (.tuple #[]))) :
    Ent e (RS M b X tr kp bytes most :: Sl.ro M :: rest) (ref21_Store_out (ptr b) (i : Int) K) := by
  (refine Ent.fn ref21_Store_out_ok ?_; unfold ref21_Store_out_sh)
  refine RS.open fun lb Z a c hk => ?_
  have hz := hk.z64
  have hil := (List.getElem?_eq_some_iff.1 hx).1
  refine Ent.rngL1 (k0 := .raw) Z.length (fun k (v : Value) => (exs fun (q : Option Addr × Nat) => sepL [pur (v = .slice q.1 ((Z.take k).filter fun p => decide (p.1 ≠ i)).length q.2), SlO q.1 ((Z.take k).filter fun p => decide (p.1 ≠ i)).length q.2 10 (itcs ((Z.take k).filter fun p => decide (p.1 ≠ i)))]) :: pt b [.slice a Z.length c, ptr lb, .int .i64 bytes, .int .i64 most] :: Sl.ro M :: Lr.RRep lb tr kp (most * 2 / 3) :: rest) rfl ?_ ?_
  · refine Imp.exs (none, 0) (Imp.g2 (Imp.pur rfl ?_))
    refine Imp.trans (b := SlO none 0 0 10 [] :: pt b [.slice a Z.length c, ptr lb, .int .i64 bytes, .int .i64 most] :: Lr.RRep lb tr kp (most * 2 / 3) :: Sl.ro M :: rest) (Imp.slN (sz := 10) (Imp.refl _)) ?_
    show Imp _ (SlO none 0 0 10 [] :: _)
    (focus ((repeat ((with_reducible apply Imp.pick); (repeat (first | exact Pick.hd | apply Pick.tl)))); (repeat (first | exact Imp.refl _ | exact Imp.nil _ | apply Imp.drop)); done))
  intro k hk2 K' hK v
  refine Ent.exs fun ⟨a3, c3⟩ => Ent.g2 (Ent.pur fun hv => ?_)
  dsimp only at hv
  dsimp only
  subst hv
  have hfl : ((Z.take k).filter fun p => decide (p.1 ≠ i)).length ≤ 64 := Nat.le_trans (List.length_filter_le _ _) (by simp; omega)
  (refine Ent.go ?_)
  by_cases hl : k < Z.length
  · obtain ⟨p, hp⟩ : ∃ p, Z[k]? = some p := ⟨_, List.getElem?_eq_getElem hl⟩
    have hp' : Z[(k : Int).toNat]? = some p := hp
    have hnx : ((Z.take (k + 1)).filter fun p => decide (p.1 ≠ i)) = ((Z.take k).filter fun p => decide (p.1 ≠ i)) ++ (if p.1 = i then [] else [p]) := by
      rw [take_snoc hp, List.filter_append]
      by_cases h1 : p.1 = i <;> simp [h1]
    refine Ent.wT ?_
    (refine Ent.go ?_)
    refine Ent.wix hk.rd hp fun b1 o1 hp1 => ?_
    (refine Ent.gp ?_)
    refine Ent.condN (fun h1 => ?_) fun h1 => ?_
    · have h1' : p.1 ≠ i := by omega
      rw [if_neg h1'] at hnx
      (refine Ent.go ?_)
      refine Ent.wiAm (f := itC) (hr := hk.rd) ?_
      refine Ent.app1 (sz := 10) (cs := itC p) (fun a4 c4 => ?_)
      refine Ent.war ?_
      refine Ent.imp ?_ (hK hl _)
      refine Imp.exs (a4, c4) (Imp.g2 (Imp.pur (by rw [hnx]; simp) ?_))
      rw [hnx, itcs_app, List.length_append]
      show Imp _ (SlO a4 (_ + 1) c4 10 (_ ++ itcs [p]) :: _)
      rw [show itcs [p] = itC p by simp [itcs]]
      (focus ((repeat ((with_reducible apply Imp.pick); (repeat (first | exact Pick.hd | apply Pick.tl)))); (repeat (first | exact Imp.refl _ | exact Imp.nil _ | apply Imp.drop)); done))
    · have h1' : p.1 = i := by omega
      rw [if_pos h1', List.append_nil] at hnx
      refine Ent.war ?_
      refine Ent.imp ?_ (hK hl _)
      refine Imp.exs (a3, c3) (Imp.g2 (Imp.pur (by rw [hnx]) ?_))
      rw [hnx]
      (focus ((repeat ((with_reducible apply Imp.pick); (repeat (first | exact Pick.hd | apply Pick.tl)))); (repeat (first | exact Imp.refl _ | exact Imp.nil _ | apply Imp.drop)); done))
  · have hke : k = Z.length := by omega
    rw [hke, List.take_length] at hfl ⊢
    refine Ent.wF ?_
    (refine Ent.go ?_)
    refine Ent.imp (ctx' := Lr.RRep lb tr kp (most * 2 / 3) :: SlO a3 (Z.filter fun p => decide (p.1 ≠ i)).length c3 10 (itcs (Z.filter fun p => decide (p.1 ≠ i))) :: Sl.ro M :: pt b [.slice a3 (Z.filter fun p => decide (p.1 ≠ i)).length c3, ptr lb, .int .i64 bytes, .int .i64 most] :: rest) (by (focus ((repeat ((with_reducible apply Imp.pick); (repeat (first | exact Pick.hd | apply Pick.tl)))); (repeat (first | exact Imp.refl _ | exact Imp.nil _ | apply Imp.drop)); done))) ?_
    have hmem := (hk.ok.mem i).1 ⟨x, hx⟩
    have hi64 : i < 64 := by have := hk.ok.len; omega
    have hout := hk.ok.out hx
    refine Lr.rremove_spec hk.lens.1 hk.lens.2 (fun hno => absurd (by unfold Lr.toC; rw [if_neg (by omega), if_pos hmem]) hno) fun _ _ _ => ?_
    refine Ent.imp (ctx' := SlO a3 (Z.filter fun p => decide (p.1 ≠ i)).length c3 10 (itcs (Z.filter fun p => decide (p.1 ≠ i))) :: Sl.ro M :: Lr.RRep lb (Lr.out tr i) (Lr.out kp i) (most * 2 / 3) :: pt b [.slice a3 (Z.filter fun p => decide (p.1 ≠ i)).length c3, ptr lb, .int .i64 bytes, .int .i64 most] :: rest) (by (focus ((repeat ((with_reducible apply Imp.pick); (repeat (first | exact Pick.hd | apply Pick.tl)))); (repeat (first | exact Imp.refl _ | exact Imp.nil _ | apply Imp.drop)); done))) ?_
    refine Ent.keepS fun M' hM hr _ hc _ => ?_
    refine Ent.imp ?_ (h M' hM)
    refine Imp.trans (b := pt b [.slice a3 (Z.filter fun p => decide (p.1 ≠ i)).length c3, ptr lb, .int .i64 bytes, .int .i64 most] :: Lr.RRep lb (Lr.out tr i) (Lr.out kp i) (most * 2 / 3) :: Sl.ro M' :: rest) (by (focus ((repeat ((with_reducible apply Imp.pick); (repeat (first | exact Pick.hd | apply Pick.tl)))); (repeat (first | exact Imp.refl _ | exact Imp.nil _ | apply Imp.drop)); done))) ?_
    refine RS.shut ⟨hout.mono hM, ?_, ?_, ?_, hr, fun p hp => ?_, hc⟩
    · have hnd := Lr.nodup_app.1 hk.nd
      exact Lr.nodup_app.2 ⟨hnd.1.filter _, hnd.2.1.filter _, fun y hy hy2 => hnd.2.2 y (out_sub hy) (out_sub hy2)⟩
    · intro y hy
      refine hk.ids y ?_
      rcases List.mem_append.1 hy with hy | hy
      · exact List.mem_append_left _ (out_sub hy)
      · exact List.mem_append_right _ (out_sub hy)
    · rw [its_none (by omega)]
      exact filt_eq hk.eq
    · have hp2 := (List.mem_filter.1 hp).1
      exact ⟨(hk.en p hp2).1.mono hM, (hk.en p hp2).2⟩
end
end Go.Proofs.YtfofnagocedlgaaGreatDoor.Tx
end
section
/-
  THE DOCUMENT'S STORE (layer 21): New, Used, find, Look, Get, Drop.
-/
set_option maxRecDepth 100000
set_option linter.unusedVariables false
set_option linter.unusedSectionVars false
set_option linter.unusedSimpArgs false
set_option maxHeartbeats 0
namespace Go.Proofs.YtfofnagocedlgaaGreatDoor.Tx
open Go Sh Sl
open Go.RowKit
attribute [local irreducible] condK ArK NilK OpK FnK StK joinK loopK DrawK andK PuK NxK EnK vS uS bS callS invokeS
theorem zs_size : ∀ {Z W : List It}, Z.map dI = W.map dI → (Z.map fun p => size p.2) = W.map fun p => size p.2
  | [], [], _ => rfl
  | [], _ :: _, h => by cases h
  | _ :: _, [], h => by cases h
  | p :: Z, q :: W, h => by
    simp only [List.map_cons, List.cons.injEq] at h ⊢
    exact ⟨size_of (Prod.mk.inj h.1).2, zs_size h.2⟩
theorem fdI_eq {url : Bs} {l : List Fd} : ∀ {Z W : List It}, Z.map dI = W.map dI → ∀ k, fdI url l Z k = fdI url l W k
  | Z, W, h, 0 => rfl
  | Z, W, h, k + 1 => by
    have ih := fdI_eq (url := url) (l := l) h k
    have hat : ∀ j, (Z[j]?).map dI = (W[j]?).map dI := fun j => by rw [← List.getElem?_map, ← List.getElem?_map, h]
    unfold fdI
    rw [ih]
    cases hz : Z[k]? with
    | none =>
      have := hat k
      rw [hz] at this
      cases hw : W[k]? with
      | none => rfl
      | some q => rw [hw] at this; cases this
    | some p =>
      have := hat k
      rw [hz] at this
      cases hw : W[k]? with
      | none => rw [hw] at this; cases this
      | some q =>
        rw [hw] at this
        simp only [Option.map_some, Option.some.injEq] at this
        have hd := (Prod.mk.inj this).2
        dsimp only
        have e1 : p.2.url = q.2.url := (dE_iff.1 hd).1
        have e2 : forE p.2 l = forE q.2 l := by
          obtain ⟨_, _, _, h4, h5⟩ := dE_iff.1 hd
          have h6 : p.2.fl = q.2.fl := by simp only [dR, Prod.mk.injEq] at h5; exact h5.2.2.2.1
          unfold forE
          rw [h4, h6]
        have e3 : btI Z (fdI url l W k) p.2 = btI W (fdI url l W k) q.2 := by
          unfold btI
          cases fdI url l W k with
          | none => rfl
          | some j =>
            dsimp only
            have hj := hat j
            cases hzj : Z[j]? with
            | none =>
              rw [hzj] at hj
              cases hwj : W[j]? with
              | none => rfl
              | some q' => rw [hwj] at hj; cases hj
            | some p' =>
              rw [hzj] at hj
              cases hwj : W[j]? with
              | none => rw [hwj] at hj; cases hj
              | some q' =>
                rw [hwj] at hj
                simp only [Option.map_some, Option.some.injEq] at hj
                have hd' := (Prod.mk.inj hj).2
                dsimp only
                rw [(dE_iff.1 hd).2.2.1, (dE_iff.1 hd').2.2.1]
        rw [e1, e2, e3]
theorem toT_mem {tr kp : List Int} {most : Nat} {i : Int} (hi : i ∈ tr ++ kp) (y : Int) : y ∈ tr ++ kp ↔ y ∈ (Lr.toT tr kp most i).1 ++ (Lr.toT tr kp most i).2 := get_s_spec.toT_mem hi y
theorem out_nd {l : List Int} (h : l.Nodup) (x : Int) : (Lr.out l x).Nodup := h.filter _
theorem out_in {l : List Int} {x y : Int} : y ∈ Lr.out l x ↔ y ∈ l ∧ y ≠ x := by unfold Lr.out; simp [List.mem_filter]
theorem toT_nd {tr kp : List Int} {most : Nat} {i : Int} (hn : (tr ++ kp).Nodup) (hi : i ∈ tr ++ kp) : ((Lr.toT tr kp most i).1 ++ (Lr.toT tr kp most i).2).Nodup := by
  obtain ⟨n1, n2, n3⟩ := Lr.nodup_app.1 hn
  have hk1 : (i :: Lr.out kp i).Nodup := List.nodup_cons.2 ⟨fun h => (out_in.1 h).2 rfl, out_nd n2 i⟩
  unfold Lr.toT
  split
  · generalize hg : (i :: Lr.out kp i).getLast (by simp) = g
    have hgm : g ∈ i :: Lr.out kp i := by rw [← hg]; exact List.getLast_mem _
    refine Lr.nodup_app.2 ⟨List.nodup_cons.2 ⟨fun h => ?_, out_nd n1 i⟩, out_nd hk1 g, fun x hx hx2 => ?_⟩
    · rcases List.mem_cons.1 hgm with h2 | h2
      · exact (out_in.1 h).2 h2
      · exact n3 g (out_in.1 h).1 (out_in.1 h2).1
    · obtain ⟨h2, h3⟩ := out_in.1 hx2
      rcases List.mem_cons.1 hx with h1 | h1
      · exact h3 h1
      · rcases List.mem_cons.1 h2 with h4 | h4
        · exact (out_in.1 h1).2 h4
        · exact n3 x (out_in.1 h1).1 (out_in.1 h4).1
  · refine Lr.nodup_app.2 ⟨out_nd n1 i, hk1, fun x hx hx2 => ?_⟩
    rcases List.mem_cons.1 hx2 with h4 | h4
    · exact (out_in.1 hx).2 h4
    · exact n3 x (out_in.1 hx).1 (out_in.1 h4).1
section
variable {e : Env} {ctx ctx' rest R : List HProp} {M : Hp} {b : Nat} {X : List (Option Et)} {tr kp : List Int} {bytes most n : Nat} {Z : List It} {a : Option Addr} {c lb : Nat}
theorem ROk.used (h : ROk M X tr kp bytes most Z a c) : (Z.map fun p => size p.2).sum = used X := by
  rw [zs_size h.eq, used_ents, show (fun p : It => size p.2) = size ∘ (·.2) from rfl, ← List.map_map, its_snd 64 (Nat.le_of_eq h.ok.len.symm), List.take_of_length_le (Nat.le_of_eq h.ok.len)]
def zu (Z : List It) (k : Nat) : Nat := ((Z.take k).map fun p => size p.2).sum
theorem zu_next {k : Nat} {p : It} (h : Z[k]? = some p) : zu Z (k + 1) = zu Z k + size p.2 := by
  unfold zu
  rw [take_snoc h]; simp
theorem zu_le {k : Nat} : zu Z k ≤ (Z.map fun p => size p.2).sum := by
  unfold zu
  conv => rhs; rw [← List.take_append_drop k Z]
  rw [List.map_append, List.sum_append]; omega
theorem rused_spec {K : Int → WP} {v1 : Value} {by_ ms : Int} (hk : ROk M X tr kp bytes most Z a c) (hh : Has rest (pt b [.slice a Z.length c, v1, .int .i64 by_, .int .i64 ms])) (hM : Has rest (Sl.ro M)) (h : Ent e rest (K (used X : Int))) :
    Ent e rest (ref21_Store_Used (ptr b) K) := by
  (refine Ent.fn ref21_Store_Used_ok ?_; unfold ref21_Store_Used_sh)
  have hus := hk.ok.us
  have hby := hk.ok.by_
  have hu := hk.used
  have hz := hk.z64
  refine Ent.rngL1 (k0 := .int .i64) Z.length (fun k (v : Int) => pur (v = (zu Z k : Int)) :: rest) rfl ?_ ?_
  · exact Imp.pur rfl (Imp.refl _)
  intro k hk2 K' hK v
  refine Ent.pur fun hv => ?_
  subst hv
  have hle := zu_le (Z := Z) (k := k)
  refine Ent.wnR (hh := hh) ?_ (hv := rfl)
  refine Ent.wlen ?_
  by_cases hl : k < Z.length
  · obtain ⟨p, hp⟩ : ∃ p, Z[k]? = some p := ⟨_, List.getElem?_eq_getElem hl⟩
    obtain ⟨hr1, hr2⟩ := hk.en p (List.mem_of_getElem? hp)
    have hle2 := zu_le (Z := Z) (k := k + 1)
    have hnx := zu_next hp
    refine Ent.wT ?_
    refine Ent.wnR (hh := hh) ?_ (hv := rfl)
    refine Ent.wix hk.rd hp fun b1 o1 hp1 => ?_
    refine Ent.wfAp (l := itC p) (cs := ec p.2) ?_ (hM := hM)
    refine ref_size_spec (hr1.rd hM) hr2 ?_
    have e1 : ((zu Z k : Int) + (size p.2 : Int)) = (zu Z (k + 1) : Int) := by rw [hnx]; omega
    refine Ent.war ?_ (by rw [e1]; exact in_i64 (by omega) (by omega))
    refine Ent.war ?_
    refine Ent.imp ?_ (hK hl _)
    exact Imp.pur e1 (Imp.refl _)
  · have hke : k = Z.length := by omega
    refine Ent.wF ?_
    have e1 : zu Z k = used X := by
      unfold zu
      rw [hke, List.take_length, hu]
    rw [e1]
    exact h
/-- the place told, as a number -/
def ixI (o : Option Nat) : Int := match o with
  | some i => (i : Int)
  | none => -1
theorem rfind_spec {K : Int → WP} {v1 : Value} {by_ ms : Int} {url : Bs} {a2 : Option Addr} {c2 : Nat} {l : List Fd} (hk : ROk M X tr kp bytes most Z a c) (hh : Has rest (pt b [.slice a Z.length c, v1, .int .i64 by_, .int .i64 ms])) (hM : Has rest (Sl.ro M)) (hl : Rd rest a2 (fc l)) (hlb : fsz l ≤ 268435456)
    (h : Ent e rest (K (ixI (fdI url l Z Z.length)))) : Ent e rest (ref21_Store_find (ptr b) (ba url) (.slice a2 l.length c2) K) := by
  (refine Ent.fn ref21_Store_find_ok ?_; unfold ref21_Store_find_sh)
  have hz := hk.z64
  refine Ent.rngL1 (k0 := .int .i64) Z.length (fun k (v : Int) => pur (v = ixI (fdI url l Z k)) :: rest) rfl ?_ ?_
  · exact Imp.pur rfl (Imp.refl _)
  intro k hk2 K' hK v
  refine Ent.pur fun hv => ?_
  subst hv
  refine Ent.wnR (hh := hh) ?_ (hv := rfl)
  refine Ent.wlen ?_
  by_cases hkl : k < Z.length
  rotate_left
  · have hke : k = Z.length := by omega
    refine Ent.wF ?_
    rw [hke]
    exact h
  obtain ⟨p, hp⟩ : ∃ p, Z[k]? = some p := ⟨_, List.getElem?_eq_getElem hkl⟩
  obtain ⟨hr1, hr2⟩ := hk.en p (List.mem_of_getElem? hp)
  have hnx : fdI url l Z (k + 1) = if (decide (p.2.url = url) && (forE p.2 l && btI Z (fdI url l Z k) p.2)) = true then some k else fdI url l Z k := by
    show (match Z[k]? with
      | some p => _
      | none => _) = _
    rw [hp]
  refine Ent.wT ?_
  refine Ent.join1 (kd := .bool) (fun t => pur (t = (decide (p.2.url = url) && forE p.2 l)) :: rest) ?_ ?_
  rotate_left
  · intro j3 hj3
    refine Ent.wnR (hh := hh) ?_ (hv := rfl)
    refine Ent.wix hk.rd hp fun b1 o1 hp1 => ?_
    refine Ent.woR ?_
    refine Ent.wfSq (l := itC p) ?_ (hM := hM)
    refine Ent.woB ?_
    refine Ent.cond (fun hc => ?_) fun hc => ?_
    · have hu : p.2.url = url := by simpa [ba_inj] using hc
      refine Ent.wnR (hh := hh) ?_ (hv := rfl)
      refine Ent.wix hk.rd hp fun b1 o1 hp1 => ?_
      refine Ent.wfAp (l := itC p) (cs := ec p.2) ?_ (hM := hM)
      refine ref_for_spec (hr1.rd hM) hr2 hl hlb ?_
      refine (hj3 _).imp (Imp.pur ?_ (Imp.refl _))
      rw [decide_eq_true hu]; rfl
    · have hu : p.2.url ≠ url := by simpa [ba_inj] using hc
      refine (hj3 _).imp (Imp.pur ?_ (Imp.refl _))
      rw [decide_eq_false hu]; rfl
  intro t
  refine Ent.pur fun ht => ?_
  subst ht
  have next : ∀ o : Option Nat, o = fdI url l Z (k + 1) → Ent e rest (ArK .i64 ((k : Int) + 1) fun t17 => K' (ixI o) t17) := fun o ho => by
    refine Ent.war ?_
    refine (hK hkl _).imp (Imp.pur (by rw [ho]) (Imp.refl _))
  refine Ent.cond (fun hc => ?_) fun hc => ?_
  · rw [Bool.and_eq_true] at hc
    rw [hc.1, hc.2, Bool.true_and, Bool.true_and] at hnx
    refine Ent.draw rest (Imp.refl _) ?_
    cases hb : fdI url l Z k with
    | none =>
      rw [hb] at hnx
      refine Ent.wT ?_
      exact next (some k) (by rw [hnx]; rfl)
    | some j =>
      have hjl := (fdI_lt hb).2
      obtain ⟨q, hq⟩ : ∃ q, Z[j]? = some q := ⟨_, List.getElem?_eq_getElem hjl⟩
      rw [hb] at hnx
      simp only [btI, hq] at hnx
      refine Ent.wF ?_ (decide_eq_false (by show ¬ ((j : Int) < 0); omega))
      refine Ent.whR (hh := hh) ?_ (hv := rfl)
      refine Ent.wixQ hk.rd hp fun b1 o1 hp1 => ?_
      refine Ent.wqR ?_
      refine Ent.wgIq (l := itC p) ?_ (hM := hM)
      refine Ent.whR (hh := hh) ?_ (hv := rfl)
      refine Ent.wixQ hk.rd hq fun b2 o2 hp2 => ?_
      refine Ent.wqR ?_
      refine Ent.wgIq (l := itC q) ?_ (hM := hM)
      refine Ent.condD (fun hge => ?_) fun hge => ?_
      · exact next (some k) (by rw [hnx, if_pos (decide_eq_true hge)])
      · exact next (some j) (by rw [hnx, if_neg (by simpa using hge)])
  · have hf : (decide (p.2.url = url) && (forE p.2 l && btI Z (fdI url l Z k) p.2)) = false := by rw [← Bool.and_assoc, hc, Bool.false_and]
    rw [hf] at hnx
    exact next _ hnx.symm
theorem fdI_its {url : Bs} {l : List Fd} (hk : ROk M X tr kp bytes most Z a c) : (fdk url l X 64 = none → fdI url l Z Z.length = none) ∧ ∀ i, fdk url l X 64 = some i → ∃ r p x, fdI url l Z Z.length = some r ∧ Z[r]? = some p ∧ p.1 = i ∧ dE p.2 = dE x ∧ X[i]? = some (some x) := by
  have hX := hk.ok.len
  obtain ⟨h1, h2⟩ := fdI_slot (url := url) (l := l) (X := X) X.length (Nat.le_refl _)
  rw [hX] at h1 h2
  rw [fdI_eq hk.eq, hk.zl]
  refine ⟨h1, fun i hi => ?_⟩
  obtain ⟨r, x, g1, g2, g3⟩ := h2 i hi
  have hr := (fdI_lt g1).2
  rw [← hk.zl] at hr
  obtain ⟨p, hp⟩ : ∃ p, Z[r]? = some p := ⟨_, List.getElem?_eq_getElem hr⟩
  obtain ⟨x', e1, e2, e3, _⟩ := hk.at hp
  rw [g2] at e1
  simp only [Option.some.injEq, Prod.mk.injEq] at e1
  obtain ⟨e4, rfl⟩ := e1
  exact ⟨r, p, x, g1, hp, e4.symm, e2, g3⟩
theorem rlook_spec {K : Value → Bool → WP} {url : Bs} {a2 : Option Addr} {c2 : Nat} {l : List Fd} (hl : Rd rest a2 (fc l)) (hlb : fsz l ≤ 268435456)
    (h0 : fdk url l X 64 = none → Ent e (RS M b X tr kp bytes most :: Sl.ro M :: rest) (K (.agg (ec ez).toArray) false))
    (h1 : ∀ i x y, fdk url l X 64 = some i → X[i]? = some (some x) → dE y = dE x → EB x → Ent e (OwnE y (RS M b X tr kp bytes most :: Sl.ro M :: rest)) (K (.agg (ec y).toArray) true)) :
    Ent e (RS M b X tr kp bytes most :: Sl.ro M :: rest) (ref21_Store_Look (ptr b) (ba url) (.slice a2 l.length c2) K) := by
  (refine Ent.fn ref21_Store_Look_ok ?_; unfold ref21_Store_Look_sh)
  refine Ent.alloc' fun tb => ?_
  refine Ent.bring (A := RS M b X tr kp bytes most) ?_
  refine RS.open fun lb Z a c hk => ?_
  refine rfind_spec hk .hd (by (repeat (first | exact Has.hd | apply Has.tl))) (hl.mono (by (focus (repeat (first | exact Imp.refl _ | exact Imp.nil _ | apply Imp.drop))))) hlb ?_
  obtain ⟨f1, f2⟩ := fdI_its (url := url) (l := l) hk
  cases hf : fdk url l X 64 with
  | none =>
    rw [f1 hf]
    refine Ent.wT ?_
    (refine Ent.go ?_)
    refine Ent.wrA ?_
    refine Ent.imp ?_ (h0 hf)
    exact (Imp.trans (by (focus ((repeat ((with_reducible apply Imp.pick); (repeat (first | exact Pick.hd | apply Pick.tl)))); (repeat (first | exact Imp.refl _ | exact Imp.nil _ | apply Imp.drop)); done))) (RS.shut hk))
  | some i =>
    obtain ⟨r, p, x, g1, g2, g3, g4, g5⟩ := f2 i hf
    have hr := (List.getElem?_eq_some_iff.1 g2).1
    obtain ⟨hr1, hr2⟩ := hk.en p (List.mem_of_getElem? g2)
    rw [g1]
    refine Ent.wF ?_ (decide_eq_false (by show ¬ ((r : Int) < 0); omega))
    (refine Ent.go ?_)
    refine Ent.wix (i := r) hk.rd g2 fun b1 o1 hp1 => ?_
    refine Ent.wfAp (l := itC p) (cs := ec p.2) ?_
    refine own_spec (hr1.rd (by (repeat (first | exact Has.hd | apply Has.tl)))) hr2 fun y hy => ?_
    (refine Ent.go ?_)
    refine Ent.wrA ?_
    refine Ent.imp ?_ (h1 i x y hf g5 (hy.trans g4) (hk.ok.rd x (List.mem_of_getElem? g5)).2)
    refine Imp.trans (b := pt b [.slice a Z.length c, ptr lb, .int .i64 bytes, .int .i64 most] :: Lr.RRep lb tr kp (most * 2 / 3) :: OwnE y (Sl.ro M :: rest)) (by (focus ((repeat ((with_reducible apply Imp.pick); (repeat (first | exact Pick.hd | apply Pick.tl)))); (repeat (first | exact Imp.refl _ | exact Imp.nil _ | apply Imp.drop)); done))) ?_
    refine (RS.shut hk).trans ?_
    (focus ((repeat ((with_reducible apply Imp.pick); (repeat (first | exact Pick.hd | apply Pick.tl)))); (repeat (first | exact Imp.refl _ | exact Imp.nil _ | apply Imp.drop)); done))
theorem rget_spec {K : Value → Bool → WP} {url : Bs} {a2 : Option Addr} {c2 : Nat} {l : List Fd} (hl : Rd rest a2 (fc l)) (hlb : fsz l ≤ 268435456)
    (h0 : fdk url l X 64 = none → Ent e (RS M b X tr kp bytes most :: Sl.ro M :: rest) (K (.agg (ec ez).toArray) false))
    (h1 : ∀ i x y, fdk url l X 64 = some i → X[i]? = some (some x) → dE y = dE x → EB x → Ent e (OwnE y (RS M b X (Lr.toT tr kp (most * 2 / 3) i).1 (Lr.toT tr kp (most * 2 / 3) i).2 bytes most :: Sl.ro M :: rest)) (K (.agg (ec y).toArray) true)) :
    Ent e (RS M b X tr kp bytes most :: Sl.ro M :: rest) (ref21_Store_Get (ptr b) (ba url) (.slice a2 l.length c2) K) := by
  (refine Ent.fn ref21_Store_Get_ok ?_; unfold ref21_Store_Get_sh)
  refine Ent.alloc' fun tb => ?_
  refine Ent.bring (A := RS M b X tr kp bytes most) ?_
  refine RS.open fun lb Z a c hk => ?_
  refine rfind_spec hk .hd (by (repeat (first | exact Has.hd | apply Has.tl))) (hl.mono (by (focus (repeat (first | exact Imp.refl _ | exact Imp.nil _ | apply Imp.drop))))) hlb ?_
  obtain ⟨f1, f2⟩ := fdI_its (url := url) (l := l) hk
  cases hf : fdk url l X 64 with
  | none =>
    rw [f1 hf]
    refine Ent.wT ?_
    (refine Ent.go ?_)
    refine Ent.wrA ?_
    refine Ent.imp ?_ (h0 hf)
    exact (Imp.trans (by (focus ((repeat ((with_reducible apply Imp.pick); (repeat (first | exact Pick.hd | apply Pick.tl)))); (repeat (first | exact Imp.refl _ | exact Imp.nil _ | apply Imp.drop)); done))) (RS.shut hk))
  | some i =>
    obtain ⟨r, p, x, g1, g2, g3, g4, g5⟩ := f2 i hf
    have hr := (List.getElem?_eq_some_iff.1 g2).1
    obtain ⟨hr1, hr2⟩ := hk.en p (List.mem_of_getElem? g2)
    have hmem := (hk.ok.mem i).1 ⟨x, g5⟩
    have hi64 : i < 64 := by have := hk.ok.len; have := (List.getElem?_eq_some_iff.1 g5).1; omega
    rw [g1]
    refine Ent.wF ?_ (decide_eq_false (by show ¬ ((r : Int) < 0); omega))
    refine Ent.draw [pt b [.slice a Z.length c, ptr lb, .int .i64 bytes, .int .i64 most], Sl.ro M] (by (focus ((repeat ((with_reducible apply Imp.pick); (repeat (first | exact Pick.hd | apply Pick.tl)))); (repeat (first | exact Imp.refl _ | exact Imp.nil _ | apply Imp.drop)); done))) ?_
    (refine Ent.go ?_)
    refine Ent.wixQ (i := r) hk.rd g2 fun b1 o1 hp1 => ?_
    refine Ent.wgIp (l := itC p) ?_
    rw [g3]
    refine Ent.imp (ctx' := Lr.RRep lb tr kp (most * 2 / 3) :: pt b [.slice a Z.length c, ptr lb, .int .i64 bytes, .int .i64 most] :: pt tb (ec ez) :: Sl.ro M :: rest) (by show Imp (_ :: _ :: pt tb (ec ez) :: _) _; (focus ((repeat ((with_reducible apply Imp.pick); (repeat (first | exact Pick.hd | apply Pick.tl)))); (repeat (first | exact Imp.refl _ | exact Imp.nil _ | apply Imp.drop)); done))) ?_
    refine Lr.rtouch_spec hk.lens.1 hk.lens.2 (fun hno => absurd (by unfold Lr.toC; rw [if_neg (by omega), if_pos hmem]) hno) fun _ _ _ => ?_
    (refine Ent.go ?_)
    refine Ent.wix (i := r) hk.rd g2 fun b1 o1 hp1 => ?_
    refine Ent.wfAp (l := itC p) (cs := ec p.2) ?_
    refine own_spec (hr1.rd (by (repeat (first | exact Has.hd | apply Has.tl)))) hr2 fun y hy => ?_
    (refine Ent.go ?_)
    refine Ent.wrA ?_
    refine Ent.imp ?_ (h1 i x y hf g5 (hy.trans g4) (hk.ok.rd x (List.mem_of_getElem? g5)).2)
    refine Imp.trans (b := pt b [.slice a Z.length c, ptr lb, .int .i64 bytes, .int .i64 most] :: Lr.RRep lb (Lr.toT tr kp (most * 2 / 3) i).1 (Lr.toT tr kp (most * 2 / 3) i).2 (most * 2 / 3) :: OwnE y (Sl.ro M :: rest)) (by (focus ((repeat ((with_reducible apply Imp.pick); (repeat (first | exact Pick.hd | apply Pick.tl)))); (repeat (first | exact Imp.refl _ | exact Imp.nil _ | apply Imp.drop)); done))) ?_
    refine (RS.shut (Z := Z) (a := a) (c := c) { hk with ok := { hk.ok with mem := fun j => (hk.ok.mem j).trans (toT_mem hmem _) }, nd := toT_nd hk.nd hmem, ids := fun y hy => hk.ids y ((toT_mem hmem y).2 hy) }).trans ?_
    (focus ((repeat ((with_reducible apply Imp.pick); (repeat (first | exact Pick.hd | apply Pick.tl)))); (repeat (first | exact Imp.refl _ | exact Imp.nil _ | apply Imp.drop)); done))
end
end Go.Proofs.YtfofnagocedlgaaGreatDoor.Tx
end
