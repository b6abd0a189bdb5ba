/- The texts Sf Sg FA Qt So Fl, laid together. -/
import Derived.Deep.Draws
import Derived.Laws.FloatArith
import Derived.Test.YtfofnagocedlgaaGreatDoorKc
import Derived.Test.YtfofnagocedlgaaGreatDoorKe
import Derived.Test.YtfofnagocedlgaaGreatDoorKf
import Derived.Test.YtfofnagocedlgaaGreatDoorKg
section
/-
  THE STORE (layer 21): sizes and 'for whom' of the document; whether entries are the same; copies.
-/
set_option maxRecDepth 100000
set_option linter.unusedVariables false
set_option linter.unusedSectionVars false
set_option linter.unusedSimpArgs false
set_option maxHeartbeats 0
namespace Go.Proofs.YtfofnagocedlgaaGreatDoor.Tx
open Go Sh Sl
open Go.RowKit
attribute [local irreducible] condK ArK NilK OpK FnK StK joinK loopK DrawK andK PuK NxK EnK vS uS bS callS invokeS
def forE (x : Et) (l : List Fd) : Bool := !star (elems x.fl [118, 97, 114, 121]) && decide (sel (nm (elems x.fl [118, 97, 114, 121])) l = x.wl)
section
variable {e : Env} {ctx ctx' rest R : List HProp}
theorem vn_b {x : Et} (hb : EB x) : (nm (elems x.fl [118, 97, 114, 121])).length ≤ 1099511627776 ∧ ∀ n ∈ nm (elems x.fl [118, 97, 114, 121]), n.length ≤ 1099511627776 := by
  have h1 := elems_tot x.fl [118, 97, 114, 121]
  have h2 := nm_len (elems x.fl [118, 97, 114, 121])
  have h3 := hb.f
  refine ⟨by omega, fun n hn => ?_⟩
  have := nm_size (elems x.fl [118, 97, 114, 121]) n hn
  omega
theorem for_spec {K : Bool → WP} {x : Et} {a : Option Addr} {c : Nat} {l : List Fd} (hr : RdE rest x) (hb : EB x) (hl : Rd rest a (fc l)) (hlb : fsz l ≤ 268435456) (h : Ent e rest (K (forE x l))) :
    Ent e rest (store_For (.agg (ec x).toArray) (.slice a l.length c) K) := by
  obtain ⟨hn1, hn2⟩ := vn_b hb
  have h5 := hb.f
  have h4 := hb.w
  have hwl := fsz_len x.wl
  have hsl := sel_len (nm (elems x.fl [118, 97, 114, 121])) l
  (refine Ent.fn store_For_ok ?_; unfold store_For_sh)
  refine Ent.box' fun eb => ?_
  (refine Ent.go ?_)
  refine names_spec (hr.f.tl) (by omega) fun a2 c2 => ?_
  refine Ent.rdS fun hrn _ => ?_
  refine Ent.draw [pt eb (ec x)] (by (focus ((repeat ((with_reducible apply Imp.pick); (repeat (first | exact Pick.hd | apply Pick.tl)))); (repeat (first | exact Imp.refl _ | exact Imp.nil _ | apply Imp.drop)); done))) ?_
  cases hs : star (elems x.fl [118, 97, 114, 121]) with
  | true =>
    refine Ent.wF ?_
    have : forE x l = false := by unfold forE; rw [hs]; rfl
    rw [← this]
    exact Ent.imp (by (focus ((repeat ((with_reducible apply Imp.pick); (repeat (first | exact Pick.hd | apply Pick.tl)))); (repeat (first | exact Imp.refl _ | exact Imp.nil _ | apply Imp.drop)); done))) h
  | false =>
    refine Ent.wT ?_
    (refine Ent.go ?_)
    refine select_spec (hrn _ (by (repeat (first | exact Has.hd | apply Has.tl)))) (hl.tl.tl) (by omega) hn1 hn2 fun a3 c3 => ?_
    refine Ent.wand ?_
    have hrs : ∀ ctx', Has ctx' (SlO a3 (sel (nm (elems x.fl [118, 97, 114, 121])) l).length c3 2 (fc (sel (nm (elems x.fl [118, 97, 114, 121])) l))) → Rd ctx' a3 (fc (sel (nm (elems x.fl [118, 97, 114, 121])) l)) ∨ True := fun _ _ => .inr trivial
    refine Ent.rdS fun hr3 _ => ?_
    refine vary_same_spec (hr3 _ (by (repeat (first | exact Has.hd | apply Has.tl)))) hr.w.tl.tl.tl (by omega) (by omega) ?_
    have : forE x l = decide (sel (nm (elems x.fl [118, 97, 114, 121])) l = x.wl) := by unfold forE; rw [hs]; rfl
    rw [← this]
    exact Ent.imp (by (focus ((repeat ((with_reducible apply Imp.pick); (repeat (first | exact Pick.hd | apply Pick.tl)))); (repeat (first | exact Imp.refl _ | exact Imp.nil _ | apply Imp.drop)); done))) h
theorem ref_for_spec {K : Bool → WP} {x : Et} {a : Option Addr} {c : Nat} {l : List Fd} (hr : RdE rest x) (hb : EB x) (hl : Rd rest a (fc l)) (hlb : fsz l ≤ 268435456) (h : Ent e rest (K (forE x l))) :
    Ent e rest (ref21_For (.agg (ec x).toArray) (.slice a l.length c) K) := by
  obtain ⟨hn1, hn2⟩ := vn_b hb
  have h5 := hb.f
  have h4 := hb.w
  have hwl := fsz_len x.wl
  have hsl := sel_len (nm (elems x.fl [118, 97, 114, 121])) l
  (refine Ent.fn ref21_For_ok ?_; unfold ref21_For_sh)
  refine Ent.box' fun eb => ?_
  (refine Ent.go ?_)
  refine ref_names_spec (hr.f.tl) (by omega) fun a2 c2 => ?_
  refine Ent.rdS fun hrn _ => ?_
  cases hs : star (elems x.fl [118, 97, 114, 121]) with
  | true =>
    refine Ent.wT ?_
    have : forE x l = false := by unfold forE; rw [hs]; rfl
    rw [← this]
    exact Ent.imp (by (focus ((repeat ((with_reducible apply Imp.pick); (repeat (first | exact Pick.hd | apply Pick.tl)))); (repeat (first | exact Imp.refl _ | exact Imp.nil _ | apply Imp.drop)); done))) h
  | false =>
    refine Ent.wF ?_
    refine Ent.draw [pt eb (ec x)] (by (focus ((repeat ((with_reducible apply Imp.pick); (repeat (first | exact Pick.hd | apply Pick.tl)))); (repeat (first | exact Imp.refl _ | exact Imp.nil _ | apply Imp.drop)); done))) ?_
    (refine Ent.go ?_)
    refine ref_select_spec (hrn _ (by (repeat (first | exact Has.hd | apply Has.tl)))) (hl.tl.tl) (by omega) hn1 hn2 fun a3 c3 => ?_
    refine Ent.wand ?_
    refine Ent.rdS fun hr3 _ => ?_
    refine ref_same16_spec (hr3 _ (by (repeat (first | exact Has.hd | apply Has.tl)))) hr.w.tl.tl.tl (by omega) (by omega) ?_
    have : forE x l = decide (sel (nm (elems x.fl [118, 97, 114, 121])) l = x.wl) := by unfold forE; rw [hs]; rfl
    rw [← this]
    exact Ent.imp (by (focus ((repeat ((with_reducible apply Imp.pick); (repeat (first | exact Pick.hd | apply Pick.tl)))); (repeat (first | exact Imp.refl _ | exact Imp.nil _ | apply Imp.drop)); done))) h
theorem lenQ {y : Nat} {s : Bs} {c : Int → WP} (h : Ent e ctx (c s.length)) : Ent e ctx (StK P (Sat e (sepL R)) (.one (.int .i64)) (vS (Builtin.len_ #[9] y #[(.string (ba s))])) c) := by
  refine Ent.stI (st_lenS rfl).still ?_
  simpa [ba, ByteArray.size] using h
theorem ref_size_spec {K : Int → WP} {x : Et} (hr : RdE rest x) (hb : EB x) (h : Ent e rest (K (size x : Int))) : Ent e rest (ref21_Size (.agg (ec x).toArray) K) := by
  have h1 := hb.u
  have h2 := hb.r
  have h3 := hb.b
  have h4 := hb.w
  have h5 := hb.f
  have hw := fzn_le x.wl
  have hf := fzn_le x.fl
  have hwl := fsz_len x.wl
  have hfl := fsz_len x.fl
  (refine Ent.fn ref21_Size_ok ?_; unfold ref21_Size_sh)
  refine Ent.box' fun eb => ?_
  (refine Ent.go ?_)
  obtain ⟨n0, hn0⟩ : ∃ n0 : Int, n0 = 64 + (x.url.length : Int) + (x.rs.length : Int) + (x.bl.length : Int) := ⟨_, rfl⟩
  rw [← hn0]
  refine Ent.rngL1 (k0 := .int .i64) x.wl.length (fun k v => pur (v = n0 + ((fzn (x.wl.take k) : Nat) : Int)) :: pt eb (ec x) :: rest) rfl ?_ ?_
  · exact Imp.pur (by simp [fzn]) (Imp.refl _)
  intro k hk K' hK v
  refine Ent.pur fun hv => ?_
  subst hv
  (refine Ent.go ?_)
  by_cases hkn : k < x.wl.length
  · obtain ⟨f, hf⟩ : ∃ f, x.wl[k]? = some f := ⟨_, List.getElem?_eq_getElem hkn⟩
    have hfm := fsz_mem (List.mem_of_getElem? hf)
    have hs := fzn_snoc (x.wl.take k) f
    rw [← take_snoc hf] at hs
    have hzl := fzn_le (x.wl.take k)
    have hzt := fsz_take x.wl k
    refine Ent.wT ?_ (by simpa using hkn)
    (refine Ent.go ?_)
    refine fdAtQ hr.w.tl hf hkn (.inl ⟨rfl, rfl⟩) ?_
    refine lenQ ?_
    (refine Ent.go ?_)
    refine fdAtQ hr.w.tl hf hkn (.inr ⟨rfl, rfl⟩) ?_
    refine lenQ ?_
    (refine Ent.go ?_)
    refine Ent.imp ?_ (hK hkn _)
    refine Imp.pur ?_ (Imp.refl _)
    rw [hs]
    exact (by omega : n0 + (fzn (x.wl.take k) : Int) + ((f.1.length : Int) + f.2.length) = n0 + ((fzn (x.wl.take k) + (f.1.length + f.2.length) : Nat) : Int))
  · have hkl : k = x.wl.length := by omega
    subst hkl
    refine Ent.wF ?_ (by simp)
    rw [List.take_of_length_le (Nat.le_refl _)]
    refine Ent.rngL1 (k0 := .int .i64) x.fl.length (fun k v => pur (v = n0 + ((fzn x.wl : Nat) : Int) + ((fzn (x.fl.take k) : Nat) : Int)) :: pt eb (ec x) :: rest) rfl ?_ ?_
    · exact Imp.pur (by simp [fzn]) (Imp.refl _)
    intro j hj K2 hK2 v
    refine Ent.pur fun hv => ?_
    subst hv
    (refine Ent.go ?_)
    by_cases hjn : j < x.fl.length
    · obtain ⟨f, hf⟩ : ∃ f, x.fl[j]? = some f := ⟨_, List.getElem?_eq_getElem hjn⟩
      have hfm := fsz_mem (List.mem_of_getElem? hf)
      have hs := fzn_snoc (x.fl.take j) f
      rw [← take_snoc hf] at hs
      have hzl := fzn_le (x.fl.take j)
      have hzt := fsz_take x.fl j
      refine Ent.wT ?_ (by simpa using hjn)
      (refine Ent.go ?_)
      refine fdAtQ hr.f.tl hf hjn (.inl ⟨rfl, rfl⟩) ?_
      refine lenQ ?_
      (refine Ent.go ?_)
      refine fdAtQ hr.f.tl hf hjn (.inr ⟨rfl, rfl⟩) ?_
      refine lenQ ?_
      (refine Ent.go ?_)
      refine Ent.imp ?_ (hK2 hjn _)
      refine Imp.pur ?_ (Imp.refl _)
      rw [hs]
      exact (by omega : n0 + (fzn x.wl : Int) + (fzn (x.fl.take j) : Int) + ((f.1.length : Int) + f.2.length) = n0 + (fzn x.wl : Int) + ((fzn (x.fl.take j) + (f.1.length + f.2.length) : Nat) : Int))
    · have hjl : j = x.fl.length := by omega
      subst hjl
      refine Ent.wF ?_ (by simp)
      rw [List.take_of_length_le (Nat.le_refl _)]
      have e1 : (n0 + (fzn x.wl : Int) + (fzn x.fl : Int)) = (size x : Int) := by unfold size; omega
      rw [e1]
      exact Ent.imp (by (focus ((repeat ((with_reducible apply Imp.pick); (repeat (first | exact Pick.hd | apply Pick.tl)))); (repeat (first | exact Imp.refl _ | exact Imp.nil _ | apply Imp.drop)); done))) h
end
end Go.Proofs.YtfofnagocedlgaaGreatDoor.Tx
end
section
/-
  THE STORE (layer 21): whether entries are the same; copies; the statements' own entries.
-/
set_option maxRecDepth 100000
set_option linter.unusedVariables false
set_option linter.unusedSectionVars false
set_option linter.unusedSimpArgs false
set_option maxHeartbeats 0
namespace Go.Proofs.YtfofnagocedlgaaGreatDoor.Tx
open Go Sh Sl
open Go.RowKit
attribute [local irreducible] condK ArK NilK OpK FnK StK joinK loopK DrawK andK PuK NxK EnK vS uS bS callS invokeS
instance dec0 : DecidableEq (List Fd × Bs) := inferInstance
instance dec1 : DecidableEq (Int × List Fd × Bs) := inferInstance
instance dec2 : DecidableEq (Bs × Int × List Fd × Bs) := inferInstance
instance dec3 : DecidableEq (Int × Bs × Int × List Fd × Bs) := inferInstance
instance dec4 : DecidableEq (List Fd × Int × Bs × Int × List Fd × Bs) := inferInstance
instance dec5 : DecidableEq (Int × List Fd × Int × Bs × Int × List Fd × Bs) := inferInstance
instance dec6 : DecidableEq (Int × Int × List Fd × Int × Bs × Int × List Fd × Bs) := inferInstance
instance dec7 : DecidableEq (Bs × Int × Int × List Fd × Int × Bs × Int × List Fd × Bs) := inferInstance
/-- what an entry says -/
def dE (x : Et) : Bs × Int × Int × List Fd × Int × Bs × Int × List Fd × Bs := (x.url, x.asked, x.came, x.wl, x.st, x.rs, x.mi, x.fl, x.bl)
def dR (x : Et) : Int × Bs × Int × List Fd × Bs := (x.st, x.rs, x.mi, x.fl, x.bl)
abbrev OwnE (x : Et) (rest : List HProp) : List HProp := SlO x.wa x.wl.length x.wc 2 (fc x.wl) :: SlO x.fa x.fl.length x.fk 2 (fc x.fl) :: SlO x.ba_ x.bl.length x.bk 1 (u8 x.bl) :: rest
theorem dE_iff {x y : Et} : dE x = dE y ↔ x.url = y.url ∧ x.asked = y.asked ∧ x.came = y.came ∧ x.wl = y.wl ∧ dR x = dR y := by
  simp [dE, dR]
section
variable {e : Env} {ctx ctx' rest R : List HProp}
theorem SlO.imp0 {b sz : Nat} : Imp (pt b [] :: ctx) (SlO (some ⟨b, 0, none⟩) 0 0 sz [] :: ctx) := fun _ k =>
  sepL_cons (fun h hh => ⟨by simp, .inr ⟨b, [], rfl, Nat.le_refl _, by simp, hh⟩⟩) (fun _ z => z) k
theorem samer_spec {K : Bool → WP} {x y : Et} (hx : RdE rest x) (hy : RdE rest y) (bx : EB x) (by_ : EB y) (h : Ent e rest (K (decide (dR x = dR y)))) : Ent e rest (ref09_SameResponse (.agg (rc x).toArray) (.agg (rc y).toArray) K) := by
  have h5 := bx.f
  have g5 := by_.f
  have hfl := fsz_len x.fl
  have gfl := fsz_len y.fl
  have no : dR x ≠ dR y → Ent e rest (K false) := fun hn => by rw [← decide_eq_false hn]; exact h
  (refine Ent.fn ref09_SameResponse_ok ?_; unfold ref09_SameResponse_sh)
  refine Ent.box' fun ab => ?_
  refine Ent.box' fun bb => ?_
  (refine Ent.go ?_)
  refine Ent.condE (fun h1 => ?_) fun h1 => ?_
  rotate_left
  · exact Ent.imp (by (focus ((repeat ((with_reducible apply Imp.pick); (repeat (first | exact Pick.hd | apply Pick.tl)))); (repeat (first | exact Imp.refl _ | exact Imp.nil _ | apply Imp.drop)); done))) (no fun hh => h1 (Prod.mk.inj hh).1)
  (refine Ent.go ?_)
  refine Ent.condD (fun h2 => ?_) fun h2 => ?_
  rotate_left
  · exact Ent.imp (by (focus ((repeat ((with_reducible apply Imp.pick); (repeat (first | exact Pick.hd | apply Pick.tl)))); (repeat (first | exact Imp.refl _ | exact Imp.nil _ | apply Imp.drop)); done))) (no fun hh => h2 (ba_inj.2 (Prod.mk.inj (Prod.mk.inj hh).2).1))
  (refine Ent.go ?_)
  refine Ent.condE (fun h3 => ?_) fun h3 => ?_
  rotate_left
  · exact Ent.imp (by (focus ((repeat ((with_reducible apply Imp.pick); (repeat (first | exact Pick.hd | apply Pick.tl)))); (repeat (first | exact Imp.refl _ | exact Imp.nil _ | apply Imp.drop)); done))) (no fun hh => h3 (Prod.mk.inj (Prod.mk.inj (Prod.mk.inj hh).2).2).1)
  (refine Ent.go ?_)
  refine ref_samef_spec hx.f.tl.tl hy.f.tl.tl (by omega) (by omega) ?_
  refine Ent.condD (fun h4 => ?_) fun h4 => ?_
  rotate_left
  · exact Ent.imp (by (focus ((repeat ((with_reducible apply Imp.pick); (repeat (first | exact Pick.hd | apply Pick.tl)))); (repeat (first | exact Imp.refl _ | exact Imp.nil _ | apply Imp.drop)); done))) (no fun hh => h4 (Prod.mk.inj (Prod.mk.inj (Prod.mk.inj (Prod.mk.inj hh).2).2).2).1)
  (refine Ent.go ?_)
  refine Ent.opS (st_b2s (l := x.bl) hx.b.tl.tl rfl rfl rfl) ?_
  (refine Ent.go ?_)
  refine Ent.opS (st_b2s (l := y.bl) hy.b.tl.tl rfl rfl rfl) ?_
  (refine Ent.go ?_)
  have : decide (ba x.bl = ba y.bl) = decide (dR x = dR y) := by
    refine decide_eq_decide.2 ?_
    rw [ba_inj] at h2 ⊢
    unfold dR
    constructor
    · intro h6; rw [h1, h2, h3, h4, h6]
    · intro hh; exact (Prod.mk.inj (Prod.mk.inj (Prod.mk.inj (Prod.mk.inj hh).2).2).2).2
  rw [this]
  exact Ent.imp (by (focus ((repeat ((with_reducible apply Imp.pick); (repeat (first | exact Pick.hd | apply Pick.tl)))); (repeat (first | exact Imp.refl _ | exact Imp.nil _ | apply Imp.drop)); done))) h
theorem same_e_spec {K : Bool → WP} {x y : Et} (hx : RdE rest x) (hy : RdE rest y) (bx : EB x) (by_ : EB y) (h : Ent e rest (K (decide (dE x = dE y)))) : Ent e rest (ref21_Same (.agg (ec x).toArray) (.agg (ec y).toArray) K) := by
  have h5 := bx.w
  have g5 := by_.w
  have hfl := fsz_len x.wl
  have gfl := fsz_len y.wl
  have no : dE x ≠ dE y → Ent e rest (K false) := fun hn => by rw [← decide_eq_false hn]; exact h
  (refine Ent.fn ref21_Same_ok ?_; unfold ref21_Same_sh)
  refine Ent.box' fun ab => ?_
  refine Ent.box' fun bb => ?_
  (refine Ent.go ?_)
  refine Ent.condD (fun h1 => ?_) fun h1 => ?_
  rotate_left
  · exact Ent.imp (by (focus ((repeat ((with_reducible apply Imp.pick); (repeat (first | exact Pick.hd | apply Pick.tl)))); (repeat (first | exact Imp.refl _ | exact Imp.nil _ | apply Imp.drop)); done))) (no fun hh => h1 (ba_inj.2 (dE_iff.1 hh).1))
  (refine Ent.go ?_)
  refine Ent.condE (fun h2 => ?_) fun h2 => ?_
  rotate_left
  · exact Ent.imp (by (focus ((repeat ((with_reducible apply Imp.pick); (repeat (first | exact Pick.hd | apply Pick.tl)))); (repeat (first | exact Imp.refl _ | exact Imp.nil _ | apply Imp.drop)); done))) (no fun hh => h2 (dE_iff.1 hh).2.1)
  (refine Ent.go ?_)
  refine Ent.condE (fun h3 => ?_) fun h3 => ?_
  rotate_left
  · exact Ent.imp (by (focus ((repeat ((with_reducible apply Imp.pick); (repeat (first | exact Pick.hd | apply Pick.tl)))); (repeat (first | exact Imp.refl _ | exact Imp.nil _ | apply Imp.drop)); done))) (no fun hh => h3 (dE_iff.1 hh).2.2.1)
  (refine Ent.go ?_)
  refine ref_samef_spec hx.w.tl.tl hy.w.tl.tl (by omega) (by omega) ?_
  refine Ent.condD (fun h4 => ?_) fun h4 => ?_
  rotate_left
  · exact Ent.imp (by (focus ((repeat ((with_reducible apply Imp.pick); (repeat (first | exact Pick.hd | apply Pick.tl)))); (repeat (first | exact Imp.refl _ | exact Imp.nil _ | apply Imp.drop)); done))) (no fun hh => h4 (dE_iff.1 hh).2.2.2.1)
  (refine Ent.go ?_)
  refine samer_spec hx.tl.tl hy.tl.tl bx by_ ?_
  have : decide (dR x = dR y) = decide (dE x = dE y) := by
    refine decide_eq_decide.2 ?_
    rw [ba_inj] at h1
    rw [dE_iff]
    exact ⟨fun h6 => ⟨h1, h2, h3, h4, h6⟩, fun hh => hh.2.2.2.2⟩
  rw [this]
  exact Ent.imp (by (focus ((repeat ((with_reducible apply Imp.pick); (repeat (first | exact Pick.hd | apply Pick.tl)))); (repeat (first | exact Imp.refl _ | exact Imp.nil _ | apply Imp.drop)); done))) h
theorem clonef_spec {K : Value → WP} {a : Option Addr} {c : Nat} {l : List Fd} (hb : l.length ≤ 1099511627776) (hr : Rd rest a (fc l)) (h : ∀ a2 c2, Ent e (SlO a2 l.length c2 2 (fc l) :: rest) (K (.slice a2 l.length c2))) :
    Ent e rest (slices_Clone_Field (.slice a l.length c) K) := by
  (refine Ent.fn slices_Clone_Field_ok ?_; unfold slices_Clone_Field_sh)
  cases a with
  | none =>
    have hl0 : fc l = [] := hr
    have hn0 : l = [] := List.eq_nil_of_length_eq_zero (by have := congrArg List.length hl0; simp at this; omega)
    subst hn0
    (refine Ent.go ?_)
    exact Ent.slN (h none 0)
  | some a =>
    (refine Ent.go ?_)
    refine Ent.slice (out := []) (z := [.string ⟨#[]⟩, .string ⟨#[]⟩]) (sz := 2) rfl rfl rfl rfl (by decide) (by decide) (by rfl) fun b2 => ?_
    refine Ent.imp (SlO.imp0 (sz := 2)) ?_
    refine Ent.appN (m := l.length) (news := fc l) (sz := 2) ?_ (fun a2 c2 => ?_) (hl := fc_len l) (h1 := fc_one l) (hb := by simp; omega)
    · exact hr.mono (Imp.drop (Imp.refl _))
    · have := h a2 c2
      simpa using this
where
  fc_one (l : List Fd) : ∀ v ∈ fc l, v.oneCell' = true := by
    intro v hv
    simp only [fc, List.mem_flatten, List.mem_map] at hv
    obtain ⟨_, ⟨f, _, rfl⟩, hv⟩ := hv
    simp only [List.mem_cons, List.mem_nil_iff, or_false] at hv
    rcases hv with rfl | rfl <;> rfl
theorem cloneb_spec {K : Value → WP} {a : Option Addr} {c : Nat} {l : Bs} (hb : l.length ≤ 1099511627776) (hr : Rd rest a (u8 l)) (h : ∀ a2 c2, Ent e (SlO a2 l.length c2 1 (u8 l) :: rest) (K (.slice a2 l.length c2))) :
    Ent e rest (bytes_Clone (.slice a l.length c) K) := by
  (refine Ent.fn bytes_Clone_ok ?_; unfold bytes_Clone_sh)
  cases a with
  | none =>
    have hl0 : u8 l = [] := hr
    have hn0 : l = [] := List.eq_nil_of_length_eq_zero (by have := congrArg List.length hl0; simpa using this)
    subst hn0
    (refine Ent.go ?_)
    exact Ent.slN (h none 0)
  | some a =>
    (refine Ent.go ?_)
    refine Ent.slice (out := []) (z := [.int .u8 0]) (sz := 1) rfl rfl rfl rfl (by decide) (by decide) (by rfl) fun b2 => ?_
    refine Ent.imp (SlO.imp0 (sz := 1)) ?_
    refine Ent.appN (m := l.length) (news := u8 l) (sz := 1) ?_ (fun a2 c2 => ?_) (hl := by simp) (h1 := u8_one l) (hb := by simp; omega)
    · exact hr.mono (Imp.drop (Imp.refl _))
    · have := h a2 c2
      simpa using this
theorem copied_spec {K : Value → WP} {x : Et} (hr : RdE rest x) (hb : EB x) (h : ∀ y : Et, dE y = dE x → Ent e (OwnE y rest) (K (.agg (ec y).toArray))) : Ent e rest (store_copied (.agg (ec x).toArray) K) := by
  have h1 := hb.w
  have h2 := hb.f
  have h3 := hb.b
  have hwl := fsz_len x.wl
  have hfl := fsz_len x.fl
  (refine Ent.fn store_copied_ok ?_; unfold store_copied_sh)
  refine Ent.box' fun eb => ?_
  refine Ent.alloc' fun t2 => ?_
  (refine Ent.go ?_)
  refine clonef_spec (by omega) hr.w.tl.tl fun a1 c1 => ?_
  (refine Ent.go ?_)
  refine clonef_spec (by omega) hr.f.tl.tl.tl fun a2 c2 => ?_
  (refine Ent.go ?_)
  refine cloneb_spec (by omega) hr.b.tl.tl.tl.tl fun a3 c3 => ?_
  (refine Ent.go ?_)
  refine Ent.wrA ?_
  refine Ent.imp ?_ (h { x with wa := a1, wc := c1, fa := a2, fk := c2, ba_ := a3, bk := c3 } rfl)
  (focus ((repeat ((with_reducible apply Imp.pick); (repeat (first | exact Pick.hd | apply Pick.tl)))); (repeat (first | exact Imp.refl _ | exact Imp.nil _ | apply Imp.drop)); done))
theorem own_spec {K : Value → WP} {x : Et} (hr : RdE rest x) (hb : EB x) (h : ∀ y : Et, dE y = dE x → Ent e (OwnE y rest) (K (.agg (ec y).toArray))) : Ent e rest (ref21_Own (.agg (ec x).toArray) K) := by
  have h1 := hb.w
  have h2 := hb.f
  have h3 := hb.b
  have hwl := fsz_len x.wl
  have hfl := fsz_len x.fl
  (refine Ent.fn ref21_Own_ok ?_; unfold ref21_Own_sh)
  refine Ent.box' fun eb => ?_
  refine Ent.alloc' fun t2 => ?_
  (refine Ent.go ?_)
  refine Ent.slN (sz := 2) ?_
  refine Ent.appN (m := x.wl.length) (news := fc x.wl) (sz := 2) hr.w.tl.tl.tl (fun a1 c1 => ?_) (hl := fc_len _) (h1 := clonef_spec.fc_one _) (hb := by simp; omega)
  rw [Nat.zero_add, List.nil_append]
  (refine Ent.go ?_)
  refine Ent.slN (sz := 2) ?_
  refine Ent.appN (m := x.fl.length) (news := fc x.fl) (sz := 2) hr.f.tl.tl.tl.tl (fun a2 c2 => ?_) (hl := fc_len _) (h1 := clonef_spec.fc_one _) (hb := by simp; omega)
  rw [Nat.zero_add, List.nil_append]
  (refine Ent.go ?_)
  (refine Ent.fn ref09_Own_ok ?_; unfold ref09_Own_sh)
  refine Ent.slN (sz := 1) ?_
  refine Ent.appN (m := x.bl.length) (news := u8 x.bl) (sz := 1) hr.b.tl.tl.tl.tl.tl (fun a3 c3 => ?_) (hl := by simp) (h1 := u8_one _) (hb := by simp; omega)
  rw [Nat.zero_add, List.nil_append]
  (refine Ent.go ?_)
  refine Ent.wrA ?_
  refine Ent.imp ?_ (h { x with wa := a1, wc := c1, fa := a2, fk := c2, ba_ := a3, bk := c3 } rfl)
  (focus ((repeat ((with_reducible apply Imp.pick); (repeat (first | exact Pick.hd | apply Pick.tl)))); (repeat (first | exact Imp.refl _ | exact Imp.nil _ | apply Imp.drop)); done))
/-- an entry of a URL whose body has so many bytes -/
theorem e_spec {K : Value → WP} {url : Bs} {n : Nat} (hn : n ≤ 1048576) (h : ∀ y : Et, dE y = (url, 0, 0, [], 200, [], 1, [], List.replicate n 0) → Ent e (OwnE y rest) (K (.agg (ec y).toArray))) : Ent e rest (law21_E (ba url) n K) := by
  obtain ⟨r, hr, hlen⟩ : ∃ r : Bs, r = List.replicate n 0 ∧ r.length = n := ⟨_, rfl, by simp⟩
  have e1 : List.replicate n (Value.int .u8 0) = u8 r := by rw [hr]; simp [u8]
  rw [← hr] at h
  clear hr
  subst hlen
  (refine Ent.fn law21_E_ok ?_; unfold law21_E_sh)
  refine Ent.alloc' fun t4 => ?_
  refine Ent.make (by_ := 1) (z := .int .u8 0) (n := r.length) rfl rfl rfl (by omega) (by omega) fun b => ?_
  (refine Ent.go ?_)
  refine Ent.wrA ?_
  rw [e1]
  refine Ent.imp ?_ (h ⟨url, 0, 0, none, 0, [], 200, [], 1, none, 0, [], some ⟨b, 0, none⟩, r.length, r⟩ rfl)
  refine Imp.trans (b := pt b (u8 r) :: rest) (by (focus ((repeat ((with_reducible apply Imp.pick); (repeat (first | exact Pick.hd | apply Pick.tl)))); (repeat (first | exact Imp.refl _ | exact Imp.nil _ | apply Imp.drop)); done))) ?_
  refine Imp.trans (SlO.imp (n := r.length) (by simp)) ?_
  refine Imp.trans (Imp.slN (sz := 2) (Imp.refl _)) ?_
  refine Imp.trans (Imp.slN (sz := 2) (Imp.refl _)) ?_
  show Imp _ (SlO none 0 0 2 [] :: SlO none 0 0 2 [] :: SlO (some ⟨b, 0, none⟩) r.length r.length 1 (u8 r) :: rest)
  (focus ((repeat ((with_reducible apply Imp.pick); (repeat (first | exact Pick.hd | apply Pick.tl)))); (repeat (first | exact Imp.refl _ | exact Imp.nil _ | apply Imp.drop)); done))
end
end Go.Proofs.YtfofnagocedlgaaGreatDoor.Tx
end
section
/-
  FUNCTIONS AS PLAIN TERMS, printed by shx.py.
-/
set_option linter.unusedVariables false
set_option maxRecDepth 100000
namespace Go.Proofs.YtfofnagocedlgaaGreatDoor
open Go Sh
/- tollhouse/lru.New -/
def lru_New_sh (kept : Int) (K : Value → Int → WP) : WP :=
 condK (decide (kept < 0))
 (K (.pointer none) 1)
 (condK (decide (kept > 64))
 (K (.pointer none) 1)
 (oR (vS (Instr.makeMap 104 none)) fun t10 =>
 oR (vS (Instr.build 107 #[(0, t10), (2, (.int .i64 kept))])) fun t12 =>
 oR (vS (Instr.box 107 t12)) fun t13 =>
 K t13 0))
theorem lru_New_ok {kept : Int} {K : Value → Int → WP} (w : World) (h : lru_New_sh kept K w) : lru_New kept K w :=
  fn_ok cx_ok (hi := .l) (fn := Tryz.f36) Tryz.func36 (by kernel_rfl) h

/- (*tollhouse/lru.List).Add -/
def lru_List_Add_sh (l : Value) (id : Int) (K : Int → WP) : WP :=
 lru_List_ready l id false fun t8 =>
 condK (t8 != 0)
 (K t8)
 (lru_List_put l id (.complex .f64 0 0) fun _ =>
 K 0)
theorem lru_List_Add_ok {l : Value} {id : Int} {K : Int → WP} (w : World) (h : lru_List_Add_sh l id K w) : lru_List_Add l id K w :=
  fn_ok cx_ok (hi := .l) (fn := Tryz.f45) Tryz.func45 (by kernel_rfl) h

/- (*tollhouse/lru.List).Touch -/
def lru_List_Touch_sh (l : Value) (id : Int) (K : Int → WP) : WP :=
 lru_List_ready l id true fun t9 =>
 condK (t9 != 0)
 (K t9)
 (lru_List_put l id (.complex .f64 0 4607182418800017408) fun _ =>
 lru_List_Kept l fun t17 =>
 len 108 3 t17 fun t19 =>
 nI 107 l 2 3 .i64 fun t23 =>
 condK (decide (t19 > t23))
 (len 108 3 t17 fun t28 =>
 ArK .i64 (t28 - 1) fun t29 =>
 iI 108 t17 .i64 t29 3 .i64 fun t31 =>
 lru_List_put l t31 (.complex .f64 0 0) fun _ =>
 K 0)
 (K 0))
theorem lru_List_Touch_ok {l : Value} {id : Int} {K : Int → WP} (w : World) (h : lru_List_Touch_sh l id K w) : lru_List_Touch l id K w :=
  fn_ok cx_ok (hi := .l) (fn := Tryz.f47) Tryz.func47 (by kernel_rfl) h

/- (*tollhouse/lru.List).Kept -/
def lru_List_Kept_sh (l : Value) (K : Value → WP) : WP :=
 lru_List_in l (.complex .f64 0 4607182418800017408) fun t4 =>
 K t4
theorem lru_List_Kept_ok {l : Value} {K : Value → WP} (w : World) (h : lru_List_Kept_sh l K w) : lru_List_Kept l K w :=
  fn_ok cx_ok (hi := .l) (fn := Tryz.f71) Tryz.func71 (by kernel_rfl) h

/- (*tollhouse/lru.List).Tried -/
def lru_List_Tried_sh (l : Value) (K : Value → WP) : WP :=
 lru_List_in l (.complex .f64 0 0) fun t4 =>
 K t4
theorem lru_List_Tried_ok {l : Value} {K : Value → WP} (w : World) (h : lru_List_Tried_sh l K w) : lru_List_Tried l K w :=
  fn_ok cx_ok (hi := .l) (fn := Tryz.f70) Tryz.func70 (by kernel_rfl) h

/- (*tollhouse/lru.List).Victim -/
def lru_List_Victim_sh (l : Value) (K : Int → Bool → WP) : WP :=
 lru_List_Tried l fun t7 =>
 lru_List_Kept l fun t9 =>
 oR (vS (Instr.buildSlice 110 2 #[(0, t7), (1, t9)])) fun t10 =>
 len 110 3 t10 fun t11 =>
 loopK [(12, (.int .i64))] (fun (j1 : Int → WP) => j1 0) (fun (j2 : Int → WP) (t12 : Int) =>
 condK (decide (t12 < t11))
 (iR 110 t10 .i64 t12 108 fun t15 =>
 len 108 3 t15 fun t17 =>
 condK (decide (t17 > 0))
 (len 108 3 t15 fun t21 =>
 ArK .i64 (t21 - 1) fun t22 =>
 iI 108 t15 .i64 t22 3 .i64 fun t24 =>
 K t24 true)
 (ArK .i64 (t12 + 1) fun t25 =>
 j2 t25))
 (K 0 false))
theorem lru_List_Victim_ok {l : Value} {K : Int → Bool → WP} (w : World) (h : lru_List_Victim_sh l K w) : lru_List_Victim l K w :=
  fn_ok cx_ok (hi := (.n .l (.n (.n .l (.n (.p [(12, (.int .i64))] .l) .l)) .l))) (fn := Tryz.f40) Tryz.func40 (by kernel_rfl) h

/- (*tollhouse/lru.List).Remove -/
def lru_List_Remove_sh (l : Value) (id : Int) (K : Int → WP) : WP :=
 lru_List_ready l id true fun t8 =>
 condK (t8 != 0)
 (K t8)
 (nR 107 l 0 104 fun t15 =>
 oR (vS (Builtin.delete_ #[104, 3] 0 #[t15, (.int .i64 id)])) fun _ =>
 K 0)
theorem lru_List_Remove_ok {l : Value} {id : Int} {K : Int → WP} (w : World) (h : lru_List_Remove_sh l id K w) : lru_List_Remove l id K w :=
  fn_ok cx_ok (hi := .l) (fn := Tryz.f72) Tryz.func72 (by kernel_rfl) h

/- (*tollhouse/lru.List).Copy -/
def lru_List_Copy_sh (l : Value) (K : Value → WP) : WP :=
 oB (bS .eql 65 (.tmp 4) (.const (.pointer none)) l (.pointer none)) fun t5 =>
 condK t5
 (K (.pointer none))
 (NilK l <|
 lR 107 l fun t8 =>
 oR (vS (Instr.alloc 107 true (.tuple #[]))) fun x =>
 sto 107 x t8 <|
 nR 107 l 0 104 fun t12 =>
 maps_Clone_int_complex128 t12 fun t13 =>
 fW 107 x 0 104 t13 <|
 K x)
theorem lru_List_Copy_ok {l : Value} {K : Value → WP} (w : World) (h : lru_List_Copy_sh l K w) : lru_List_Copy l K w :=
  fn_ok cx_ok (hi := .l) (fn := Tryz.f60) Tryz.func60 (by kernel_rfl) h

/- (*tollhouse/lru.List).ready -/
def lru_List_ready_sh (l : Value) (id : Int) (there : Bool) (K : Int → WP) : WP :=
 joinK [(17, .bool)] (fun (j1 : Bool → WP) =>
 oB (bS .eql 65 (.tmp 9) (.const (.pointer none)) l (.pointer none)) fun t10 =>
 condK t10
 (j1 true)
 (nR 107 l 0 104 fun t15 =>
 oB (bS .eql 104 (.tmp 15) (.const (.map none)) t15 (.map none)) fun t16 =>
 j1 t16))
 fun t17 =>
 condK t17
 (K 2)
 (joinK [(23, .bool)] (fun (j2 : Bool → WP) =>
 condK (decide (id < 0))
 (j2 true)
 (j2 (decide (id ≥ 64))))
 fun t23 =>
 condK t23
 (K 1)
 (nR 107 l 0 104 fun t28 =>
 OpK P (.tup [.raw, .bool]) (vS (Instr.lookup 104 t28 (.int .i64 id) true)) fun _ t30_1 =>
 condK t30_1
 (condK (!there)
 (K 9)
 (condK (!t30_1)
 (condK there
 (K 6)
 (K 0))
 (K 0)))
 (condK (!t30_1)
 (condK there
 (K 6)
 (K 0))
 (K 0))))
theorem lru_List_ready_ok {l : Value} {id : Int} {there : Bool} {K : Int → WP} (w : World) (h : lru_List_ready_sh l id there K w) : lru_List_ready l id there K w :=
  fn_ok cx_ok (hi := (.n .l (.n (.n (.j [(17, .bool)] .l) .l) (.n (.n (.j [(23, .bool)] .l) .l) .l)))) (fn := Tryz.f75) Tryz.func75 (by kernel_rfl) h

/- (*tollhouse/lru.List).put -/
def lru_List_put_sh (l : Value) (id : Int) (segment : Value) (K : Value → WP) : WP :=
 nR 107 l 1 105 fun t9 =>
 oR (bS .add 105 (.tmp 9) (.const (.float .f64 4607182418800017408)) t9 (.float .f64 4607182418800017408)) fun t10 =>
 nW 107 l 1 105 t10 <|
 DrawK fun S =>
 hR S 107 l 0 104 fun t16 =>
 hR S 107 l 1 105 fun t21 =>
 qR (vS (Builtin.complex_ #[105, 105] 114 #[t21, (.float .f64 0)])) fun t22 =>
 qR (bS .add 114 (.tmp 22) (.tmp 23) t22 segment) fun t24 =>
 oR (uS (Instr.mapUpdate 104 t16 (.int .i64 id) t24)) fun _ =>
 K (.tuple #[])
theorem lru_List_put_ok {l : Value} {id : Int} {segment : Value} {K : Value → WP} (w : World) (h : lru_List_put_sh l id segment K w) : lru_List_put l id segment K w :=
  fn_ok cx_ok (hi := (.n .l (.o (odR 0 13)))) (fn := Tryz.f76) Tryz.func76 (by kernel_rfl) h

/- (*tollhouse/lru.List).in -/
def lru_List_in_sh (l : Value) (segment : Value) (K : Value → WP) : WP :=
 oR (vS (Instr.box 65 l)) fun l_1 =>
 lR 65 l_1 fun t8 =>
 oB (bS .eql 65 (.tmp 8) (.const (.pointer none)) t8 (.pointer none)) fun t9 =>
 condK t9
 (K (.slice none 0 0))
 (lR 65 l_1 fun t10 =>
 nR 107 t10 0 104 fun t13 =>
 oR (vS (Instr.range 104 t13)) fun t14 =>
 loopK [(5, .raw)] (fun (j1 : Value → WP) => j1 (.slice none 0 0)) (fun (j2 : Value → WP) (out : Value) =>
 NxK P (vS (Instr.next t14 false 0)) .raw .raw
 (slices_SortFunc_int out (.func (.func 100) #[] #[l_1]) fun _ =>
 K out)
 fun _ _ =>
 EnK P (vS (Instr.entry t14)) (.int .i64) .raw fun u_2 u_3 =>
 oR (vS (Builtin.imag_ #[114] 105 #[u_3])) fun t21 =>
 oR (vS (Builtin.imag_ #[114] 105 #[segment])) fun t23 =>
 oB (bS .eql 105 (.tmp 21) (.tmp 23) t21 t23) fun t24 =>
 condK t24
 (oR (vS (Instr.buildSlice 108 1 #[(0, (.int .i64 u_2))])) fun t27 =>
 app 108 108 108 out t27 fun t28 =>
 j2 t28)
 (j2 out)))
theorem lru_List_in_ok {l : Value} {segment : Value} {K : Value → WP} (w : World) (h : lru_List_in_sh l segment K w) : lru_List_in l segment K w :=
  fn_ok cx_ok (hi := (.n .l (.n .l (.n .l (.n (.n .l (.n (.p [(5, .raw)] (.n .l (.n .l (.n (.n (.e (.int .i64) .raw) .l) .l)))) .l)) .l))))) (fn := Tryz.f90) Tryz.func90 (by kernel_rfl) h

/- (*tollhouse/lru.List).in$1 -/
def lru_List_in_c1_sh (a : Int) (b : Int) (t2 : Value) (K : Int → WP) : WP :=
 DrawK fun S =>
 sR S (vS (Instr.loadAt 65 t2)) fun t6 =>
 hR S 107 t6 0 104 fun t9 =>
 sR S (vS (Instr.lookup 104 t9 (.int .i64 b) false)) fun t11 =>
 qR (vS (Builtin.real_ #[114] 105 #[t11])) fun t12 =>
 sR S (vS (Instr.loadAt 65 t2)) fun t13 =>
 hR S 107 t13 0 104 fun t16 =>
 sR S (vS (Instr.lookup 104 t16 (.int .i64 a) false)) fun t18 =>
 qR (vS (Builtin.real_ #[114] 105 #[t18])) fun t19 =>
 cmp_Compare_float64 t12 t19 fun t20 =>
 andK S <|
 K t20
theorem lru_List_in_c1_ok {a : Int} {b : Int} {t2 : Value} {K : Int → WP} (w : World) (h : lru_List_in_c1_sh a b t2 K w) : lru_List_in_c1 a b t2 K w :=
  fn_ok cx_ok (hi := (.n .l (.n (.o (odR 0 16)) .l))) (fn := Tryz.f100) Tryz.func100 (by kernel_rfl) h

/- maps.Clone[map[int]complex128,int,complex128] -/
def maps_Clone_int_complex128_sh (m : Value) (K : Value → WP) : WP :=
 oB (bS .eql 104 (.tmp 3) (.const (.map none)) m (.map none)) fun t4 =>
 condK t4
 (K (.map none))
 (oR (vS (Instr.makeInterface 104 m)) fun t6 =>
 oR (callFunc 92 #[t6]) fun t7 =>
 oR (vS (Instr.typeAssert t7 20 104 false)) fun t8 =>
 K t8)
theorem maps_Clone_int_complex128_ok {m : Value} {K : Value → WP} (w : World) (h : maps_Clone_int_complex128_sh m K w) : maps_Clone_int_complex128 m K w :=
  fn_ok cx_ok (hi := .l) (fn := Tryz.f83) Tryz.func83 (by kernel_rfl) h

/- cmp.Compare[float64] -/
def cmp_Compare_float64_sh (x : Value) (y : Value) (K : Int → WP) : WP :=
 cmp_isNaN_float64 x fun t8 =>
 cmp_isNaN_float64 y fun t10 =>
 condK t8
 (condK t10
 (K 0)
 (K (-1)))
 (condK t10
 (K 1)
 (oB (bS .lss 105 (.tmp 14) (.tmp 15) x y) fun t16 =>
 condK t16
 (K (-1))
 (oB (bS .gtr 105 (.tmp 17) (.tmp 18) x y) fun t19 =>
 condK t19
 (K 1)
 (K 0))))
theorem cmp_Compare_float64_ok {x : Value} {y : Value} {K : Int → WP} (w : World) (h : cmp_Compare_float64_sh x y K w) : cmp_Compare_float64 x y K w :=
  fn_ok cx_ok (hi := .l) (fn := Tryz.f101) Tryz.func101 (by kernel_rfl) h

/- cmp.isNaN[float64] -/
def cmp_isNaN_float64_sh (x : Value) (K : Bool → WP) : WP :=
 oB (bS .neq 105 (.tmp 3) (.tmp 4) x x) fun t5 =>
 K t5
theorem cmp_isNaN_float64_ok {x : Value} {K : Bool → WP} (w : World) (h : cmp_isNaN_float64_sh x K w) : cmp_isNaN_float64 x K w :=
  fn_ok cx_ok (hi := .l) (fn := Tryz.f107) Tryz.func107 (by kernel_rfl) h

/- tollhouse/tollhouseref20.New -/
def ref20_New_sh (kept : Int) (K : Value → Int → WP) : WP :=
 condK (decide (kept < 0))
 (K (.pointer none) 1)
 (condK (decide (kept > 64))
 (K (.pointer none) 1)
 (oR (vS (Instr.build 117 #[(2, (.int .i64 kept))])) fun t11 =>
 oR (vS (Instr.box 117 t11)) fun t12 =>
 K t12 0))
theorem ref20_New_ok {kept : Int} {K : Value → Int → WP} (w : World) (h : ref20_New_sh kept K w) : ref20_New kept K w :=
  fn_ok cx_ok (hi := .l) (fn := Tryz.f52) Tryz.func52 (by kernel_rfl) h

/- (*tollhouse/tollhouseref20.List).Add -/
def ref20_List_Add_sh (l : Value) (id : Int) (K : Int → WP) : WP :=
 ref20_may id fun t6 =>
 condK (!t6)
 (K 1)
 (ref20_List_Has l id fun t10 =>
 condK t10
 (K 9)
 (nR 117 l 0 108 fun t15 =>
 ref20_ahead t15 id fun t17 =>
 nW 117 l 0 108 t17 <|
 K 0))
theorem ref20_List_Add_ok {l : Value} {id : Int} {K : Int → WP} (w : World) (h : ref20_List_Add_sh l id K w) : ref20_List_Add l id K w :=
  fn_ok cx_ok (hi := .l) (fn := Tryz.f57) Tryz.func57 (by kernel_rfl) h

/- (*tollhouse/tollhouseref20.List).Touch -/
def ref20_List_Touch_sh (l : Value) (id : Int) (K : Int → WP) : WP :=
 ref20_may id fun t7 =>
 condK (!t7)
 (K 1)
 (ref20_List_Has l id fun t11 =>
 condK (!t11)
 (K 6)
 (nR 117 l 0 108 fun t17 =>
 ref20_without t17 id fun t19 =>
 nW 117 l 0 108 t19 <|
 nR 117 l 1 108 fun t26 =>
 ref20_without t26 id fun t28 =>
 ref20_ahead t28 id fun t30 =>
 nW 117 l 1 108 t30 <|
 DrawK fun S =>
 hR S 117 l 1 108 fun t36 =>
 sI S .i64 (vS (Builtin.len_ #[108] 3 #[t36])) fun t37 =>
 hI S 117 l 2 3 .i64 fun t41 =>
 condK (decide (t37 > t41))
 (DrawK fun S =>
 hR S 117 l 1 108 fun t46 =>
 hR S 117 l 1 108 fun t50 =>
 sI S .i64 (vS (Builtin.len_ #[108] 3 #[t50])) fun t51 =>
 ArK .i64 (t51 - 1) fun t52 =>
 jI S 108 t46 .i64 t52 3 .i64 fun t54 =>
 nR 117 l 1 108 fun t59 =>
 ref20_without t59 t54 fun t61 =>
 nW 117 l 1 108 t61 <|
 nR 117 l 0 108 fun t68 =>
 ref20_ahead t68 t54 fun t70 =>
 nW 117 l 0 108 t70 <|
 K 0)
 (K 0)))
theorem ref20_List_Touch_ok {l : Value} {id : Int} {K : Int → WP} (w : World) (h : ref20_List_Touch_sh l id K w) : ref20_List_Touch l id K w :=
  fn_ok cx_ok (hi := (.n .l (.n .l (.n .l (.n .l (.n .l (.n (.n (.o (odR 0 10)) (.n (.n (.o (odR 0 13)) .l) .l)) .l))))))) (fn := Tryz.f59) Tryz.func59 (by kernel_rfl) h

/- (*tollhouse/tollhouseref20.List).Remove -/
def ref20_List_Remove_sh (l : Value) (id : Int) (K : Int → WP) : WP :=
 ref20_may id fun t6 =>
 condK (!t6)
 (K 1)
 (ref20_List_Has l id fun t10 =>
 condK (!t10)
 (K 6)
 (nR 117 l 0 108 fun t16 =>
 ref20_without t16 id fun t18 =>
 nW 117 l 0 108 t18 <|
 nR 117 l 1 108 fun t25 =>
 ref20_without t25 id fun t27 =>
 nW 117 l 1 108 t27 <|
 K 0))
theorem ref20_List_Remove_ok {l : Value} {id : Int} {K : Int → WP} (w : World) (h : ref20_List_Remove_sh l id K w) : ref20_List_Remove l id K w :=
  fn_ok cx_ok (hi := .l) (fn := Tryz.f78) Tryz.func78 (by kernel_rfl) h

/- (*tollhouse/tollhouseref20.List).Victim -/
def ref20_List_Victim_sh (l : Value) (K : Int → Bool → WP) : WP :=
 nR 117 l 0 108 fun t7 =>
 len 108 3 t7 fun t8 =>
 condK (decide (t8 > 0))
 (DrawK fun S =>
 hR S 117 l 0 108 fun t13 =>
 hR S 117 l 0 108 fun t17 =>
 sI S .i64 (vS (Builtin.len_ #[108] 3 #[t17])) fun t18 =>
 ArK .i64 (t18 - 1) fun t19 =>
 jI S 108 t13 .i64 t19 3 .i64 fun t21 =>
 K t21 true)
 (nR 117 l 1 108 fun t25 =>
 len 108 3 t25 fun t26 =>
 condK (decide (t26 > 0))
 (DrawK fun S =>
 hR S 117 l 1 108 fun t31 =>
 hR S 117 l 1 108 fun t35 =>
 sI S .i64 (vS (Builtin.len_ #[108] 3 #[t35])) fun t36 =>
 ArK .i64 (t36 - 1) fun t37 =>
 jI S 108 t31 .i64 t37 3 .i64 fun t39 =>
 K t39 true)
 (K 0 false))
theorem ref20_List_Victim_ok {l : Value} {K : Int → Bool → WP} (w : World) (h : ref20_List_Victim_sh l K w) : ref20_List_Victim l K w :=
  fn_ok cx_ok (hi := (.n .l (.n (.n .l (.n (.n (.o (odR 0 14)) .l) .l)) (.n (.n .l (.n (.n (.o (odR 0 14)) .l) .l)) .l)))) (fn := Tryz.f56) Tryz.func56 (by kernel_rfl) h

/- tollhouse/tollhouseref20.may -/
def ref20_may_sh (id : Int) (K : Bool → WP) : WP :=
 condK (decide (id ≥ 0))
 (K (decide (id < 64)))
 (K false)
theorem ref20_may_ok {id : Int} {K : Bool → WP} (w : World) (h : ref20_may_sh id K w) : ref20_may id K w :=
  fn_ok cx_ok (hi := .l) (fn := Tryz.f79) Tryz.func79 (by kernel_rfl) h

/- (*tollhouse/tollhouseref20.List).Has -/
def ref20_List_Has_sh (l : Value) (id : Int) (K : Bool → WP) : WP :=
 nR 117 l 0 108 fun t8 =>
 ref20_has t8 id fun t10 =>
 condK t10
 (K true)
 (nR 117 l 1 108 fun t15 =>
 ref20_has t15 id fun t17 =>
 K t17)
theorem ref20_List_Has_ok {l : Value} {id : Int} {K : Bool → WP} (w : World) (h : ref20_List_Has_sh l id K w) : ref20_List_Has l id K w :=
  fn_ok cx_ok (hi := .l) (fn := Tryz.f80) Tryz.func80 (by kernel_rfl) h

/- tollhouse/tollhouseref20.ahead -/
def ref20_ahead_sh (l : Value) (id : Int) (K : Value → WP) : WP :=
 oR (vS (Instr.buildSlice 108 1 #[(0, (.int .i64 id))])) fun t8 =>
 oR (vS (Builtin.append_ #[108, 108] 108 #[(.slice none 0 0), t8])) fun t9 =>
 app 108 108 108 t9 l fun t12 =>
 K t12
theorem ref20_ahead_ok {l : Value} {id : Int} {K : Value → WP} (w : World) (h : ref20_ahead_sh l id K w) : ref20_ahead l id K w :=
  fn_ok cx_ok (hi := .l) (fn := Tryz.f81) Tryz.func81 (by kernel_rfl) h

/- tollhouse/tollhouseref20.without -/
def ref20_without_sh (l : Value) (id : Int) (K : Value → WP) : WP :=
 loopK [(5, .raw), (6, (.int .i64))] (fun (j1 : Value → Int → WP) => j1 (.slice none 0 0) 0) (fun (j2 : Value → Int → WP) (out : Value) (i : Int) =>
 len 108 3 l fun t9 =>
 condK (decide (i < t9))
 (iI 108 l .i64 i 3 .i64 fun t16 =>
 condK (t16 != id)
 (iI 108 l .i64 i 3 .i64 fun t23 =>
 oR (vS (Instr.buildSlice 108 1 #[(0, (.int .i64 t23))])) fun t24 =>
 app 108 108 108 out t24 fun t25 =>
 ArK .i64 (i + 1) fun t12 =>
 j2 t25 t12)
 (ArK .i64 (i + 1) fun t12_1 =>
 j2 out t12_1))
 (K out))
theorem ref20_without_ok {l : Value} {id : Int} {K : Value → WP} (w : World) (h : ref20_without_sh l id K w) : ref20_without l id K w :=
  fn_ok cx_ok (hi := (.n .l (.n .l (.n (.n .l (.n (.p [(5, .raw), (6, (.int .i64))] .l) .l)) .l)))) (fn := Tryz.f82) Tryz.func82 (by kernel_rfl) h

/- tollhouse/tollhouseref20.has -/
def ref20_has_sh (l : Value) (id : Int) (K : Bool → WP) : WP :=
 loopK [(5, (.int .i64))] (fun (j1 : Int → WP) => j1 0) (fun (j2 : Int → WP) (i : Int) =>
 len 108 3 l fun t8 =>
 condK (decide (i < t8))
 (iI 108 l .i64 i 3 .i64 fun t15 =>
 condK (t15 == id)
 (K true)
 (ArK .i64 (i + 1) fun t11 =>
 j2 t11))
 (K false))
theorem ref20_has_ok {l : Value} {id : Int} {K : Bool → WP} (w : World) (h : ref20_has_sh l id K w) : ref20_has l id K w :=
  fn_ok cx_ok (hi := (.n .l (.n (.n .l (.n (.p [(5, (.int .i64))] .l) .l)) .l))) (fn := Tryz.f91) Tryz.func91 (by kernel_rfl) h

end Go.Proofs.YtfofnagocedlgaaGreatDoor
end
section
/-
  RUNS THAT LEAVE THE WORLD AS IT IS (but for draws): for the functions that a library function is handed.
-/
set_option maxRecDepth 100000
set_option linter.unusedVariables false
set_option linter.unusedSectionVars false
set_option linter.unusedSimpArgs false
namespace Go.Proofs.YtfofnagocedlgaaGreatDoor.Sl
open Go Sh
def QEnt (S : World → Prop) (c : WP) : Prop := ∀ w, S w → c w
/-- what is known of a world, its draws aside -/
structure QS (S : World → Prop) (e : Env) (ctx : List HProp) : Prop where
  sat : ∀ w, S w → Sat e (sepL ctx) w
  dr : ∀ w, S w → S { w with drawn := w.drawn + 1 }
theorem qs_of {e : Env} {ctx : List HProp} {W : World} (h : Sat e (sepL ctx) W) : QS (fun w => ∃ q, w = W.drewN q) e ctx :=
  ⟨fun w ⟨q, hq⟩ => by subst hq; exact h.drawn _, fun w ⟨q, hq⟩ => ⟨q + 1, by subst hq; rfl⟩⟩
section
variable {S : World → Prop} {e : Env} {ctx : List HProp}
theorem QEnt.oR {s : Sem Next} {v : Value} {c : Value → WP} (q : QS S e ctx) (hs : Still e ctx s v) (h : QEnt S (c v)) : QEnt S (OpK P (.one .raw) s c) := fun w hw => by
  show NextK P s _ w; unfold NextK; rw [hs w (q.sat w hw)]; exact ⟨v, rfl, h w hw⟩
theorem QEnt.oI {s : Sem Next} {k : IntKind} {v : Int} {c : Int → WP} (q : QS S e ctx) (hs : Still e ctx s (.int k v)) (h : QEnt S (c v)) : QEnt S (OpK P (.one (.int k)) s c) := fun w hw => by
  show NextK P s _ w; unfold NextK; rw [hs w (q.sat w hw)]; exact ⟨v, rfl, h w hw⟩
theorem QEnt.oB {s : Sem Next} {v : Bool} {c : Bool → WP} (q : QS S e ctx) (hs : Still e ctx s (.bool v)) (h : QEnt S (c v)) : QEnt S (OpK P (.one .bool) s c) := fun w hw => by
  show NextK P s _ w; unfold NextK; rw [hs w (q.sat w hw)]; exact ⟨v, rfl, h w hw⟩
theorem QEnt.oS {s : Sem Next} {v : ByteArray} {c : ByteArray → WP} (q : QS S e ctx) (hs : Still e ctx s (.string v)) (h : QEnt S (c v)) : QEnt S (OpK P (.one .str) s c) := fun w hw => by
  show NextK P s _ w; unfold NextK; rw [hs w (q.sat w hw)]; exact ⟨v, rfl, h w hw⟩
theorem QEnt.pB {s : Sem Next} {v : Bool} {c : Bool → WP} (hs : Pu s (.bool v)) (h : QEnt S (c v)) : QEnt S (OpK P (.one .bool) s c) := fun w hw => by
  show NextK P s _ w; unfold NextK; rw [hs w]; exact ⟨v, rfl, h w hw⟩
theorem QEnt.pR {s : Sem Next} {v : Value} {c : Value → WP} (hs : Pu s v) (h : QEnt S (c v)) : QEnt S (OpK P (.one .raw) s c) := fun w hw => by
  show NextK P s _ w; unfold NextK; rw [hs w]; exact ⟨v, rfl, h w hw⟩
theorem QEnt.pI {s : Sem Next} {k : IntKind} {v : Int} {c : Int → WP} (hs : Pu s (.int k v)) (h : QEnt S (c v)) : QEnt S (OpK P (.one (.int k)) s c) := fun w hw => by
  show NextK P s _ w; unfold NextK; rw [hs w]; exact ⟨v, rfl, h w hw⟩
theorem QEnt.sR {s : Sem Next} {v : Value} {c : Value → WP} (q : QS S e ctx) (hs : Still e ctx s v) (h : QEnt S (c v)) : QEnt S (StK P S (.one .raw) s c) := fun w hw => ⟨v, fun w' h' => hs w' (q.sat w' h'), v, rfl, h w hw⟩
theorem QEnt.sI {s : Sem Next} {k : IntKind} {v : Int} {c : Int → WP} (q : QS S e ctx) (hs : Still e ctx s (.int k v)) (h : QEnt S (c v)) : QEnt S (StK P S (.one (.int k)) s c) := fun w hw => ⟨_, fun w' h' => hs w' (q.sat w' h'), v, rfl, h w hw⟩
theorem QEnt.sB {s : Sem Next} {v : Bool} {c : Bool → WP} (q : QS S e ctx) (hs : Still e ctx s (.bool v)) (h : QEnt S (c v)) : QEnt S (StK P S (.one .bool) s c) := fun w hw => ⟨_, fun w' h' => hs w' (q.sat w' h'), v, rfl, h w hw⟩
theorem QEnt.sS {s : Sem Next} {v : ByteArray} {c : ByteArray → WP} (q : QS S e ctx) (hs : Still e ctx s (.string v)) (h : QEnt S (c v)) : QEnt S (StK P S (.one .str) s c) := fun w hw => ⟨_, fun w' h' => hs w' (q.sat w' h'), v, rfl, h w hw⟩
theorem QEnt.qR {s : Sem Next} {v : Value} {c : Value → WP} (hs : Pu s v) (h : QEnt S (c v)) : QEnt S (PuK P (.one .raw) s c) := fun w hw => ⟨v, hs, v, rfl, h w hw⟩
theorem QEnt.qI {s : Sem Next} {k : IntKind} {v : Int} {c : Int → WP} (hs : Pu s (.int k v)) (h : QEnt S (c v)) : QEnt S (PuK P (.one (.int k)) s c) := fun w hw => ⟨_, hs, v, rfl, h w hw⟩
theorem QEnt.qB {s : Sem Next} {v : Bool} {c : Bool → WP} (hs : Pu s (.bool v)) (h : QEnt S (c v)) : QEnt S (PuK P (.one .bool) s c) := fun w hw => ⟨_, hs, v, rfl, h w hw⟩
theorem QEnt.qS {s : Sem Next} {v : ByteArray} {c : ByteArray → WP} (hs : Pu s (.string v)) (h : QEnt S (c v)) : QEnt S (PuK P (.one .str) s c) := fun w hw => ⟨_, hs, v, rfl, h w hw⟩
theorem QEnt.nil {a : Addr} {c : WP} (h : QEnt S c) : QEnt S (NilK (.pointer (some a)) c) := fun w hw => ⟨rfl, h w hw⟩
theorem QEnt.and {c : WP} (h : QEnt S c) : QEnt S (andK S c) := fun w hw => ⟨hw, h w hw⟩
theorem QEnt.draw {f : WP → WP} (q : QS S e ctx) (h : QEnt S (f S)) : QEnt S (DrawK f) := fun w hw => ⟨S, q.dr w hw, h _ (q.dr w hw)⟩
theorem QEnt.cT {b : Bool} {x y : WP} (hb : b = true) (h : QEnt S x) : QEnt S (condK b x y) := by subst hb; exact h
theorem QEnt.cF {b : Bool} {x y : WP} (hb : b = false) (h : QEnt S y) : QEnt S (condK b x y) := by subst hb; exact h
theorem QEnt.fn {sh F : WP} (ok : ∀ w, sh w → F w) (h : QEnt S sh) : QEnt S F := fun w hw => ok w (h w hw)
theorem QEnt.ar {k : IntKind} {n : Int} {f : Int → WP} (hn : inR k n) (h : QEnt S (f n)) : QEnt S (ArK k n f) := by
  unfold ArK; rw [wrap_in hn]; exact h
/-- what the library asks of a function that it is handed -/
theorem quiet_int {W : World} {f : FuncId} {args : Array Value} {v : Int} (h : ∀ K : Int → WP, QEnt (fun w => ∃ q, w = W.drewN q) (K v) → QEnt (fun w => ∃ q, w = W.drewN q) (FnK P (.one (.int .i64)) f args K)) :
    Calls P f args W fun e w' => e = .returned (.int .i64 v) ∧ ∃ q, w' = W.drewN q := by
  have := h (fun n w => n = v ∧ ∃ q, w = W.drewN q) (fun w hw => ⟨rfl, hw⟩) W ⟨0, rfl⟩
  exact Calls.mono this fun e w' ⟨x, he, n, hx, hn, hq⟩ => ⟨by rw [he, hx, hn]; rfl, hq⟩
theorem quiet_bool {W : World} {f : FuncId} {args : Array Value} {v : Bool} (h : ∀ K : Bool → WP, QEnt (fun w => ∃ q, w = W.drewN q) (K v) → QEnt (fun w => ∃ q, w = W.drewN q) (FnK P (.one .bool) f args K)) :
    Calls P f args W fun e w' => e = .returned (.bool v) ∧ ∃ q, w' = W.drewN q := by
  have := h (fun n w => n = v ∧ ∃ q, w = W.drewN q) (fun w hw => ⟨rfl, hw⟩) W ⟨0, rfl⟩
  exact Calls.mono this fun e w' ⟨x, he, n, hx, hn, hq⟩ => ⟨by rw [he, hx, hn]; rfl, hq⟩
end
end Go.Proofs.YtfofnagocedlgaaGreatDoor.Sl
end
section
/-
  SORTING a slice of whole numbers by a function that only reads.
-/
set_option maxRecDepth 100000
set_option linter.unusedVariables false
set_option linter.unusedSectionVars false
set_option linter.unusedSimpArgs false
namespace Go.Proofs.YtfofnagocedlgaaGreatDoor.Sl
open Go Sh Go.Sort
section
variable {e : Env} {ctx : List HProp} {α : Type} [Inhabited α]
theorem Sat.grow {w : World} (h : Sat e (sepL ctx) w) (os : Array Obj) : Sat e (sepL ctx) (Sort.grow w os) :=
  ⟨h.os, h.tape, h.output, sepL_mono (fun i o ho => by
    have ho' : w.heap[i]? = some o := ho
    show (w.heap ++ os)[i]? = some o
    rw [Array.getElem?_append_left (Array.getElem?_eq_some_iff.1 ho').1]; exact ho') h.heap⟩
theorem putCells_list (enc : α → Value) (d : Array α) (l r : List Value) (h : d.size = l.length) : putCells enc 0 d (l ++ r).toArray = (d.toList.map enc ++ r).toArray := by
  apply Array.ext
  · simp [putCells, h]
  · intro i h1 h2
    simp only [putCells, Array.getElem_mapIdx, Nat.zero_le, true_and, Nat.zero_add, Nat.sub_zero]
    by_cases hi : i < d.size
    · rw [if_pos hi, getElem!_pos d i hi]
      simp [List.getElem_append, hi]
    · rw [if_neg hi]
      have : ¬ i < l.length := by omega
      simp [List.getElem_append, hi, this, h]
theorem Sat.sorted {enc : α → Value} {w : World} {b n : Nat} {l r : List Value} {d : Array α} {os : Array Obj} (h : Sat e (sepL (pt b (l ++ r) :: ctx)) w) (hd : d.size = l.length) :
    Sat e (sepL (pt b (d.toList.map enc ++ r) :: ctx)) (sortWorld enc w b 0 n d os) := by
  unfold sortWorld
  refine Sat.grow ?_ os
  unfold putRow mapBlock
  have h2 : Sat e (sepL (pt b (l ++ r) :: ctx)) (Sort.ahead w n) := h.drawn _
  obtain ⟨T, fr, hb, hf⟩ := Has.pt .hd h2
  refine Sat.turn2 (b := b) (o' := .cells (d.toList.map enc ++ r).toArray T fr) h2 (fun g hg hl => ?_) rfl rfl rfl ?_ ?_
  · obtain ⟨T', fr', hg1, hg2⟩ := hg
    have h3 : (Sort.ahead w n).heap[b]? = some (.cells (l ++ r).toArray T' fr') := hl _ _ hg1
    rw [hb] at h3
    cases h3
    refine ⟨⟨_, hg1⟩, T, fr, by simp, fun i hi => hg2 i ?_⟩
    simp only [List.length_append, List.length_map, Array.length_toList, hd] at hi ⊢
    exact hi
  · show ((Sort.ahead w n).heap.modify b (onCells (putCells enc 0 d)))[b]? = _
    rw [Array.getElem?_modify, if_pos rfl, hb]
    simp only [Option.map_some, onCells, putCells_list enc d l r hd]
  · intro i hi
    show ((Sort.ahead w n).heap.modify b (onCells (putCells enc 0 d)))[i]? = _
    rw [Array.getElem?_modify, if_neg (Ne.symm hi)]
theorem holds_of_sat {enc : α → Value} {w : World} {b : Nat} {l : List α} {r : List Value} (h : Sat e (sepL (pt b (l.map enc ++ r) :: ctx)) w) : Holds enc w b 0 l.toArray := by
  obtain ⟨T, fr, hb, hf⟩ := Has.pt .hd h
  intro j hj
  have hj' : j < l.length := by simpa using hj
  rw [Nat.zero_add]
  constructor
  · simp only [World.cell?, hb]
    rw [getElem!_pos l.toArray j hj]
    simp [List.getElem?_append_left, hj']
  · simp only [World.frozen?, hb]
    have := hf j (by simp; omega)
    simp only [not_and, Nat.not_lt] at this
    cases hc : decide (fr.1 ≤ j) && decide (j < fr.2) with
    | false => rfl
    | true =>
      simp only [Bool.and_eq_true, decide_eq_true_eq] at hc
      have := this hc.1
      omega
theorem perm_of {l : List α} {d' : Array α} (h : PermIn 0 l.length l.toArray d') : d'.size = l.length ∧ d'.toList.Perm l := by
  obtain ⟨h1, _, h3⟩ := h
  have h1' : d'.size = l.length := by simpa using h1
  refine ⟨h1', ?_⟩
  have e1 : d'.extract 0 l.length = d' := by rw [← h1']; simp
  have e2 : l.toArray.extract 0 l.length = l.toArray := by simp
  rw [e1, e2] at h3
  simpa using h3
/-- sorting whole numbers -/
theorem Ent.sortInts {a : Option Addr} {n c g : Nat} {cb : Array Value} {l : List Int} {K : Value → WP} (cf : Int → Int → Int) (hO : SWO (ltOf cf)) (hg : memN cll g = true) (hn : n = l.length) (hb : n < 4611686018427387904)
    (hcmp : ∀ W, Sat e (sepL ctx) W → ∀ x y : Int, Calls P g (#[.int .i64 x, .int .i64 y] ++ cb) W fun e w' => e = .returned (.int .i64 (cf x y)) ∧ ∃ q, w' = W.drewN q)
    (h : ∀ l' : List Int, l'.Perm l → l'.Pairwise (fun x y => ¬ cf y x < 0) → Ent e (SlO a n c 1 (l'.map fun x => .int .i64 x) :: ctx) (K (.tuple #[]))) :
    Ent e (SlO a n c 1 (l.map fun x => .int .i64 x) :: ctx) (slices_SortFunc_int (.slice a n c) (.func (.func g) #[] cb) K) := fun w hw => by
  subst hn
  obtain ⟨g1, g2, hd, l1, l2, ⟨hl, hA⟩, hr⟩ := hw.heap
  rcases hA with ⟨ha, hn0, hc⟩ | ⟨b, r, ha, hc, hcr, hp⟩
  · subst ha
    have hl0 : l = [] := List.eq_nil_of_length_eq_zero hn0
    subst hl0
    refine Calls.mono (Tryz.slices_SortFunc_none (α := Unit) none c (.func (.func g) #[] cb) w) fun e w' ⟨he, hw'⟩ => ?_
    subst he hw'
    exact ⟨_, rfl, _, rfl, h [] (List.Perm.refl _) List.Pairwise.nil _ hw⟩
  · subst ha
    have hw2 : Sat e (sepL (pt b (l.map (fun x => Value.int .i64 x) ++ r) :: ctx)) w := ⟨hw.os, hw.tape, hw.output, g1, g2, hd, l1, l2, hp, hr⟩
    have hlt : b < w.heap.size := by
      obtain ⟨T, fr, hb, _⟩ := Has.pt .hd hw2
      exact (Array.getElem?_eq_some_iff.1 hb).1
    have key := Tryz.slices_SortFunc (fun x : Int => Value.int .i64 x) (fun _ => rfl) cf hO g cb b 0 c l.toArray w (fun args w => callFunc_run (cx_ok.calls g hg) args w)
      (CmpReads.lays fun m os dk hs x y => by
        have hs' : dk.size = (l.map fun x => Value.int .i64 x).length := by simpa using hs
        have hw3 := Sat.sorted (enc := fun x : Int => Value.int .i64 x) (n := m) (os := os) hw2 hs'
        exact hcmp _ (hw3.imp fun _ => sepL_drop) x y)
      (holds_of_sat hw2) hlt (by simpa using hb)
    refine Calls.mono key fun e w' ⟨he, d', n, os, hp1, hs1, hw'⟩ => ?_
    subst he hw'
    obtain ⟨p1, p2⟩ := perm_of (l := l) (by simpa using hp1)
    refine ⟨_, rfl, _, rfl, h d'.toList p2 ?_ _ ?_⟩
    · rw [List.pairwise_iff_getElem]
      intro i j hi hj hij
      have hj' : j < d'.size := by simpa using hj
      have hi' : i < d'.size := by simpa using hi
      have := hs1 i j (Nat.zero_le _) hij (by simpa [← p1] using hj')
      rw [getElem!_pos d' i hi', getElem!_pos d' j hj'] at this
      simpa [ltOf] using this
    · have := Sat.sorted (enc := fun x : Int => Value.int .i64 x) (n := n) (os := os) hw2 (d := d') (by simpa using p1)
      refine this.imp fun _ k => sepL_cons (fun hh kk => ?_) (fun _ z => z) k
      refine ⟨by simp [p1], .inr ⟨b, r, rfl, hc, ?_, kk⟩⟩
      simpa [p1] using hcr
end
end Go.Proofs.YtfofnagocedlgaaGreatDoor.Sl
end
section
/-
  FLOATS THAT HOLD WHOLE NUMBERS: sums, products and comparisons of numbers below 2^53 are exact.
-/
set_option linter.unusedVariables false
set_option linter.unusedSimpArgs false
set_option maxHeartbeats 2000000
namespace Go.Proofs.YtfofnagocedlgaaGreatDoor.Fl
open Go Ieee
/-- the word of a whole number below 2^53, read -/
def canon (n : Nat) : Nat := n * 2 ^ (52 - n.log2)
theorem log2_lt {c : Nat} (hc : c ≠ 0) (h : c < 2 ^ 53) : c.log2 ≤ 52 := by
  have := (Nat.log2_lt hc).2 h
  omega
theorem canon_ge {c : Nat} (hc : c ≠ 0) (h : c < 2 ^ 53) : 2 ^ 52 ≤ canon c ∧ canon c < 2 ^ 53 := by
  have hl := log2_lt hc h
  have h1 := Nat.log2_self_le hc
  have h2 := Nat.lt_log2_self (n := c)
  unfold canon
  constructor
  · calc 2 ^ 52 = 2 ^ c.log2 * 2 ^ (52 - c.log2) := by rw [← Nat.pow_add]; congr 1; omega
      _ ≤ c * 2 ^ (52 - c.log2) := Nat.mul_le_mul_right _ h1
  · calc c * 2 ^ (52 - c.log2) < 2 ^ (c.log2 + 1) * 2 ^ (52 - c.log2) := Nat.mul_lt_mul_of_pos_right h2 (Nat.two_pow_pos _)
      _ = 2 ^ 53 := by rw [← Nat.pow_add]; congr 1; omega
theorem log2_shift {c k : Nat} (hc : c ≠ 0) : (c * 2 ^ k).log2 = c.log2 + k := by
  have hne : c * 2 ^ k ≠ 0 := by
    have := Nat.two_pow_pos k
    exact Nat.mul_ne_zero hc (by omega)
  apply (Nat.log2_eq_iff hne).2
  have h1 := Nat.log2_self_le hc
  have h2 := Nat.lt_log2_self (n := c)
  constructor
  · rw [Nat.pow_add]; exact Nat.mul_le_mul_right _ h1
  · have : 2 ^ (c.log2 + k + 1) = 2 ^ (c.log2 + 1) * 2 ^ k := by rw [← Nat.pow_add]; congr 1; omega
    rw [this]; exact Nat.mul_lt_mul_of_pos_right h2 (Nat.two_pow_pos _)
theorem cut_exact {neg : Bool} {n d : Nat} (hd : d ≤ n.log2) (hdv : 2 ^ d ∣ n) : Toward.even.cut neg n d = n / 2 ^ d := by
  unfold Toward.cut
  have e1 : 1 <<< min d (n.log2 + 2) = 2 ^ d := by rw [Nat.min_eq_left (by omega), Nat.one_shiftLeft]
  rw [e1]
  have e2 : n % 2 ^ d = 0 := Nat.mod_eq_zero_of_dvd hdv
  have := Nat.two_pow_pos d
  simp [e2]
/-- a word by its sign, its significand and its place -/
theorem read_word {neg : Bool} {m r : Nat} (h1 : 2 ^ 52 ≤ m) (h2 : m < 2 ^ 53) (h3 : r ≤ 2000) : double.read (double.word neg (min (r * double.binade + m) double.infRung)) = .number neg m (double.leastPlace + (r : Int)) := by
  have hb : double.binade = 4503599627370496 := by decide
  have hi : double.infRung = 9218868437227405312 := by decide
  have hs : double.signWeight = 9223372036854775808 := by decide
  have e1 : min (r * double.binade + m) double.infRung = r * 4503599627370496 + m := by rw [hb, hi]; omega
  rw [e1]
  have e2 : double.word neg (r * 4503599627370496 + m) = (if neg then 9223372036854775808 else 0) + (r * 4503599627370496 + m) := by unfold Format.word; rw [hs]; split <;> omega
  unfold Format.read
  rw [e2, hs, hb, hi]
  have e3 : (if neg then 9223372036854775808 else 0) + (r * 4503599627370496 + m) = (if neg = true then 1 else 0) * 9223372036854775808 + (r * 4503599627370496 + m) := by split <;> omega
  rw [e3]
  have lt : r * 4503599627370496 + m < 9223372036854775808 := by omega
  have e4 : ((if neg = true then 1 else 0) * 9223372036854775808 + (r * 4503599627370496 + m)) / 9223372036854775808 = if neg = true then 1 else 0 := by omega
  have e5 : ((if neg = true then 1 else 0) * 9223372036854775808 + (r * 4503599627370496 + m)) % 9223372036854775808 = r * 4503599627370496 + m := by omega
  rw [e4, e5]
  have e6 : ((if neg = true then 1 else 0) % 2 == 1) = neg := by cases neg <;> rfl
  simp only [e6]
  rw [if_neg (by omega), if_pos (by omega)]
  have e7 : 4503599627370496 + (r * 4503599627370496 + m) % 4503599627370496 = m := by omega
  have e8 : (r * 4503599627370496 + m) / 4503599627370496 - 1 = r := by omega
  rw [e7, e8]
theorem read_nearest {neg : Bool} {c k : Nat} (hc : c ≠ 0) (h : c < 2 ^ 53) : double.read (double.nearest neg (c * 2 ^ k) (-(k : Int))) = .number neg (canon c) ((c.log2 : Int) - 52) := by
  have hl := log2_lt hc h
  have hlp : double.leastPlace = -1074 := by decide
  have hf : double.fractionBits = 52 := rfl
  have hne : c * 2 ^ k ≠ 0 := Nat.mul_ne_zero hc (by have := Nat.two_pow_pos k; omega)
  unfold Format.nearest
  rw [if_neg hne]
  simp only [log2_shift hc, hlp, hf]
  have e1 : max (-(k : Int) + ((c.log2 + k : Nat) : Int) - ((52 : Nat) : Int)) (-1074) = (c.log2 : Int) - 52 := by omega
  rw [e1]
  have hcg := canon_ge hc h
  have e2 : Toward.even.cut neg ((c * 2 ^ k) <<< (-(k : Int) - ((c.log2 : Int) - 52)).toNat) (((c.log2 : Int) - 52) - -(k : Int)).toNat = canon c := by
    by_cases hk : c.log2 + k ≤ 52
    · have a1 : (-(k : Int) - ((c.log2 : Int) - 52)).toNat = 52 - c.log2 - k := by omega
      have a2 : (((c.log2 : Int) - 52) - -(k : Int)).toNat = 0 := by omega
      rw [a1, a2, cut_exact (Nat.zero_le _) (by simp)]
      rw [Nat.shiftLeft_eq, Nat.mul_assoc, ← Nat.pow_add]
      unfold canon
      simp only [Nat.pow_zero, Nat.div_one]
      congr 2; omega
    · have a1 : (-(k : Int) - ((c.log2 : Int) - 52)).toNat = 0 := by omega
      have a2 : (((c.log2 : Int) - 52) - -(k : Int)).toNat = c.log2 + k - 52 := by omega
      rw [a1, a2, Nat.shiftLeft_zero]
      have a3 : c * 2 ^ k = canon c * 2 ^ (c.log2 + k - 52) := by
        unfold canon
        rw [Nat.mul_assoc, ← Nat.pow_add]
        congr 2; omega
      rw [cut_exact (by rw [log2_shift hc]; omega) (by rw [a3]; exact Nat.dvd_mul_left _ _), a3, Nat.mul_div_cancel _ (Nat.two_pow_pos _)]
  rw [e2]
  have e3 : ((c.log2 : Int) - 52 - -1074).toNat = c.log2 + 1022 := by omega
  have e4 : (-1074 : Int) + ((c.log2 + 1022 : Nat) : Int) = (c.log2 : Int) - 52 := by omega
  rw [e3, read_word hcg.1 hcg.2 (by omega), hlp, e4]
/-- the word 'w' stands for the whole number 'n' -/
def FV (w : Nat) (n : Int) : Prop := n.natAbs < 2 ^ 53 ∧ ((n = 0 ∧ ∃ s, double.read w = .number s 0 (-1074)) ∨ (n ≠ 0 ∧ double.read w = .number (decide (n < 0)) (canon n.natAbs) ((n.natAbs.log2 : Int) - 52)))
theorem zz (k : Nat) : (0 : Nat) = (0 : Int).natAbs * 2 ^ k := by simp
/-- it is some multiple -/
theorem FV.num {w : Nat} {n : Int} (h : FV w n) : ∃ (s : Bool) (m k : Nat), double.read w = .number s m (-(k : Int)) ∧ m = n.natAbs * 2 ^ k ∧ (n ≠ 0 → s = decide (n < 0)) ∧ k ≤ 1074 := by
  obtain ⟨h0, ⟨rfl, s, h⟩ | ⟨hn, h⟩⟩ := h
  · exact ⟨s, 0, 1074, h, zz 1074, fun h => absurd rfl h, by omega⟩
  · have hl := log2_lt (by omega : n.natAbs ≠ 0) h0
    refine ⟨_, _, 52 - n.natAbs.log2, ?_, rfl, fun _ => rfl, by omega⟩
    have e1 : (n.natAbs.log2 : Int) - 52 = -((52 - n.natAbs.log2 : Nat) : Int) := by omega
    rw [h, e1]
    rfl
theorem FV.signed {w : Nat} {n : Int} (h : FV w n) : ∃ (s : Bool) (m k : Nat), double.read w = .number s m (-(k : Int)) ∧ k ≤ 1074 ∧ ∀ j, signed s m j = n * ((2 ^ (k + j) : Nat) : Int) := by
  obtain ⟨s, m, k, h1, h2, h3, h4⟩ := h.num
  refine ⟨s, m, k, h1, h4, fun j => ?_⟩
  unfold Ieee.signed
  rw [h2, Nat.shiftLeft_eq, Nat.mul_assoc, ← Nat.pow_add]
  by_cases hn : n = 0
  · subst hn; simp
  · rw [h3 hn]
    by_cases hneg : n < 0
    · simp only [hneg, decide_true, if_true]
      rw [Int.natCast_mul, ← Int.neg_mul]
      congr 1; omega
    · simp only [hneg, decide_false, Bool.false_eq_true, if_false]
      rw [Int.natCast_mul]
      congr 1; omega
/-- a number that is written -/
theorem FV.write {s : Bool} {n : Int} {k : Nat} (h : n.natAbs < 2 ^ 53) (hs : n ≠ 0 → s = decide (n < 0)) : FV (double.write (.number s (n.natAbs * 2 ^ k) (-(k : Int)))) n := by
  refine ⟨h, ?_⟩
  by_cases hn : n = 0
  · subst hn
    refine .inl ⟨rfl, s, ?_⟩
    simp only [Format.write, Format.nearest, Int.natAbs_zero, Nat.zero_mul, if_true]
    cases s <;> decide
  · refine .inr ⟨hn, ?_⟩
    have := read_nearest (neg := s) (c := n.natAbs) (k := k) (by omega) h
    rw [← hs hn]
    exact this
theorem FV.neg {y : Nat} {b : Int} (hy : FV y b) : ∃ (s : Bool) (m k : Nat), (double.read y).opposite = .number s m (-(k : Int)) ∧ k ≤ 1074 ∧ ∀ j, Ieee.signed s m j = -b * ((2 ^ (k + j) : Nat) : Int) := by
  obtain ⟨s, m, k, h1, h2, h3⟩ := hy.signed
  refine ⟨!s, m, k, by rw [h1]; rfl, h2, fun j => ?_⟩
  have : Ieee.signed (!s) m j = -Ieee.signed s m j := by unfold Ieee.signed; cases s <;> simp
  rw [this, h3, Int.neg_mul]
theorem sum_of {s t : Bool} {m i n j : Nat} {a b : Int} (h3 : ∀ q, Ieee.signed s m q = a * ((2 ^ (i + q) : Nat) : Int)) (g3 : ∀ q, Ieee.signed t n q = b * ((2 ^ (j + q) : Nat) : Int)) (h : (a + b).natAbs < 2 ^ 53) :
    ∃ z, ((Datum.number s m (-(i : Int))).sum (.number t n (-(j : Int)))).map double.write = some z ∧ FV z (a + b) := by
  simp only [Datum.sum, Option.map_some]
  refine ⟨_, rfl, ?_⟩
  have e0 : min (-(i : Int)) (-(j : Int)) = -((max i j : Nat) : Int) := by omega
  rw [e0, h3, g3]
  have e1 : i + (-(i : Int) - -((max i j : Nat) : Int)).toNat = max i j := by omega
  have e2 : j + (-(j : Int) - -((max i j : Nat) : Int)).toNat = max i j := by omega
  rw [e1, e2, ← Int.add_mul]
  have e3 : ((a + b) * ((2 ^ max i j : Nat) : Int)).natAbs = (a + b).natAbs * 2 ^ max i j := by rw [Int.natAbs_mul, Int.natAbs_natCast]
  rw [e3]
  have hp := Nat.two_pow_pos (max i j)
  refine FV.write h fun hne => ?_
  have hne2 : (a + b) * ((2 ^ max i j : Nat) : Int) ≠ 0 := Int.mul_ne_zero hne (by omega)
  rw [if_neg hne2]
  by_cases hneg : a + b < 0
  · have : (a + b) * ((2 ^ max i j : Nat) : Int) < 0 := Int.mul_neg_of_neg_of_pos hneg (by omega)
    rw [decide_eq_true hneg]
    exact decide_eq_true this
  · have : ¬ (a + b) * ((2 ^ max i j : Nat) : Int) < 0 := by
      have := Int.mul_nonneg (by omega : 0 ≤ a + b) (by omega : 0 ≤ ((2 ^ max i j : Nat) : Int))
      omega
    simp only [hneg, this]
theorem FV.add {x y : Nat} {a b : Int} (hx : FV x a) (hy : FV y b) (h : (a + b).natAbs < 2 ^ 53) : ∃ z, double.add x y = some z ∧ FV z (a + b) := by
  obtain ⟨s, m, i, h1, h2, h3⟩ := hx.signed
  obtain ⟨t, n, j, g1, g2, g3⟩ := hy.signed
  unfold Format.add
  rw [h1, g1]
  exact sum_of h3 g3 h
theorem FV.sub {x y : Nat} {a b : Int} (hx : FV x a) (hy : FV y b) (h : (a - b).natAbs < 2 ^ 53) : ∃ z, double.sub x y = some z ∧ FV z (a - b) := by
  obtain ⟨s, m, i, h1, h2, h3⟩ := hx.signed
  obtain ⟨t, n, j, g1, g2, g3⟩ := hy.neg
  unfold Format.sub
  rw [h1, g1]
  have := sum_of h3 g3 (by rw [← Int.sub_eq_add_neg]; exact h)
  rw [← Int.sub_eq_add_neg] at this
  exact this
theorem FV.mul {x y : Nat} {a b : Int} (hx : FV x a) (hy : FV y b) (h : (a * b).natAbs < 2 ^ 53) : ∃ z, double.mul x y = some z ∧ FV z (a * b) := by
  obtain ⟨s, m, i, h1, h2, h3, h4⟩ := hx.num
  obtain ⟨t, n, j, g1, g2, g3, g4⟩ := hy.num
  unfold Format.mul
  rw [h1, g1]
  simp only [Datum.product, Option.map_some]
  refine ⟨_, rfl, ?_⟩
  have e0 : -(i : Int) + -(j : Int) = -((i + j : Nat) : Int) := by omega
  have e1 : m * n = (a * b).natAbs * 2 ^ (i + j) := by
    rw [h2, g2, Int.natAbs_mul, Nat.pow_add]
    simp only [Nat.mul_assoc, Nat.mul_left_comm]
  rw [e0, e1]
  refine FV.write h fun hne => ?_
  have ha : a ≠ 0 := fun h => hne (by rw [h, Int.zero_mul])
  have hb : b ≠ 0 := fun h => hne (by rw [h, Int.mul_zero])
  rw [h3 ha, g3 hb]
  by_cases p : a < 0 <;> by_cases q : b < 0
  · have : ¬ a * b < 0 := by have := Int.mul_pos_of_neg_of_neg p q; omega
    simp [p, q, this]
  · have : a * b < 0 := Int.mul_neg_of_neg_of_pos p (by omega)
    simp [p, q, this]
  · have : a * b < 0 := Int.mul_neg_of_pos_of_neg (by omega) q
    simp [p, q, this]
  · have : ¬ a * b < 0 := by have := Int.mul_nonneg (by omega : 0 ≤ a) (by omega : 0 ≤ b); omega
    simp [p, q, this]
theorem FV.order {x y : Nat} {a b : Int} (hx : FV x a) (hy : FV y b) : double.order x y = some (compare a b) := by
  obtain ⟨s, m, i, h1, h2, h3⟩ := hx.signed
  obtain ⟨t, n, j, g1, g2, g3⟩ := hy.signed
  unfold Format.order
  rw [h1, g1]
  simp only [Datum.order]
  have e0 : min (-(i : Int)) (-(j : Int)) = -((max i j : Nat) : Int) := by omega
  rw [e0, h3, g3]
  have e1 : i + (-(i : Int) - -((max i j : Nat) : Int)).toNat = max i j := by omega
  have e2 : j + (-(j : Int) - -((max i j : Nat) : Int)).toNat = max i j := by omega
  rw [e1, e2]
  have hp := Nat.two_pow_pos (max i j)
  have hp' : (0 : Int) < ((2 ^ max i j : Nat) : Int) := by omega
  congr 1
  simp only [compare, compareOfLessAndEq]
  have l1 : a * ((2 ^ max i j : Nat) : Int) < b * ((2 ^ max i j : Nat) : Int) ↔ a < b := Int.mul_lt_mul_right hp'
  have l2 : a * ((2 ^ max i j : Nat) : Int) = b * ((2 ^ max i j : Nat) : Int) ↔ a = b := Int.mul_eq_mul_right_iff (by omega)
  simp only [l1, l2]
theorem FV.ofInt {n : Int} (h : n.natAbs < 2 ^ 53) : FV (FloatKind.f64.nearest n) n := by
  have := FV.write (s := decide (n < 0)) (n := n) (k := 0) h (fun _ => rfl)
  have h2 : FV (double.write (.number (decide (n < 0)) n.natAbs 0)) n := by simpa using this
  exact h2
theorem cut_zero {n d : Nat} : Toward.zero.cut false n d = n / 2 ^ d := by
  unfold Toward.cut
  have e1 : 1 <<< min d (n.log2 + 2) = 2 ^ min d (n.log2 + 2) := by rw [Nat.one_shiftLeft]
  simp only [e1, Bool.toNat_false, Nat.add_zero]
  by_cases h : d ≤ n.log2 + 2
  · rw [Nat.min_eq_left h]
  · rw [Nat.min_eq_right (by omega)]
    have h1 := Nat.lt_log2_self (n := n)
    have h2 : 2 ^ (n.log2 + 1) ≤ 2 ^ (n.log2 + 2) := Nat.pow_le_pow_right (by omega) (by omega)
    have h3 : 2 ^ (n.log2 + 2) ≤ 2 ^ d := Nat.pow_le_pow_right (by omega) (by omega)
    rw [Nat.div_eq_of_lt (by omega), Nat.div_eq_of_lt (by omega)]
theorem toInt_pos {m k : Nat} : (Datum.number false m (-(k : Int))).toInt .zero = some ((m / 2 ^ k : Nat) : Int) := by
  unfold Datum.toInt
  simp only [Datum.integral]
  have e1 : (-(k : Int)).toNat = 0 := by omega
  have e2 : (-(-(k : Int))).toNat = k := by omega
  rw [e1, e2, Nat.shiftLeft_zero, cut_zero]
  simp [Ieee.signed]
theorem FV.div {x : Nat} {a : Nat} (hx : FV x a) (h : a < 2097152) : ∃ z, double.div x 4652007308841189376 = some z ∧ (double.read z).toInt .zero = some ((a / 1000 : Nat) : Int) := by
  have hc : double.read 4652007308841189376 = .number false (1000 * 2 ^ 43) (-43) := by decide +kernel
  obtain ⟨h0, ⟨ha, s, hr⟩ | ⟨hn, hr⟩⟩ := hx
  · have ha0 : a = 0 := by omega
    subst ha0
    unfold Format.div
    rw [hr, hc]
    refine ⟨_, rfl, ?_⟩
    cases s <;> decide +kernel
  · have hneg : decide ((a : Int) < 0) = false := decide_eq_false (by omega)
    rw [hneg] at hr
    simp only [Int.natAbs_natCast] at hr h0
    have ha : a ≠ 0 := by omega
    obtain ⟨L, hL⟩ : ∃ L, L = a.log2 := ⟨_, rfl⟩
    have hL20 : L ≤ 20 := by
      have := (Nat.log2_lt ha (k := 21)).2 (by omega)
      omega
    have g1 := Nat.log2_self_le ha
    have g2 := Nat.lt_log2_self (n := a)
    rw [← hL] at hr g1 g2
    obtain ⟨V, hV⟩ : ∃ V, V = 2 ^ (61 - L) := ⟨_, rfl⟩
    have hV1 : 2 ^ 41 ≤ V := by rw [hV]; exact Nat.pow_le_pow_right (by omega) (by omega)
    have hcan : canon a = a * 2 ^ (52 - L) := by unfold canon; rw [← hL]
    have hcl : (canon a).log2 = 52 := by rw [hcan, log2_shift ha, ← hL]; omega
    have hnl : (1000 * 2 ^ 43).log2 = 52 := by decide +kernel
    have hX1 : 2 ^ 63 ≤ a * (4 * V) := by
      have : 2 ^ 63 = 2 ^ L * (4 * V) := by
        rw [hV, show (4 : Nat) = 2 ^ 2 from rfl, ← Nat.pow_add, ← Nat.pow_add]; congr 1; omega
      rw [this]; exact Nat.mul_le_mul_right _ g1
    have hX2 : a * (4 * V) < 2 ^ 64 := by
      have : 2 ^ 64 = 2 ^ (L + 1) * (4 * V) := by
        rw [hV, show (4 : Nat) = 2 ^ 2 from rfl, ← Nat.pow_add, ← Nat.pow_add]; congr 1; omega
      rw [this]; exact Nat.mul_lt_mul_of_pos_right g2 (by omega)
    have hdv : canon a <<< 54 = a * (4 * V) * 2 ^ 43 := by
      rw [hcan, Nat.shiftLeft_eq, hV, show (4 : Nat) = 2 ^ 2 from rfl, Nat.mul_assoc, Nat.mul_assoc, ← Nat.pow_add, Nat.mul_assoc, ← Nat.pow_add, ← Nat.pow_add]
      congr 2; omega
    have hq : (canon a <<< 54) / (1000 * 2 ^ 43) = a * (4 * V) / 1000 := by rw [hdv]; exact Nat.mul_div_mul_right _ _ (by omega)
    obtain ⟨bit, hbit⟩ : ∃ bit, bit = ((canon a <<< 54) % (1000 * 2 ^ 43) != 0).toNat := ⟨_, rfl⟩
    have hb1 : bit ≤ 1 := by rw [hbit]; cases ((canon a <<< 54) % (1000 * 2 ^ 43) != 0) <;> decide
    obtain ⟨q, hqq⟩ : ∃ q, q = a * (4 * V) / 1000 := ⟨_, rfl⟩
    obtain ⟨M, hM⟩ : ∃ M, M = 2 * q + bit := ⟨_, rfl⟩
    have hdiv : double.div x 4652007308841189376 = some (double.nearest false M ((L : Int) - 64)) := by
      unfold Format.div
      rw [hr, hc]
      simp only [Datum.quotient, Option.map_some]
      have hne : ¬ 1000 * 2 ^ 43 = 0 := by decide
      have hm : double.fractionBits + 2 + (1000 * 2 ^ 43).log2 - (canon a).log2 = 54 := by rw [hnl, hcl]; rfl
      rw [if_neg hne, hm, hq, ← hbit, ← hqq, ← hM]
      have e1 : (L : Int) - 52 - -43 - ((54 : Nat) : Int) - 1 = (L : Int) - 64 := by omega
      rw [e1]
      rfl
    refine ⟨_, hdiv, ?_⟩
    have hq1 : 1000 * q ≤ a * (4 * V) ∧ a * (4 * V) < 1000 * q + 1000 := by omega
    have hM1 : 18446744073709550 ≤ M := by omega
    have hM2 : M ≤ 36893488147419103 := by omega
    -- what is asked of the significand
    obtain ⟨k, hk⟩ : ∃ k, k = a / 1000 := ⟨_, rfl⟩
    obtain ⟨r, hr'⟩ : ∃ r, r = a % 1000 := ⟨_, rfl⟩
    have hakr : a = 1000 * k + r := by omega
    have hXe : a * (4 * V) = 4000 * (k * V) + 4 * (r * V) := by rw [hakr, Nat.add_mul]; simp only [Nat.mul_assoc, Nat.mul_left_comm k, Nat.mul_left_comm r]; omega
    have hrV : r * V ≤ 999 * V := Nat.mul_le_mul_right _ (by omega)
    have key : ∀ kept g : Nat, (g = 4 ∨ g = 8) → M / g ≤ kept → kept ≤ M / g + 1 → kept / ((8 / g) * V) = k := by
      intro kept g hg l1 l2
      have hkV : k * (2 * V) = 2 * (k * V) := by rw [Nat.mul_left_comm]
      have hlo : k * ((8 / g) * V) ≤ kept ∧ kept < k * ((8 / g) * V) + (8 / g) * V := by
        rcases hg with rfl | rfl
        · simp only [show 8 / 4 = 2 from rfl]; rw [hkV]; omega
        · simp only [show 8 / 8 = 1 from rfl, Nat.one_mul]; omega
      have hpos : 0 < (8 / g) * V := by rcases hg with rfl | rfl <;> simp only [show 8 / 4 = 2 from rfl, show 8 / 8 = 1 from rfl] <;> omega
      refine Nat.div_eq_of_lt_le hlo.1 ?_
      rw [Nat.add_mul, Nat.one_mul]; exact hlo.2
    have hM0 : M ≠ 0 := by omega
    have hlp : double.leastPlace = -1074 := by decide
    have hf : double.fractionBits = 52 := rfl
    have fin : ∀ (D : Nat), (D = 2 ∨ D = 3) → M.log2 = 52 + D → (double.read (double.nearest false M ((L : Int) - 64))).toInt .zero = some ((k : Nat) : Int) := by
      intro D hD hlog
      unfold Format.nearest
      rw [if_neg hM0]
      simp only [hlog, hlp, hf]
      have e1 : max ((L : Int) - 64 + ((52 + D : Nat) : Int) - ((52 : Nat) : Int)) (-1074) = (L : Int) - 64 + D := by omega
      rw [e1]
      have e2 : ((L : Int) - 64 - ((L : Int) - 64 + D)).toNat = 0 := by omega
      have e3 : ((L : Int) - 64 + D - ((L : Int) - 64)).toNat = D := by omega
      have e4 : ((L : Int) - 64 + D - -1074).toNat = L + D + 1010 := by omega
      rw [e2, e3, e4, Nat.shiftLeft_zero]
      obtain ⟨kept, hkept⟩ : ∃ kept, kept = Toward.even.cut false M D := ⟨_, rfl⟩
      rw [← hkept]
      have hgap : 1 <<< min D (M.log2 + 2) = 2 ^ D := by rw [Nat.min_eq_left (by omega), Nat.one_shiftLeft]
      have hkb : M / 2 ^ D ≤ kept ∧ kept ≤ M / 2 ^ D + 1 := by
        rw [hkept]
        unfold Toward.cut
        rw [hgap]
        simp only
        generalize (decide (2 ^ D < 2 * (M % 2 ^ D)) || (2 ^ D == 2 * (M % 2 ^ D) && M / 2 ^ D % 2 == 1)) = bb
        cases bb <;> simp
      have hk2 := key kept (2 ^ D) (by rcases hD with rfl | rfl <;> simp) hkb.1 hkb.2
      have hlog1 := Nat.log2_self_le hM0
      have hlog2 := Nat.lt_log2_self (n := M)
      rw [hlog] at hlog1 hlog2
      have hkr : 2 ^ 52 ≤ kept ∧ kept ≤ 2 ^ 53 := by rcases hD with rfl | rfl <;> simp only [Nat.reducePow, Nat.reduceAdd] at hlog1 hlog2 hkb ⊢ <;> omega
      have hVD : 8 / 2 ^ D * V = 2 ^ (64 - L - D) := by
        rw [hV]
        rcases hD with rfl | rfl
        · have u1 : (8 / 2 ^ 2 : Nat) = 2 ^ 1 := by decide
          have u2 : 1 + (61 - L) = 64 - L - 2 := by omega
          rw [u1, ← Nat.pow_add, u2]
        · have u1 : (8 / 2 ^ 3 : Nat) = 2 ^ 0 := by decide
          have u2 : 0 + (61 - L) = 64 - L - 3 := by omega
          rw [u1, ← Nat.pow_add, u2]
      rw [hVD] at hk2
      by_cases hcar : kept < 2 ^ 53
      · rw [read_word hkr.1 hcar (by omega), hlp]
        have e5 : (-1074 : Int) + ((L + D + 1010 : Nat) : Int) = -((64 - L - D : Nat) : Int) := by omega
        rw [e5, toInt_pos, hk2]
      · have hke : kept = 2 ^ 53 := by omega
        have e6 : (L + D + 1010) * double.binade + kept = (L + D + 1010 + 1) * double.binade + 2 ^ 52 := by
          have hb : double.binade = 4503599627370496 := by decide
          rw [hb, hke]; omega
        rw [e6, read_word (Nat.le_refl _) (by omega) (by omega), hlp]
        have e5 : (-1074 : Int) + ((L + D + 1010 + 1 : Nat) : Int) = -((64 - L - D - 1 : Nat) : Int) := by omega
        rw [e5, toInt_pos]
        rw [← hk2, hke]
        have e7 : 2 ^ (64 - L - D) = 2 ^ (64 - L - D - 1) * 2 := by
          have u3 : 64 - L - D = (64 - L - D - 1) + 1 := by omega
          exact (congrArg (2 ^ ·) u3).trans (Nat.pow_succ ..)
        have e8 : (9007199254740992 : Nat) / 2 = 4503599627370496 := by decide
        rw [e7, Nat.mul_comm _ 2, ← Nat.div_div_eq_div_mul]
    have hMl : M.log2 = 54 ∨ M.log2 = 55 := by
      have l1 : ¬ M.log2 < 54 := fun h => by have := (Nat.log2_lt hM0).1 h; omega
      have l2 : M.log2 < 56 := (Nat.log2_lt hM0).2 (by omega)
      omega
    rw [← hk]
    rcases hMl with h | h
    · exact fin 2 (.inl rfl) h
    · exact fin 3 (.inr rfl) h
/-! the operations -/
open Sh Sl
section
theorem guard_flt (op : BinOp) (t : TypeId) (x y : Operand) (k k' : FloatKind) (a b : Nat) (w : World) : (eqGuard op t x y (.float k a) (.float k' b)).run P w = .ok () w := by
  unfold eqGuard; split <;> rfl
theorem guard_cpl (op : BinOp) (t : TypeId) (x y : Operand) (k k' : FloatKind) (a b c d : Nat) (w : World) : (eqGuard op t x y (.complex k a b) (.complex k' c d)).run P w = .ok () w := by
  unfold eqGuard; split <;> rfl
variable {t : TypeId} {X Y : Operand}
theorem st_fmul {x y : Nat} {a b : Int} (hx : FV x a) (hy : FV y b) (h : (a * b).natAbs < 2 ^ 53) : ∃ z, FV z (a * b) ∧ Pu (bS .mul t X Y (.float .f64 x) (.float .f64 y)) (.float .f64 z) := by
  obtain ⟨z, h1, h2⟩ := hx.mul hy h
  exact ⟨z, h2, still_bS (guard_flt _ _ _ _ _ _ _ _) fun w => run_float_arith w _ _ _ _ _ _ h1⟩
theorem st_fadd {x y : Nat} {a b : Int} (hx : FV x a) (hy : FV y b) (h : (a + b).natAbs < 2 ^ 53) : ∃ z, FV z (a + b) ∧ Pu (bS .add t X Y (.float .f64 x) (.float .f64 y)) (.float .f64 z) := by
  obtain ⟨z, h1, h2⟩ := hx.add hy h
  exact ⟨z, h2, still_bS (guard_flt _ _ _ _ _ _ _ _) fun w => run_float_arith w _ _ _ _ _ _ h1⟩
theorem st_fsub {x y : Nat} {a b : Int} (hx : FV x a) (hy : FV y b) (h : (a - b).natAbs < 2 ^ 53) : ∃ z, FV z (a - b) ∧ Pu (bS .sub t X Y (.float .f64 x) (.float .f64 y)) (.float .f64 z) := by
  obtain ⟨z, h1, h2⟩ := hx.sub hy h
  exact ⟨z, h2, still_bS (guard_flt _ _ _ _ _ _ _ _) fun w => run_float_arith w _ _ _ _ _ _ h1⟩
theorem st_fquo {x : Nat} {a : Nat} (hx : FV x a) (h : a < 2097152) : ∃ z, (double.read z).toInt .zero = some ((a / 1000 : Nat) : Int) ∧ Pu (bS .quo t X Y (.float .f64 x) (.float .f64 4652007308841189376)) (.float .f64 z) := by
  obtain ⟨z, h1, h2⟩ := FV.div hx h
  exact ⟨z, h2, still_bS (guard_flt _ _ _ _ _ _ _ _) fun w => run_float_arith w _ _ _ _ _ _ h1⟩
theorem st_fint {s d : TypeId} {z : Nat} {n : Int} (hs : dd s = some (.flt .f64)) (hd : dd d = some (.int .i64)) (h : (double.read z).toInt .zero = some n) (hr : inR .i64 n) : Pu (vS (convert s d (.float .f64 z))) (.int .i64 n) :=
  Still.of_run fun w => run_convert_float_int w _ _ _ _ _ _ (by rw [dd_flt hs]; rfl) (dd_int hd) (by
    have h' : (FloatKind.f64.decode z).toInt .zero = some n := h
    unfold floatToIntVal
    rw [h']
    exact if_pos hr)
theorem st_tofl {s d : TypeId} {k : IntKind} {n : Int} (hs : dd s = some (.int k)) (hd : dd d = some (.flt .f64)) (h : n.natAbs < 2 ^ 53) : ∃ z, FV z n ∧ Pu (vS (convert s d (.int k n))) (.float .f64 z) :=
  ⟨_, FV.ofInt h, Still.of_run fun w => by simp [convert, run_underlying (dd_int hs), run_underlying (dd_flt hd), Conv.intToFloat]⟩
theorem ord {x y : Nat} {a b : Int} (hx : FV x a) (hy : FV y b) : FloatKind.f64.format.order x y = some (compare a b) := hx.order hy
theorem st_fleq {x y : Nat} {a b : Int} (hx : FV x a) (hy : FV y b) : Pu (bS .leq t X Y (.float .f64 x) (.float .f64 y)) (.bool (decide (a ≤ b))) :=
  still_bS (guard_flt _ _ _ _ _ _ _ _) fun w => by
    simp only [binOp, Op.floatCmp, ord hx hy, ne_eq, not_true_eq_false, if_false, Sem.run_pure]
    congr 2
    simp only [compare, compareOfLessAndEq]
    by_cases h1 : a < b
    · simp [h1]; omega
    · by_cases h2 : a = b
      · simp [h2]
      · simp [h1, h2]; omega
theorem st_flss {x y : Nat} {a b : Int} (hx : FV x a) (hy : FV y b) : Pu (bS .lss t X Y (.float .f64 x) (.float .f64 y)) (.bool (decide (a < b))) :=
  still_bS (guard_flt _ _ _ _ _ _ _ _) fun w => by
    simp only [binOp, Op.floatCmp, ord hx hy, ne_eq, not_true_eq_false, if_false, Sem.run_pure]
    congr 2
    simp only [compare, compareOfLessAndEq]
    by_cases h1 : a < b
    · simp [h1]
    · by_cases h2 : a = b
      · simp [h2]
      · simp [h1, h2]
theorem st_feq {x y : Nat} {a b : Int} (hx : FV x a) (hy : FV y b) : Pu (bS .eql t X Y (.float .f64 x) (.float .f64 y)) (.bool (decide (a = b))) :=
  still_bS (guard_flt _ _ _ _ _ _ _ _) fun w => by
    simp only [binOp, Op.floatCmp, ord hx hy, ne_eq, not_true_eq_false, if_false, Sem.run_pure]
    congr 2
    simp only [compare, compareOfLessAndEq]
    by_cases h1 : a < b
    · simp [h1]; omega
    · by_cases h2 : a = b
      · simp [h2]
      · simp [h1, h2]
theorem st_fmin {x y : Nat} {a b : Int} {u v : TypeId} (hx : FV x a) (hy : FV y b) : ∃ z, FV z (min a b) ∧ Pu (vS (Builtin.min_ #[u, v] t #[.float .f64 x, .float .f64 y])) (.float .f64 z) := by
  have ho := ord hx hy
  by_cases h1 : a < b
  · refine ⟨x, by rw [Int.min_eq_left (by omega)]; exact hx, Still.of_run fun w => ?_⟩
    have : compare a b = .lt := by simp [compare, compareOfLessAndEq, h1]
    rw [this] at ho
    simp [Builtin.min_, Builtin.min2, ho]
  · by_cases h2 : a = b
    · refine ⟨if (FloatKind.f64.decode x).neg then x else y, ?_, Still.of_run fun w => ?_⟩
      · subst h2
        rw [Int.min_self]
        split <;> assumption
      · have : compare a b = .eq := by simp [compare, compareOfLessAndEq, h2]
        rw [this] at ho
        simp [Builtin.min_, Builtin.min2, ho]
    · refine ⟨y, by rw [Int.min_eq_right (by omega)]; exact hy, Still.of_run fun w => ?_⟩
      have : compare a b = .gt := by simp [compare, compareOfLessAndEq, h1, h2]
      rw [this] at ho
      simp [Builtin.min_, Builtin.min2, ho]
theorem st_cplx {x y : Nat} {u v : TypeId} : Pu (vS (Builtin.complex_ #[u, v] t #[.float .f64 x, .float .f64 y])) (.complex .f64 x y) := Still.of_run fun w => rfl
theorem st_real {x y : Nat} {u : TypeId} : Pu (vS (Builtin.real_ #[u] t #[.complex .f64 x y])) (.float .f64 x) := Still.of_run fun w => rfl
theorem st_imag {x y : Nat} {u : TypeId} : Pu (vS (Builtin.imag_ #[u] t #[.complex .f64 x y])) (.float .f64 y) := Still.of_run fun w => rfl
theorem st_csub {x y x' y' : Nat} {a b a' b' : Int} (hx : FV x a) (hy : FV y b) (hx' : FV x' a') (hy' : FV y' b') (h1 : (a - a').natAbs < 2 ^ 53) (h2 : (b - b').natAbs < 2 ^ 53) :
    ∃ z z', FV z (a - a') ∧ FV z' (b - b') ∧ Pu (bS .sub t X Y (.complex .f64 x y) (.complex .f64 x' y')) (.complex .f64 z z') := by
  obtain ⟨z, g1, g2⟩ := hx.sub hx' h1
  obtain ⟨z', g3, g4⟩ := hy.sub hy' h2
  refine ⟨z, z', g2, g4, still_bS (guard_cpl _ _ _ _ _ _ _ _ _ _) fun w => ?_⟩
  have e1 : FloatKind.f64.format.sub x x' = some z := g1
  have e2 : FloatKind.f64.format.sub y y' = some z' := g3
  simp [binOp, Op.complexOp, Op.Complex.arith, Op.floatArith, e1, e2]
theorem fv0 : FV 0 0 := ⟨by decide, .inl ⟨rfl, false, by decide +kernel⟩⟩
theorem fv1000 : FV 4652007308841189376 1000 := ⟨by decide, .inr ⟨by decide, by decide +kernel⟩⟩
end
end Go.Proofs.YtfofnagocedlgaaGreatDoor.Fl
end
