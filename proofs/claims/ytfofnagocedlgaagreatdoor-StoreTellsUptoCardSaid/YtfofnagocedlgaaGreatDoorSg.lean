/-
  THE STORE (layer 21): whether entries are the same; copies; the statements' own entries.
-/
import Derived.Test.YtfofnagocedlgaaGreatDoorSf
set_option maxRecDepth 100000
set_option linter.unusedVariables false
set_option linter.unusedSectionVars false
set_option linter.unusedSimpArgs false
set_option maxHeartbeats 0
namespace Go.Proofs.YtfofnagocedlgaaGreatDoor.Tx
open Go Sh Sl
open Go.RowKit
attribute [local irreducible] condK ArK NilK OpK FnK StK joinK loopK DrawK andK PuK NxK EnK vS uS bS callS invokeS
instance dec0 : DecidableEq (List Fd × Bs) := inferInstance
instance dec1 : DecidableEq (Int × List Fd × Bs) := inferInstance
instance dec2 : DecidableEq (Bs × Int × List Fd × Bs) := inferInstance
instance dec3 : DecidableEq (Int × Bs × Int × List Fd × Bs) := inferInstance
instance dec4 : DecidableEq (List Fd × Int × Bs × Int × List Fd × Bs) := inferInstance
instance dec5 : DecidableEq (Int × List Fd × Int × Bs × Int × List Fd × Bs) := inferInstance
instance dec6 : DecidableEq (Int × Int × List Fd × Int × Bs × Int × List Fd × Bs) := inferInstance
instance dec7 : DecidableEq (Bs × Int × Int × List Fd × Int × Bs × Int × List Fd × Bs) := inferInstance
/-- what an entry says -/
def dE (x : Et) : Bs × Int × Int × List Fd × Int × Bs × Int × List Fd × Bs := (x.url, x.asked, x.came, x.wl, x.st, x.rs, x.mi, x.fl, x.bl)
def dR (x : Et) : Int × Bs × Int × List Fd × Bs := (x.st, x.rs, x.mi, x.fl, x.bl)
abbrev OwnE (x : Et) (rest : List HProp) : List HProp := SlO x.wa x.wl.length x.wc 2 (fc x.wl) :: SlO x.fa x.fl.length x.fk 2 (fc x.fl) :: SlO x.ba_ x.bl.length x.bk 1 (u8 x.bl) :: rest
theorem dE_iff {x y : Et} : dE x = dE y ↔ x.url = y.url ∧ x.asked = y.asked ∧ x.came = y.came ∧ x.wl = y.wl ∧ dR x = dR y := by
  simp [dE, dR]
section
variable {e : Env} {ctx ctx' rest R : List HProp}
theorem SlO.imp0 {b sz : Nat} : Imp (pt b [] :: ctx) (SlO (some ⟨b, 0, none⟩) 0 0 sz [] :: ctx) := fun _ k =>
  sepL_cons (fun h hh => ⟨by simp, .inr ⟨b, [], rfl, Nat.le_refl _, by simp, hh⟩⟩) (fun _ z => z) k
theorem samer_spec {K : Bool → WP} {x y : Et} (hx : RdE rest x) (hy : RdE rest y) (bx : EB x) (by_ : EB y) (h : Ent e rest (K (decide (dR x = dR y)))) : Ent e rest (ref09_SameResponse (.agg (rc x).toArray) (.agg (rc y).toArray) K) := by
  have h5 := bx.f
  have g5 := by_.f
  have hfl := fsz_len x.fl
  have gfl := fsz_len y.fl
  have no : dR x ≠ dR y → Ent e rest (K false) := fun hn => by rw [← decide_eq_false hn]; exact h
  (refine Ent.fn ref09_SameResponse_ok ?_; unfold ref09_SameResponse_sh)
  refine Ent.box' fun ab => ?_
  refine Ent.box' fun bb => ?_
  (refine Ent.go ?_)
  refine Ent.condE (fun h1 => ?_) fun h1 => ?_
  rotate_left
  · exact Ent.imp (by (focus ((repeat ((with_reducible apply Imp.pick); (repeat (first | exact Pick.hd | apply Pick.tl)))); (repeat (first | exact Imp.refl _ | exact Imp.nil _ | apply Imp.drop)); done))) (no fun hh => h1 (Prod.mk.inj hh).1)
  (refine Ent.go ?_)
  refine Ent.condD (fun h2 => ?_) fun h2 => ?_
  rotate_left
  · exact Ent.imp (by (focus ((repeat ((with_reducible apply Imp.pick); (repeat (first | exact Pick.hd | apply Pick.tl)))); (repeat (first | exact Imp.refl _ | exact Imp.nil _ | apply Imp.drop)); done))) (no fun hh => h2 (ba_inj.2 (Prod.mk.inj (Prod.mk.inj hh).2).1))
  (refine Ent.go ?_)
  refine Ent.condE (fun h3 => ?_) fun h3 => ?_
  rotate_left
  · exact Ent.imp (by (focus ((repeat ((with_reducible apply Imp.pick); (repeat (first | exact Pick.hd | apply Pick.tl)))); (repeat (first | exact Imp.refl _ | exact Imp.nil _ | apply Imp.drop)); done))) (no fun hh => h3 (Prod.mk.inj (Prod.mk.inj (Prod.mk.inj hh).2).2).1)
  (refine Ent.go ?_)
  refine ref_samef_spec hx.f.tl.tl hy.f.tl.tl (by omega) (by omega) ?_
  refine Ent.condD (fun h4 => ?_) fun h4 => ?_
  rotate_left
  · exact Ent.imp (by (focus ((repeat ((with_reducible apply Imp.pick); (repeat (first | exact Pick.hd | apply Pick.tl)))); (repeat (first | exact Imp.refl _ | exact Imp.nil _ | apply Imp.drop)); done))) (no fun hh => h4 (Prod.mk.inj (Prod.mk.inj (Prod.mk.inj (Prod.mk.inj hh).2).2).2).1)
  (refine Ent.go ?_)
  refine Ent.opS (st_b2s (l := x.bl) hx.b.tl.tl rfl rfl rfl) ?_
  (refine Ent.go ?_)
  refine Ent.opS (st_b2s (l := y.bl) hy.b.tl.tl rfl rfl rfl) ?_
  (refine Ent.go ?_)
  have : decide (ba x.bl = ba y.bl) = decide (dR x = dR y) := by
    refine decide_eq_decide.2 ?_
    rw [ba_inj] at h2 ⊢
    unfold dR
    constructor
    · intro h6; rw [h1, h2, h3, h4, h6]
    · intro hh; exact (Prod.mk.inj (Prod.mk.inj (Prod.mk.inj (Prod.mk.inj hh).2).2).2).2
  rw [this]
  exact Ent.imp (by (focus ((repeat ((with_reducible apply Imp.pick); (repeat (first | exact Pick.hd | apply Pick.tl)))); (repeat (first | exact Imp.refl _ | exact Imp.nil _ | apply Imp.drop)); done))) h
theorem same_e_spec {K : Bool → WP} {x y : Et} (hx : RdE rest x) (hy : RdE rest y) (bx : EB x) (by_ : EB y) (h : Ent e rest (K (decide (dE x = dE y)))) : Ent e rest (ref21_Same (.agg (ec x).toArray) (.agg (ec y).toArray) K) := by
  have h5 := bx.w
  have g5 := by_.w
  have hfl := fsz_len x.wl
  have gfl := fsz_len y.wl
  have no : dE x ≠ dE y → Ent e rest (K false) := fun hn => by rw [← decide_eq_false hn]; exact h
  (refine Ent.fn ref21_Same_ok ?_; unfold ref21_Same_sh)
  refine Ent.box' fun ab => ?_
  refine Ent.box' fun bb => ?_
  (refine Ent.go ?_)
  refine Ent.condD (fun h1 => ?_) fun h1 => ?_
  rotate_left
  · exact Ent.imp (by (focus ((repeat ((with_reducible apply Imp.pick); (repeat (first | exact Pick.hd | apply Pick.tl)))); (repeat (first | exact Imp.refl _ | exact Imp.nil _ | apply Imp.drop)); done))) (no fun hh => h1 (ba_inj.2 (dE_iff.1 hh).1))
  (refine Ent.go ?_)
  refine Ent.condE (fun h2 => ?_) fun h2 => ?_
  rotate_left
  · exact Ent.imp (by (focus ((repeat ((with_reducible apply Imp.pick); (repeat (first | exact Pick.hd | apply Pick.tl)))); (repeat (first | exact Imp.refl _ | exact Imp.nil _ | apply Imp.drop)); done))) (no fun hh => h2 (dE_iff.1 hh).2.1)
  (refine Ent.go ?_)
  refine Ent.condE (fun h3 => ?_) fun h3 => ?_
  rotate_left
  · exact Ent.imp (by (focus ((repeat ((with_reducible apply Imp.pick); (repeat (first | exact Pick.hd | apply Pick.tl)))); (repeat (first | exact Imp.refl _ | exact Imp.nil _ | apply Imp.drop)); done))) (no fun hh => h3 (dE_iff.1 hh).2.2.1)
  (refine Ent.go ?_)
  refine ref_samef_spec hx.w.tl.tl hy.w.tl.tl (by omega) (by omega) ?_
  refine Ent.condD (fun h4 => ?_) fun h4 => ?_
  rotate_left
  · exact Ent.imp (by (focus ((repeat ((with_reducible apply Imp.pick); (repeat (first | exact Pick.hd | apply Pick.tl)))); (repeat (first | exact Imp.refl _ | exact Imp.nil _ | apply Imp.drop)); done))) (no fun hh => h4 (dE_iff.1 hh).2.2.2.1)
  (refine Ent.go ?_)
  refine samer_spec hx.tl.tl hy.tl.tl bx by_ ?_
  have : decide (dR x = dR y) = decide (dE x = dE y) := by
    refine decide_eq_decide.2 ?_
    rw [ba_inj] at h1
    rw [dE_iff]
    exact ⟨fun h6 => ⟨h1, h2, h3, h4, h6⟩, fun hh => hh.2.2.2.2⟩
  rw [this]
  exact Ent.imp (by (focus ((repeat ((with_reducible apply Imp.pick); (repeat (first | exact Pick.hd | apply Pick.tl)))); (repeat (first | exact Imp.refl _ | exact Imp.nil _ | apply Imp.drop)); done))) h
theorem clonef_spec {K : Value → WP} {a : Option Addr} {c : Nat} {l : List Fd} (hb : l.length ≤ 1099511627776) (hr : Rd rest a (fc l)) (h : ∀ a2 c2, Ent e (SlO a2 l.length c2 2 (fc l) :: rest) (K (.slice a2 l.length c2))) :
    Ent e rest (slices_Clone_Field (.slice a l.length c) K) := by
  (refine Ent.fn slices_Clone_Field_ok ?_; unfold slices_Clone_Field_sh)
  cases a with
  | none =>
    have hl0 : fc l = [] := hr
    have hn0 : l = [] := List.eq_nil_of_length_eq_zero (by have := congrArg List.length hl0; simp at this; omega)
    subst hn0
    (refine Ent.go ?_)
    exact Ent.slN (h none 0)
  | some a =>
    (refine Ent.go ?_)
    refine Ent.slice (out := []) (z := [.string ⟨#[]⟩, .string ⟨#[]⟩]) (sz := 2) rfl rfl rfl rfl (by decide) (by decide) (by rfl) fun b2 => ?_
    refine Ent.imp (SlO.imp0 (sz := 2)) ?_
    refine Ent.appN (m := l.length) (news := fc l) (sz := 2) ?_ (fun a2 c2 => ?_) (hl := fc_len l) (h1 := fc_one l) (hb := by simp; omega)
    · exact hr.mono (Imp.drop (Imp.refl _))
    · have := h a2 c2
      simpa using this
where
  fc_one (l : List Fd) : ∀ v ∈ fc l, v.oneCell' = true := by
    intro v hv
    simp only [fc, List.mem_flatten, List.mem_map] at hv
    obtain ⟨_, ⟨f, _, rfl⟩, hv⟩ := hv
    simp only [List.mem_cons, List.mem_nil_iff, or_false] at hv
    rcases hv with rfl | rfl <;> rfl
theorem cloneb_spec {K : Value → WP} {a : Option Addr} {c : Nat} {l : Bs} (hb : l.length ≤ 1099511627776) (hr : Rd rest a (u8 l)) (h : ∀ a2 c2, Ent e (SlO a2 l.length c2 1 (u8 l) :: rest) (K (.slice a2 l.length c2))) :
    Ent e rest (bytes_Clone (.slice a l.length c) K) := by
  (refine Ent.fn bytes_Clone_ok ?_; unfold bytes_Clone_sh)
  cases a with
  | none =>
    have hl0 : u8 l = [] := hr
    have hn0 : l = [] := List.eq_nil_of_length_eq_zero (by have := congrArg List.length hl0; simpa using this)
    subst hn0
    (refine Ent.go ?_)
    exact Ent.slN (h none 0)
  | some a =>
    (refine Ent.go ?_)
    refine Ent.slice (out := []) (z := [.int .u8 0]) (sz := 1) rfl rfl rfl rfl (by decide) (by decide) (by rfl) fun b2 => ?_
    refine Ent.imp (SlO.imp0 (sz := 1)) ?_
    refine Ent.appN (m := l.length) (news := u8 l) (sz := 1) ?_ (fun a2 c2 => ?_) (hl := by simp) (h1 := u8_one l) (hb := by simp; omega)
    · exact hr.mono (Imp.drop (Imp.refl _))
    · have := h a2 c2
      simpa using this
theorem copied_spec {K : Value → WP} {x : Et} (hr : RdE rest x) (hb : EB x) (h : ∀ y : Et, dE y = dE x → Ent e (OwnE y rest) (K (.agg (ec y).toArray))) : Ent e rest (store_copied (.agg (ec x).toArray) K) := by
  have h1 := hb.w
  have h2 := hb.f
  have h3 := hb.b
  have hwl := fsz_len x.wl
  have hfl := fsz_len x.fl
  (refine Ent.fn store_copied_ok ?_; unfold store_copied_sh)
  refine Ent.box' fun eb => ?_
  refine Ent.alloc' fun t2 => ?_
  (refine Ent.go ?_)
  refine clonef_spec (by omega) hr.w.tl.tl fun a1 c1 => ?_
  (refine Ent.go ?_)
  refine clonef_spec (by omega) hr.f.tl.tl.tl fun a2 c2 => ?_
  (refine Ent.go ?_)
  refine cloneb_spec (by omega) hr.b.tl.tl.tl.tl fun a3 c3 => ?_
  (refine Ent.go ?_)
  refine Ent.wrA ?_
  refine Ent.imp ?_ (h { x with wa := a1, wc := c1, fa := a2, fk := c2, ba_ := a3, bk := c3 } rfl)
  (focus ((repeat ((with_reducible apply Imp.pick); (repeat (first | exact Pick.hd | apply Pick.tl)))); (repeat (first | exact Imp.refl _ | exact Imp.nil _ | apply Imp.drop)); done))
theorem own_spec {K : Value → WP} {x : Et} (hr : RdE rest x) (hb : EB x) (h : ∀ y : Et, dE y = dE x → Ent e (OwnE y rest) (K (.agg (ec y).toArray))) : Ent e rest (ref21_Own (.agg (ec x).toArray) K) := by
  have h1 := hb.w
  have h2 := hb.f
  have h3 := hb.b
  have hwl := fsz_len x.wl
  have hfl := fsz_len x.fl
  (refine Ent.fn ref21_Own_ok ?_; unfold ref21_Own_sh)
  refine Ent.box' fun eb => ?_
  refine Ent.alloc' fun t2 => ?_
  (refine Ent.go ?_)
  refine Ent.slN (sz := 2) ?_
  refine Ent.appN (m := x.wl.length) (news := fc x.wl) (sz := 2) hr.w.tl.tl.tl (fun a1 c1 => ?_) (hl := fc_len _) (h1 := clonef_spec.fc_one _) (hb := by simp; omega)
  rw [Nat.zero_add, List.nil_append]
  (refine Ent.go ?_)
  refine Ent.slN (sz := 2) ?_
  refine Ent.appN (m := x.fl.length) (news := fc x.fl) (sz := 2) hr.f.tl.tl.tl.tl (fun a2 c2 => ?_) (hl := fc_len _) (h1 := clonef_spec.fc_one _) (hb := by simp; omega)
  rw [Nat.zero_add, List.nil_append]
  (refine Ent.go ?_)
  (refine Ent.fn ref09_Own_ok ?_; unfold ref09_Own_sh)
  refine Ent.slN (sz := 1) ?_
  refine Ent.appN (m := x.bl.length) (news := u8 x.bl) (sz := 1) hr.b.tl.tl.tl.tl.tl (fun a3 c3 => ?_) (hl := by simp) (h1 := u8_one _) (hb := by simp; omega)
  rw [Nat.zero_add, List.nil_append]
  (refine Ent.go ?_)
  refine Ent.wrA ?_
  refine Ent.imp ?_ (h { x with wa := a1, wc := c1, fa := a2, fk := c2, ba_ := a3, bk := c3 } rfl)
  (focus ((repeat ((with_reducible apply Imp.pick); (repeat (first | exact Pick.hd | apply Pick.tl)))); (repeat (first | exact Imp.refl _ | exact Imp.nil _ | apply Imp.drop)); done))
/-- an entry of a URL whose body has so many bytes -/
theorem e_spec {K : Value → WP} {url : Bs} {n : Nat} (hn : n ≤ 1048576) (h : ∀ y : Et, dE y = (url, 0, 0, [], 200, [], 1, [], List.replicate n 0) → Ent e (OwnE y rest) (K (.agg (ec y).toArray))) : Ent e rest (law21_E (ba url) n K) := by
  obtain ⟨r, hr, hlen⟩ : ∃ r : Bs, r = List.replicate n 0 ∧ r.length = n := ⟨_, rfl, by simp⟩
  have e1 : List.replicate n (Value.int .u8 0) = u8 r := by rw [hr]; simp [u8]
  rw [← hr] at h
  clear hr
  subst hlen
  (refine Ent.fn law21_E_ok ?_; unfold law21_E_sh)
  refine Ent.alloc' fun t4 => ?_
  refine Ent.make (by_ := 1) (z := .int .u8 0) (n := r.length) rfl rfl rfl (by omega) (by omega) fun b => ?_
  (refine Ent.go ?_)
  refine Ent.wrA ?_
  rw [e1]
  refine Ent.imp ?_ (h ⟨url, 0, 0, none, 0, [], 200, [], 1, none, 0, [], some ⟨b, 0, none⟩, r.length, r⟩ rfl)
  refine Imp.trans (b := pt b (u8 r) :: rest) (by (focus ((repeat ((with_reducible apply Imp.pick); (repeat (first | exact Pick.hd | apply Pick.tl)))); (repeat (first | exact Imp.refl _ | exact Imp.nil _ | apply Imp.drop)); done))) ?_
  refine Imp.trans (SlO.imp (n := r.length) (by simp)) ?_
  refine Imp.trans (Imp.slN (sz := 2) (Imp.refl _)) ?_
  refine Imp.trans (Imp.slN (sz := 2) (Imp.refl _)) ?_
  show Imp _ (SlO none 0 0 2 [] :: SlO none 0 0 2 [] :: SlO (some ⟨b, 0, none⟩) r.length r.length 1 (u8 r) :: rest)
  (focus ((repeat ((with_reducible apply Imp.pick); (repeat (first | exact Pick.hd | apply Pick.tl)))); (repeat (first | exact Imp.refl _ | exact Imp.nil _ | apply Imp.drop)); done))
end
end Go.Proofs.YtfofnagocedlgaaGreatDoor.Tx
