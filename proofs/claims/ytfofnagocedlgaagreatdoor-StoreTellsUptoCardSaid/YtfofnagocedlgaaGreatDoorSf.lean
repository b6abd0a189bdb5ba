/-
  THE STORE (layer 21): sizes and 'for whom' of the document; whether entries are the same; copies.
-/
import Derived.Test.YtfofnagocedlgaaGreatDoorSe
set_option maxRecDepth 100000
set_option linter.unusedVariables false
set_option linter.unusedSectionVars false
set_option linter.unusedSimpArgs false
set_option maxHeartbeats 0
namespace Go.Proofs.YtfofnagocedlgaaGreatDoor.Tx
open Go Sh Sl
open Go.RowKit
attribute [local irreducible] condK ArK NilK OpK FnK StK joinK loopK DrawK andK PuK NxK EnK vS uS bS callS invokeS
def forE (x : Et) (l : List Fd) : Bool := !star (elems x.fl [118, 97, 114, 121]) && decide (sel (nm (elems x.fl [118, 97, 114, 121])) l = x.wl)
section
variable {e : Env} {ctx ctx' rest R : List HProp}
theorem vn_b {x : Et} (hb : EB x) : (nm (elems x.fl [118, 97, 114, 121])).length ≤ 1099511627776 ∧ ∀ n ∈ nm (elems x.fl [118, 97, 114, 121]), n.length ≤ 1099511627776 := by
  have h1 := elems_tot x.fl [118, 97, 114, 121]
  have h2 := nm_len (elems x.fl [118, 97, 114, 121])
  have h3 := hb.f
  refine ⟨by omega, fun n hn => ?_⟩
  have := nm_size (elems x.fl [118, 97, 114, 121]) n hn
  omega
theorem for_spec {K : Bool → WP} {x : Et} {a : Option Addr} {c : Nat} {l : List Fd} (hr : RdE rest x) (hb : EB x) (hl : Rd rest a (fc l)) (hlb : fsz l ≤ 268435456) (h : Ent e rest (K (forE x l))) :
    Ent e rest (store_For (.agg (ec x).toArray) (.slice a l.length c) K) := by
  obtain ⟨hn1, hn2⟩ := vn_b hb
  have h5 := hb.f
  have h4 := hb.w
  have hwl := fsz_len x.wl
  have hsl := sel_len (nm (elems x.fl [118, 97, 114, 121])) l
  (refine Ent.fn store_For_ok ?_; unfold store_For_sh)
  refine Ent.box' fun eb => ?_
  (refine Ent.go ?_)
  refine names_spec (hr.f.tl) (by omega) fun a2 c2 => ?_
  refine Ent.rdS fun hrn _ => ?_
  refine Ent.draw [pt eb (ec x)] (by (focus ((repeat ((with_reducible apply Imp.pick); (repeat (first | exact Pick.hd | apply Pick.tl)))); (repeat (first | exact Imp.refl _ | exact Imp.nil _ | apply Imp.drop)); done))) ?_
  cases hs : star (elems x.fl [118, 97, 114, 121]) with
  | true =>
    refine Ent.wF ?_
    have : forE x l = false := by unfold forE; rw [hs]; rfl
    rw [← this]
    exact Ent.imp (by (focus ((repeat ((with_reducible apply Imp.pick); (repeat (first | exact Pick.hd | apply Pick.tl)))); (repeat (first | exact Imp.refl _ | exact Imp.nil _ | apply Imp.drop)); done))) h
  | false =>
    refine Ent.wT ?_
    (refine Ent.go ?_)
    refine select_spec (hrn _ (by (repeat (first | exact Has.hd | apply Has.tl)))) (hl.tl.tl) (by omega) hn1 hn2 fun a3 c3 => ?_
    refine Ent.wand ?_
    have hrs : ∀ ctx', Has ctx' (SlO a3 (sel (nm (elems x.fl [118, 97, 114, 121])) l).length c3 2 (fc (sel (nm (elems x.fl [118, 97, 114, 121])) l))) → Rd ctx' a3 (fc (sel (nm (elems x.fl [118, 97, 114, 121])) l)) ∨ True := fun _ _ => .inr trivial
    refine Ent.rdS fun hr3 _ => ?_
    refine vary_same_spec (hr3 _ (by (repeat (first | exact Has.hd | apply Has.tl)))) hr.w.tl.tl.tl (by omega) (by omega) ?_
    have : forE x l = decide (sel (nm (elems x.fl [118, 97, 114, 121])) l = x.wl) := by unfold forE; rw [hs]; rfl
    rw [← this]
    exact Ent.imp (by (focus ((repeat ((with_reducible apply Imp.pick); (repeat (first | exact Pick.hd | apply Pick.tl)))); (repeat (first | exact Imp.refl _ | exact Imp.nil _ | apply Imp.drop)); done))) h
theorem ref_for_spec {K : Bool → WP} {x : Et} {a : Option Addr} {c : Nat} {l : List Fd} (hr : RdE rest x) (hb : EB x) (hl : Rd rest a (fc l)) (hlb : fsz l ≤ 268435456) (h : Ent e rest (K (forE x l))) :
    Ent e rest (ref21_For (.agg (ec x).toArray) (.slice a l.length c) K) := by
  obtain ⟨hn1, hn2⟩ := vn_b hb
  have h5 := hb.f
  have h4 := hb.w
  have hwl := fsz_len x.wl
  have hsl := sel_len (nm (elems x.fl [118, 97, 114, 121])) l
  (refine Ent.fn ref21_For_ok ?_; unfold ref21_For_sh)
  refine Ent.box' fun eb => ?_
  (refine Ent.go ?_)
  refine ref_names_spec (hr.f.tl) (by omega) fun a2 c2 => ?_
  refine Ent.rdS fun hrn _ => ?_
  cases hs : star (elems x.fl [118, 97, 114, 121]) with
  | true =>
    refine Ent.wT ?_
    have : forE x l = false := by unfold forE; rw [hs]; rfl
    rw [← this]
    exact Ent.imp (by (focus ((repeat ((with_reducible apply Imp.pick); (repeat (first | exact Pick.hd | apply Pick.tl)))); (repeat (first | exact Imp.refl _ | exact Imp.nil _ | apply Imp.drop)); done))) h
  | false =>
    refine Ent.wF ?_
    refine Ent.draw [pt eb (ec x)] (by (focus ((repeat ((with_reducible apply Imp.pick); (repeat (first | exact Pick.hd | apply Pick.tl)))); (repeat (first | exact Imp.refl _ | exact Imp.nil _ | apply Imp.drop)); done))) ?_
    (refine Ent.go ?_)
    refine ref_select_spec (hrn _ (by (repeat (first | exact Has.hd | apply Has.tl)))) (hl.tl.tl) (by omega) hn1 hn2 fun a3 c3 => ?_
    refine Ent.wand ?_
    refine Ent.rdS fun hr3 _ => ?_
    refine ref_same16_spec (hr3 _ (by (repeat (first | exact Has.hd | apply Has.tl)))) hr.w.tl.tl.tl (by omega) (by omega) ?_
    have : forE x l = decide (sel (nm (elems x.fl [118, 97, 114, 121])) l = x.wl) := by unfold forE; rw [hs]; rfl
    rw [← this]
    exact Ent.imp (by (focus ((repeat ((with_reducible apply Imp.pick); (repeat (first | exact Pick.hd | apply Pick.tl)))); (repeat (first | exact Imp.refl _ | exact Imp.nil _ | apply Imp.drop)); done))) h
theorem lenQ {y : Nat} {s : Bs} {c : Int → WP} (h : Ent e ctx (c s.length)) : Ent e ctx (StK P (Sat e (sepL R)) (.one (.int .i64)) (vS (Builtin.len_ #[9] y #[(.string (ba s))])) c) := by
  refine Ent.stI (st_lenS rfl).still ?_
  simpa [ba, ByteArray.size] using h
theorem ref_size_spec {K : Int → WP} {x : Et} (hr : RdE rest x) (hb : EB x) (h : Ent e rest (K (size x : Int))) : Ent e rest (ref21_Size (.agg (ec x).toArray) K) := by
  have h1 := hb.u
  have h2 := hb.r
  have h3 := hb.b
  have h4 := hb.w
  have h5 := hb.f
  have hw := fzn_le x.wl
  have hf := fzn_le x.fl
  have hwl := fsz_len x.wl
  have hfl := fsz_len x.fl
  (refine Ent.fn ref21_Size_ok ?_; unfold ref21_Size_sh)
  refine Ent.box' fun eb => ?_
  (refine Ent.go ?_)
  obtain ⟨n0, hn0⟩ : ∃ n0 : Int, n0 = 64 + (x.url.length : Int) + (x.rs.length : Int) + (x.bl.length : Int) := ⟨_, rfl⟩
  rw [← hn0]
  refine Ent.rngL1 (k0 := .int .i64) x.wl.length (fun k v => pur (v = n0 + ((fzn (x.wl.take k) : Nat) : Int)) :: pt eb (ec x) :: rest) rfl ?_ ?_
  · exact Imp.pur (by simp [fzn]) (Imp.refl _)
  intro k hk K' hK v
  refine Ent.pur fun hv => ?_
  subst hv
  (refine Ent.go ?_)
  by_cases hkn : k < x.wl.length
  · obtain ⟨f, hf⟩ : ∃ f, x.wl[k]? = some f := ⟨_, List.getElem?_eq_getElem hkn⟩
    have hfm := fsz_mem (List.mem_of_getElem? hf)
    have hs := fzn_snoc (x.wl.take k) f
    rw [← take_snoc hf] at hs
    have hzl := fzn_le (x.wl.take k)
    have hzt := fsz_take x.wl k
    refine Ent.wT ?_ (by simpa using hkn)
    (refine Ent.go ?_)
    refine fdAtQ hr.w.tl hf hkn (.inl ⟨rfl, rfl⟩) ?_
    refine lenQ ?_
    (refine Ent.go ?_)
    refine fdAtQ hr.w.tl hf hkn (.inr ⟨rfl, rfl⟩) ?_
    refine lenQ ?_
    (refine Ent.go ?_)
    refine Ent.imp ?_ (hK hkn _)
    refine Imp.pur ?_ (Imp.refl _)
    rw [hs]
    exact (by omega : n0 + (fzn (x.wl.take k) : Int) + ((f.1.length : Int) + f.2.length) = n0 + ((fzn (x.wl.take k) + (f.1.length + f.2.length) : Nat) : Int))
  · have hkl : k = x.wl.length := by omega
    subst hkl
    refine Ent.wF ?_ (by simp)
    rw [List.take_of_length_le (Nat.le_refl _)]
    refine Ent.rngL1 (k0 := .int .i64) x.fl.length (fun k v => pur (v = n0 + ((fzn x.wl : Nat) : Int) + ((fzn (x.fl.take k) : Nat) : Int)) :: pt eb (ec x) :: rest) rfl ?_ ?_
    · exact Imp.pur (by simp [fzn]) (Imp.refl _)
    intro j hj K2 hK2 v
    refine Ent.pur fun hv => ?_
    subst hv
    (refine Ent.go ?_)
    by_cases hjn : j < x.fl.length
    · obtain ⟨f, hf⟩ : ∃ f, x.fl[j]? = some f := ⟨_, List.getElem?_eq_getElem hjn⟩
      have hfm := fsz_mem (List.mem_of_getElem? hf)
      have hs := fzn_snoc (x.fl.take j) f
      rw [← take_snoc hf] at hs
      have hzl := fzn_le (x.fl.take j)
      have hzt := fsz_take x.fl j
      refine Ent.wT ?_ (by simpa using hjn)
      (refine Ent.go ?_)
      refine fdAtQ hr.f.tl hf hjn (.inl ⟨rfl, rfl⟩) ?_
      refine lenQ ?_
      (refine Ent.go ?_)
      refine fdAtQ hr.f.tl hf hjn (.inr ⟨rfl, rfl⟩) ?_
      refine lenQ ?_
      (refine Ent.go ?_)
      refine Ent.imp ?_ (hK2 hjn _)
      refine Imp.pur ?_ (Imp.refl _)
      rw [hs]
      exact (by omega : n0 + (fzn x.wl : Int) + (fzn (x.fl.take j) : Int) + ((f.1.length : Int) + f.2.length) = n0 + (fzn x.wl : Int) + ((fzn (x.fl.take j) + (f.1.length + f.2.length) : Nat) : Int))
    · have hjl : j = x.fl.length := by omega
      subst hjl
      refine Ent.wF ?_ (by simp)
      rw [List.take_of_length_le (Nat.le_refl _)]
      have e1 : (n0 + (fzn x.wl : Int) + (fzn x.fl : Int)) = (size x : Int) := by unfold size; omega
      rw [e1]
      exact Ent.imp (by (focus ((repeat ((with_reducible apply Imp.pick); (repeat (first | exact Pick.hd | apply Pick.tl)))); (repeat (first | exact Imp.refl _ | exact Imp.nil _ | apply Imp.drop)); done))) h
end
end Go.Proofs.YtfofnagocedlgaaGreatDoor.Tx
