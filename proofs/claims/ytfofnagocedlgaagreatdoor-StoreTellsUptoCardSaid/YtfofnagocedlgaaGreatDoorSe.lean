/-
  THE STORE (layer 21): an entry: its size; for whom it is; whether two are the same; a copy.
-/
import Derived.Test.YtfofnagocedlgaaGreatDoorVf
import Derived.Test.YtfofnagocedlgaaGreatDoorFS
set_option maxRecDepth 100000
set_option linter.unusedVariables false
set_option linter.unusedSectionVars false
set_option linter.unusedSimpArgs false
set_option maxHeartbeats 0
namespace Go.Proofs.YtfofnagocedlgaaGreatDoor.Tx
open Go Sh Sl
open Go.RowKit
attribute [local irreducible] condK ArK NilK OpK FnK StK joinK loopK DrawK andK PuK NxK EnK vS uS bS callS invokeS
/-- a slice as it is held -/
structure Et where
  url : Bs
  asked : Int
  came : Int
  wa : Option Addr
  wc : Nat
  wl : List Fd
  st : Int
  rs : Bs
  mi : Int
  fa : Option Addr
  fk : Nat
  fl : List Fd
  ba_ : Option Addr
  bk : Nat
  bl : Bs
abbrev rc (x : Et) : List Value := [.int .i64 x.st, .string (ba x.rs), .int .i64 x.mi, .slice x.fa x.fl.length x.fk, .slice x.ba_ x.bl.length x.bk]
abbrev ec (x : Et) : List Value := [.string (ba x.url), .int .u64 x.asked, .int .u64 x.came, .slice x.wa x.wl.length x.wc, .int .i64 x.st, .string (ba x.rs), .int .i64 x.mi, .slice x.fa x.fl.length x.fk, .slice x.ba_ x.bl.length x.bk]
structure RdE (ctx : List HProp) (x : Et) : Prop where
  w : Rd ctx x.wa (fc x.wl)
  f : Rd ctx x.fa (fc x.fl)
  b : Rd ctx x.ba_ (u8 x.bl)
theorem RdE.mono {ctx ctx' : List HProp} {x : Et} (h : RdE ctx x) (hi : Imp ctx' ctx) : RdE ctx' x := ⟨h.w.mono hi, h.f.mono hi, h.b.mono hi⟩
theorem RdE.tl {ctx : List HProp} {A : HProp} {x : Et} (h : RdE ctx x) : RdE (A :: ctx) x := h.mono (Imp.drop (Imp.refl _))
/-- its bounds -/
structure EB (x : Et) : Prop where
  u : x.url.length ≤ 268435456
  r : x.rs.length ≤ 268435456
  b : x.bl.length ≤ 268435456
  w : fsz x.wl ≤ 268435456
  f : fsz x.fl ≤ 268435456
def fzn (l : List Fd) : Nat := (l.map fun f => f.1.length + f.2.length).sum
theorem fzn_snoc (l : List Fd) (f : Fd) : fzn (l ++ [f]) = fzn l + (f.1.length + f.2.length) := by simp [fzn]
theorem fzn_le (l : List Fd) : fzn l ≤ fsz l := by
  induction l with
  | nil => simp [fzn, fsz]
  | cons f l ih => simp [fzn, fsz] at ih ⊢; omega
theorem fsz_take (l : List Fd) (k : Nat) : fsz (l.take k) ≤ fsz l := by
  have h9 := fsz_app (l.take k) (l.drop k)
  rw [List.take_append_drop] at h9
  omega
def size (x : Et) : Nat := 64 + x.url.length + x.rs.length + x.bl.length + fzn x.wl + fzn x.fl
section
variable {e : Env} {ctx ctx' rest R : List HProp}
theorem size_spec {K : Int → WP} {x : Et} (hr : RdE rest x) (hb : EB x) (h : Ent e rest (K (size x : Int))) : Ent e rest (store_Size (.agg (ec x).toArray) K) := by
  have h1 := hb.u
  have h2 := hb.r
  have h3 := hb.b
  have h4 := hb.w
  have h5 := hb.f
  have hw := fzn_le x.wl
  have hf := fzn_le x.fl
  (refine Ent.fn store_Size_ok ?_; unfold store_Size_sh)
  refine Ent.box' fun eb => ?_
  (refine Ent.go ?_)
  refine Ent.slice (out := [.slice x.wa x.wl.length x.wc, .slice x.fa x.fl.length x.fk]) (z := [.slice none 0 0]) (sz := 1) rfl rfl rfl rfl (by decide) (by decide) (by rfl) fun sb => ?_
  (refine Ent.go ?_)
  -- one of the two
  have inner : ∀ (a : Option Addr) (c : Nat) (l : List Fd) (n0 : Int) (K2 : Int → WP), Rd rest a (fc l) → fsz l ≤ 268435456 → 0 ≤ n0 → n0 ≤ 2147483648 → Ent e (pt sb [.slice x.wa x.wl.length x.wc, .slice x.fa x.fl.length x.fk] :: pt eb (ec x) :: rest) (K2 (n0 + (fzn l : Int))) →
      Ent e (pt sb [.slice x.wa x.wl.length x.wc, .slice x.fa x.fl.length x.fk] :: pt eb (ec x) :: rest) (loopK [(3, (.int .i64)), (35, (.int .i64))] (fun (j3 : Int → Int → WP) => j3 n0 0) (fun (j4 : Int → Int → WP) (n_1 : Int) (t35 : Int) =>
       condK (decide (t35 < (l.length : Int)))
       (iR 23 (.slice a l.length c) .i64 t35 55 fun t38 =>
       oR (vS (Instr.alloc 55 true (.tuple #[]))) fun f =>
       sto 55 f t38 <|
       fS 55 f 0 9 fun t41 =>
       len 9 3 (.string t41) fun t42 =>
       fS 55 f 1 9 fun t44 =>
       len 9 3 (.string t44) fun t45 =>
       ArK .i64 (t42 + t45) fun t46 =>
       ArK .i64 (n_1 + t46) fun t47 =>
       ArK .i64 (t35 + 1) fun t48 =>
       j4 t47 t48)
       (K2 n_1))) := by
    intro a c l n0 K2 hr hfl hn0 hn1 hk
    have hll := fsz_len l
    refine Ent.rngL1 (k0 := .int .i64) l.length (fun k v => pur (v = n0 + (fzn (l.take k) : Int)) :: pt sb [.slice x.wa x.wl.length x.wc, .slice x.fa x.fl.length x.fk] :: pt eb (ec x) :: rest) rfl ?_ ?_
    · exact Imp.pur (by simp [fzn]) (Imp.refl _)
    intro k hk2 K' hK v
    refine Ent.pur fun hv => ?_
    subst hv
    by_cases hkn : k < l.length
    · obtain ⟨f, hf⟩ : ∃ f, l[k]? = some f := ⟨_, List.getElem?_eq_getElem hkn⟩
      have hfm := fsz_mem (List.mem_of_getElem? hf)
      have hs := fzn_snoc (l.take k) f
      rw [← take_snoc hf] at hs
      have hzl := fzn_le (l.take k)
      have hzt := fsz_take l k
      refine Ent.wT ?_ (by simpa using hkn)
      refine fdR hr.tl.tl hf hkn ?_
      refine Ent.alloc' fun fb => ?_
      (refine Ent.go ?_)
      refine Ent.imp ?_ (hK hkn _)
      refine Imp.pur ?_ ?_
      · rw [hs]
        exact (by omega : n0 + (fzn (l.take k) : Int) + ((f.1.length : Int) + f.2.length) = n0 + ((fzn (l.take k) + (f.1.length + f.2.length) : Nat) : Int))
      · (focus ((repeat ((with_reducible apply Imp.pick); (repeat (first | exact Pick.hd | apply Pick.tl)))); (repeat (first | exact Imp.refl _ | exact Imp.nil _ | apply Imp.drop)); done))
    · have hkl : k = l.length := by omega
      subst hkl
      refine Ent.wF ?_ (by simp)
      rw [List.take_of_length_le (Nat.le_refl _)]
      exact hk
  refine Ent.rngL1 (k0 := .int .i64) 2 (fun k v => pur (v = (64 + x.url.length + x.rs.length + x.bl.length : Nat) + (if 1 ≤ k then (fzn x.wl : Int) else 0) + (if 2 ≤ k then (fzn x.fl : Int) else 0)) :: pt sb [.slice x.wa x.wl.length x.wc, .slice x.fa x.fl.length x.fk] :: pt eb (ec x) :: rest) rfl ?_ ?_
  · exact Imp.pur (by simp) (Imp.refl _)
  intro k hk K' hK v
  refine Ent.pur fun hv => ?_
  subst hv
  rcases k with _ | _ | _ | k
  · refine Ent.wT ?_ (by decide)
    (refine Ent.go ?_)
    refine inner x.wa x.wc x.wl _ (fun n_1 => ArK .i64 (((0 : Nat) : Int) + 1) fun t49 => K' n_1 t49) hr.w h4 ?_ ?_ ?_
    · simp; omega
    · simp; omega
    · (refine Ent.go ?_)
      refine Ent.imp (Imp.pur ?_ (Imp.refl _)) (hK (by decide) _)
      simp
  · refine Ent.wT ?_ (by decide)
    (refine Ent.go ?_)
    refine inner x.fa x.fk x.fl _ (fun n_1 => ArK .i64 (((0 + 1 : Nat) : Int) + 1) fun t49 => K' n_1 t49) hr.f h5 ?_ ?_ ?_
    · simp; omega
    · simp; omega
    · (refine Ent.go ?_)
      refine Ent.imp (Imp.pur ?_ (Imp.refl _)) (hK (by decide) _)
      simp
  · refine Ent.wF ?_ (by decide)
    have e1 : (((64 + x.url.length + x.rs.length + x.bl.length : Nat) : Int) + (if 1 ≤ 0 + 1 + 1 then (fzn x.wl : Int) else 0) + (if 2 ≤ 0 + 1 + 1 then (fzn x.fl : Int) else 0)) = (size x : Int) := by
      unfold size; simp
    rw [e1]
    exact Ent.imp (by (focus ((repeat ((with_reducible apply Imp.pick); (repeat (first | exact Pick.hd | apply Pick.tl)))); (repeat (first | exact Imp.refl _ | exact Imp.nil _ | apply Imp.drop)); done))) h
  · omega
end
end Go.Proofs.YtfofnagocedlgaaGreatDoor.Tx
