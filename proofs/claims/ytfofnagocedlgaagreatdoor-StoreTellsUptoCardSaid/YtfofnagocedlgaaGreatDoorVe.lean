/-
  FIELDS (layer 16): Select.
-/
import Derived.Test.YtfofnagocedlgaaGreatDoorVn
set_option maxRecDepth 100000
set_option linter.unusedVariables false
set_option linter.unusedSectionVars false
set_option linter.unusedSimpArgs false
set_option maxHeartbeats 0
namespace Go.Proofs.YtfofnagocedlgaaGreatDoor.Tx
open Go Sh Sl
open Go.RowKit
attribute [local irreducible] condK ArK NilK OpK FnK StK joinK loopK DrawK andK PuK NxK EnK vS uS bS callS invokeS
def joinC (g : List Bs) : Bs := Lib.join g [44, 32]
def selO (l : List Fd) (n : Bs) : List Fd := if get l n = [] then [] else [(n, joinC (get l n))]
def sel (ns : List Bs) (l : List Fd) : List Fd := ns.flatMap (selO l)
theorem join_snoc (g : List Bs) (v : Bs) : joinC (g ++ [v]) = if g = [] then v else joinC g ++ [44, 32] ++ v := by
  unfold joinC
  cases g with
  | nil => simp [Lib.join_one]
  | cons x r =>
    rw [List.cons_append, Lib.join_cons, Lib.join_cons]
    simp [Lib.joinTail]
theorem join_len (g : List Bs) : (joinC g).length ≤ tot g + 2 * g.length := by
  unfold joinC
  cases g with
  | nil => simp [Lib.join_nil]
  | cons x r =>
    rw [Lib.join_cons]
    have : ∀ r : List Bs, (Lib.joinTail [44, 32] r).length ≤ tot r + 2 * r.length := by
      intro r
      induction r with
      | nil => simp [Lib.joinTail, tot]
      | cons y r ih => simp [Lib.joinTail, tot] at ih ⊢; omega
    have := this r
    simp [tot] at this ⊢
    omega
theorem joinf_len (l : List Fd) (n : Bs) : (joinC (get l n)).length ≤ fsz l := by
  have h1 := join_len (get l n)
  have h2 := get_tot l n
  omega
theorem selO_len (l : List Fd) (n : Bs) : (selO l n).length ≤ 1 := by unfold selO; split <;> simp
theorem sel_len (ns : List Bs) (l : List Fd) : (sel ns l).length ≤ ns.length := by
  induction ns with
  | nil => simp [sel]
  | cons n ns ih =>
    have := selO_len l n
    simp only [sel, List.flatMap_cons, List.length_append, List.length_cons] at ih ⊢
    omega
section
variable {e : Env} {ctx ctx' rest R : List HProp}
theorem join_spec {K : ByteArray → WP} {a : Option Addr} {c : Nat} {g : List Bs} (hr : Rd rest a (ss g)) (hc : g.length ≤ c) (h0 : 0 < g.length) (hg : tot g + 2 * g.length ≤ 1099511627776) (h : Ent e rest (K (ba (joinC g)))) :
    Ent e rest (strings_Join (.slice a g.length c) (⟨#[44, 32]⟩ : ByteArray) K) := by
  obtain ⟨bk, o, rfl, hrd⟩ := rd_some hr (by simpa using h0)
  have hjl := join_len g
  refine Ent.libS (s := ba (joinC g)) (fun w hw => ?_) h
  obtain ⟨T, fr, cs, k1, k2⟩ := hrd _ hw.heap
  have hb : w.heap[bk]? = some (.cells cs T fr) := k1
  have hlt : bk < w.heap.size := (Array.getElem?_eq_some_iff.1 hb).1
  have e1 : (g.map ba).map (·.data.toList) = g := by simp [ba, Function.comp_def]
  have := Tryz.strings_Join bk o c (g.map ba) ⟨#[44, 32]⟩ w (fun j x hx => by
    have : (ss g)[j]? = some (.string x) := by
      simp only [List.getElem?_map, Option.map_eq_some_iff] at hx
      obtain ⟨y, hy, rfl⟩ := hx
      simp [ss, hy]
    simp [World.cell?, hb, k2 _ _ this]) hlt (by simp; omega) (by simpa using hc) (by rw [e1]; show (joinC g).length ≤ _; omega)
  rw [e1, List.length_map] at this
  exact this
theorem select_spec {K : Value → WP} {a a' : Option Addr} {c c' : Nat} {ns : List Bs} {l : List Fd} (hr : Rd rest a (ss ns)) (hr' : Rd rest a' (fc l)) (hl : fsz l ≤ 549755813888) (hn : ns.length ≤ 1099511627776) (hnl : ∀ n ∈ ns, n.length ≤ 1099511627776)
    (h : ∀ a c, Ent e (SlO a (sel ns l).length c 2 (fc (sel ns l)) :: rest) (K (.slice a (sel ns l).length c))) :
    Ent e rest (vary_Select (.slice a ns.length c) (.slice a' l.length c') K) := by
  (refine Ent.fn vary_Select_ok ?_; unfold vary_Select_sh)
  refine Ent.box' fun bl => ?_
  refine Ent.alloc' fun bo => ?_
  (refine Ent.go ?_)
  refine Ent.rngL0 ns.length (fun k => exs (fun (y : Option Addr × Nat) => sepL [pt bo [.slice y.1 (sel (ns.take k) l).length y.2], SlO y.1 (sel (ns.take k) l).length y.2 2 (fc (sel (ns.take k) l))]) :: pt bl [.slice a' l.length c'] :: rest) rfl ?_ ?_
  · refine Imp.exs (none, 0) (Imp.g2 ?_)
    refine Imp.trans ?_ (Imp.perm (.swap _ _ _))
    exact Imp.slN (Imp.refl _)
  intro k hk K' hK
  refine Ent.exs fun ⟨a2, c2⟩ => Ent.g2 ?_
  dsimp only
  by_cases hkn : k < ns.length
  · obtain ⟨n, hx⟩ : ∃ n, ns[k]? = some n := ⟨_, List.getElem?_eq_getElem hkn⟩
    have hv2 : (ss ns)[(k : Int).toNat]? = some (.string (ba n)) := by rw [Int.toNat_natCast]; simp [ss, hx]
    have hs : sel (ns.take (k + 1)) l = sel (ns.take k) l ++ selO l n := by rw [take_snoc hx]; simp [sel]
    have hsl := sel_len (ns.take k) l
    have htl : (ns.take k).length ≤ ns.length := by simp; omega
    have hnn := hnl n (List.mem_of_getElem? hx)
    refine Ent.wT ?_ (by simpa using hkn)
    refine Ent.wiSr (hr.tl.tl.tl) ?_ rfl rfl rfl (by omega) (by omega) hv2
    refine Ent.callF (by rfl) ?_
    refine Ent.fn (sh := vary_Select_c1_sh (ba n) (.pointer (some ⟨bl, 0, none⟩)) (.pointer (some ⟨bo, 0, none⟩)) _) (fun w h => vary_Select_c1_ok w h) ?_
    (refine Ent.go ?_)
    refine get_spec (hr'.tl.tl.tl) (by omega) hnn fun a3 c3 => ?_
    have hgt := get_tot l n
    refine Ent.rdS fun hr3 hc3 => ?_
    refine Ent.wlen ?_
    by_cases hg : get l n = []
    · have e1 : selO l n = [] := by unfold selO; rw [if_pos hg]
      rw [e1, List.append_nil] at hs
      refine Ent.wF ?_ (by rw [hg]; rfl)
      (refine Ent.go ?_)
      refine Ent.imp ?_ (hK hkn)
      refine Imp.exs (a2, c2) (Imp.g2 ?_)
      dsimp only
      rw [hs]
      (focus ((repeat ((with_reducible apply Imp.pick); (repeat (first | exact Pick.hd | apply Pick.tl)))); (repeat (first | exact Imp.refl _ | exact Imp.nil _ | apply Imp.drop)); done))
    · have e1 : selO l n = [(n, joinC (get l n))] := by unfold selO; rw [if_neg hg]
      rw [e1] at hs
      have hgl : 0 < (get l n).length := List.length_pos_iff.2 hg
      refine Ent.wT ?_ (decide_eq_true (by omega))
      refine Ent.draw [pt bo [.slice a2 (sel (ns.take k) l).length c2], SlO a3 (get l n).length c3 1 (ss (get l n))] (by (focus ((repeat ((with_reducible apply Imp.pick); (repeat (first | exact Pick.hd | apply Pick.tl)))); (repeat (first | exact Imp.refl _ | exact Imp.nil _ | apply Imp.drop)); done))) ?_
      (refine Ent.go ?_)
      refine join_spec (hr3 _ (by (repeat (first | exact Has.hd | apply Has.tl)))) hc3 hgl (by omega) ?_
      (refine Ent.go ?_)
      refine Ent.app1a (sz := 2) (cs := fdC (n, joinC (get l n))) (hv := rfl) (by (focus ((repeat ((with_reducible apply Imp.pick); (repeat (first | exact Pick.hd | apply Pick.tl)))); (repeat (first | exact Imp.refl _ | exact Imp.nil _ | apply Imp.drop)); done))) (fun a4 c4 => ?_)
      (refine Ent.go ?_)
      refine Ent.imp ?_ (hK hkn)
      refine Imp.exs (a4, c4) (Imp.g2 ?_)
      dsimp only
      rw [hs, fc_app, List.length_append]
      show Imp _ (pt bo [.slice a4 ((sel (ns.take k) l).length + 1) c4] :: SlO a4 ((sel (ns.take k) l).length + 1) c4 2 (fc (sel (ns.take k) l) ++ fdC (n, joinC (get l n))) :: _)
      (focus ((repeat ((with_reducible apply Imp.pick); (repeat (first | exact Pick.hd | apply Pick.tl)))); (repeat (first | exact Imp.refl _ | exact Imp.nil _ | apply Imp.drop)); done))
  · have hkl : k = ns.length := by omega
    subst hkl
    refine Ent.wF ?_ (by simp)
    rw [List.take_of_length_le (Nat.le_refl _)]
    (refine Ent.go ?_)
    exact Ent.imp (by (focus ((repeat ((with_reducible apply Imp.pick); (repeat (first | exact Pick.hd | apply Pick.tl)))); (repeat (first | exact Imp.refl _ | exact Imp.nil _ | apply Imp.drop)); done))) (h a2 c2)
end
end Go.Proofs.YtfofnagocedlgaaGreatDoor.Tx
