/-
  FIELDS (layer 16): the document's Select.
-/
import Derived.Test.YtfofnagocedlgaaGreatDoorVe
set_option maxRecDepth 100000
set_option linter.unusedVariables false
set_option linter.unusedSectionVars false
set_option linter.unusedSimpArgs false
set_option maxHeartbeats 0
namespace Go.Proofs.YtfofnagocedlgaaGreatDoor.Tx
open Go Sh Sl
open Go.RowKit
attribute [local irreducible] condK ArK NilK OpK FnK StK joinK loopK DrawK andK PuK NxK EnK vS uS bS callS invokeS
theorem ba_app (a b : Bs) : ba a ++ ba b = ba (a ++ b) := by
  apply ByteArray.ext
  simp [ByteArray.data_append]
section
variable {e : Env} {ctx ctx' rest R : List HProp}
theorem addB {t : Nat} {X Y : Operand} {a b : Bs} {K : ByteArray → WP} (hl : a.length + b.length ≤ 9223372036854775807) (h : Ent e ctx (K (ba (a ++ b)))) : Ent e ctx (oS (bS .add t X Y (.string (ba a)) (.string (ba b))) K) := by
  refine Ent.opS (st_addS (by simp [ba, ByteArray.size]; omega)).still ?_
  rw [ba_app]; exact h
theorem ref_select_spec {K : Value → WP} {a a' : Option Addr} {c c' : Nat} {ns : List Bs} {l : List Fd} (hr : Rd rest a (ss ns)) (hr' : Rd rest a' (fc l)) (hl : fsz l ≤ 549755813888) (hn : ns.length ≤ 1099511627776) (hnl : ∀ n ∈ ns, n.length ≤ 1099511627776)
    (h : ∀ a c, Ent e (SlO a (sel ns l).length c 2 (fc (sel ns l)) :: rest) (K (.slice a (sel ns l).length c))) :
    Ent e rest (ref16_Select (.slice a ns.length c) (.slice a' l.length c') K) := by
  (refine Ent.fn ref16_Select_ok ?_; unfold ref16_Select_sh)
  refine Ent.rngL1 (k0 := .raw) ns.length (fun k v => exs (fun (y : Option Addr × Nat) => sepL [pur (v = .slice y.1 (sel (ns.take k) l).length y.2), SlO y.1 (sel (ns.take k) l).length y.2 2 (fc (sel (ns.take k) l))]) :: rest) rfl ?_ ?_
  · refine Imp.exs (none, 0) (Imp.g2 (Imp.pur (by simp [sel]) ?_))
    exact Imp.slN (Imp.refl _)
  intro k hk K' hK v
  refine Ent.exs fun ⟨a2, c2⟩ => Ent.g2 (Ent.pur fun hv => ?_)
  dsimp only at hv
  dsimp only
  subst hv
  (refine Ent.go ?_)
  by_cases hkn : k < ns.length
  · obtain ⟨n, hx⟩ : ∃ n, ns[k]? = some n := ⟨_, List.getElem?_eq_getElem hkn⟩
    have hv2 : (ss ns)[(k : Int).toNat]? = some (.string (ba n)) := by rw [Int.toNat_natCast]; simp [ss, hx]
    have hs : sel (ns.take (k + 1)) l = sel (ns.take k) l ++ selO l n := by rw [take_snoc hx]; simp [sel]
    have hsl := sel_len (ns.take k) l
    have htl : (ns.take k).length ≤ ns.length := by simp; omega
    have hnn := hnl n (List.mem_of_getElem? hx)
    have hll := fsz_len l
    refine Ent.wT ?_ (by simpa using hkn)
    refine Ent.rngL2 (k0 := .str) (k1 := .int .i64) l.length (fun j s m => pur (s = ba (joinC (get (l.take j) n)) ∧ m = ((get (l.take j) n).length : Int)) :: SlO a2 (sel (ns.take k) l).length c2 2 (fc (sel (ns.take k) l)) :: rest) rfl ?_ ?_
    · exact Imp.pur ⟨by simp [get, joinC, Lib.join_nil], by simp [get]⟩ (Imp.refl _)
    intro j hj K2 hK2 s m
    refine Ent.pur fun ⟨h1, h2⟩ => ?_
    subst h1 h2
    have hjl := joinf_len (l.take j) n
    have hgl := get_tot (l.take j) n
    have htf : fsz (l.take j) ≤ fsz l := by
      have h9 := fsz_app (l.take j) (l.drop j)
      rw [List.take_append_drop] at h9
      omega
    (refine Ent.go ?_)
    by_cases hjn : j < l.length
    · obtain ⟨f, hf⟩ : ∃ f, l[j]? = some f := ⟨_, List.getElem?_eq_getElem hjn⟩
      have hfm := fsz_mem (List.mem_of_getElem? hf)
      have hg := get_snoc (l.take j) f n
      rw [← take_snoc hf] at hg
      refine Ent.wT ?_ (by simpa using hjn)
      refine Ent.draw _ (Imp.refl _) ?_
      refine fdAtQ hr'.tl hf hjn (.inl ⟨rfl, rfl⟩) ?_
      refine Ent.wjSr hr.tl ?_ rfl rfl rfl (by omega) (by omega) hv2
      refine ref_same_spec (by omega) hnn ?_
      by_cases he : lower f.1 = lower n
      · rw [if_pos he] at hg
        refine Ent.wF ?_ (by rw [decide_eq_true he]; rfl)
        have hjs := join_snoc (get (l.take j) n) f.2
        rw [← hg] at hjs
        refine Ent.join ?_
        have fin : ∀ pre : Bs, pre ++ f.2 = joinC (get (l.take (j + 1)) n) → pre.length ≤ fsz l + 2 → Ent e (SlO a2 (sel (ns.take k) l).length c2 2 (fc (sel (ns.take k) l)) :: rest)
            (oR (vS (Instr.indexAt 23 (.slice a' l.length c') (.int .i64 (j : Int)))) fun t40 => fS 55 t40 1 9 fun t42 =>
             oS (bS .add 9 (.tmp 37) (.tmp 42) (.string (ba pre)) (.string t42)) fun t43 =>
             ArK .i64 (((get (l.take j) n).length : Int) + 1) fun t45 =>
             ArK .i64 ((j : Int) + 1) fun t21_1 =>
             K2 t43 t45 t21_1) := by
          intro pre hpre hpl
          refine fdAt hr'.tl hf hjn (.inr ⟨rfl, rfl⟩) ?_
          refine addB (by omega) ?_
          rw [hpre]
          (refine Ent.go ?_)
          refine Ent.imp (Imp.pur ⟨rfl, ?_⟩ (Imp.refl _)) (hK2 hjn _ _)
          rw [hg]; simp
        by_cases h0 : get (l.take j) n = []
        · rw [if_pos h0] at hjs
          refine Ent.wF ?_ (by rw [h0]; rfl)
          refine fin _ ?_ (by omega)
          rw [hjs, h0]; simp [joinC, Lib.join_nil]
        · rw [if_neg h0] at hjs
          have hp : 0 < (get (l.take j) n).length := List.length_pos_iff.2 h0
          refine Ent.wT ?_ (decide_eq_true (by omega))
          refine addB (b := [44, 32]) (by simp; omega) ?_
          refine fin _ hjs.symm (by simp; omega)
      · rw [if_neg he] at hg
        refine Ent.wT ?_ (by rw [decide_eq_false he]; rfl)
        (refine Ent.go ?_)
        refine Ent.imp (Imp.pur ⟨?_, ?_⟩ (Imp.refl _)) (hK2 hjn _ _)
        · rw [hg]
        · rw [hg]
    · have hjl : j = l.length := by omega
      subst hjl
      refine Ent.wF ?_ (by simp)
      rw [List.take_of_length_le (Nat.le_refl _)]
      by_cases h0 : get l n = []
      · have e1 : selO l n = [] := by unfold selO; rw [if_pos h0]
        rw [e1, List.append_nil] at hs
        refine Ent.wF ?_ (by rw [h0]; rfl)
        (refine Ent.go ?_)
        refine Ent.imp ?_ (hK hkn _)
        refine Imp.exs (a2, c2) (Imp.g2 (Imp.pur ?_ ?_))
        · rw [hs]
        · rw [hs]
          (focus ((repeat ((with_reducible apply Imp.pick); (repeat (first | exact Pick.hd | apply Pick.tl)))); (repeat (first | exact Imp.refl _ | exact Imp.nil _ | apply Imp.drop)); done))
      · have e1 : selO l n = [(n, joinC (get l n))] := by unfold selO; rw [if_neg h0]
        rw [e1] at hs
        have hp : 0 < (get l n).length := List.length_pos_iff.2 h0
        refine Ent.wT ?_ (decide_eq_true (by omega))
        refine Ent.wiSr hr.tl ?_ rfl rfl rfl (by omega) (by omega) hv2
        (refine Ent.go ?_)
        refine Ent.app1 (sz := 2) (cs := fdC (n, joinC (get l n))) (hv := rfl) (fun a4 c4 => ?_)
        (refine Ent.go ?_)
        refine Ent.imp ?_ (hK hkn _)
        refine Imp.exs (a4, c4) (Imp.g2 (Imp.pur ?_ ?_))
        · rw [hs]; simp
        · rw [hs, fc_app, List.length_append]
          show Imp _ (SlO a4 ((sel (ns.take k) l).length + 1) c4 2 (fc (sel (ns.take k) l) ++ fdC (n, joinC (get l n))) :: _)
          (focus ((repeat ((with_reducible apply Imp.pick); (repeat (first | exact Pick.hd | apply Pick.tl)))); (repeat (first | exact Imp.refl _ | exact Imp.nil _ | apply Imp.drop)); done))
  · have hkl : k = ns.length := by omega
    subst hkl
    refine Ent.wF ?_ (by simp)
    rw [List.take_of_length_le (Nat.le_refl _)]
    exact h a2 c2
end
end Go.Proofs.YtfofnagocedlgaaGreatDoor.Tx
