/-
  WORDS (layer 31): Quote, of the program and of the document.
-/
import Derived.Test.YtoneapgooihajaaGreatDoorQc
set_option maxRecDepth 100000
set_option linter.unusedVariables false
set_option linter.unusedSectionVars false
set_option linter.unusedSimpArgs false
set_option maxHeartbeats 0
namespace Go.Proofs.YtoneapgooihajaaGreatDoor.Qa
open Go Sh Sl
open Go.RowKit
attribute [local irreducible] condK ArK NilK OpK FnK StK joinK loopK DrawK andK PuK NxK EnK vS uS bS callS invokeS
theorem u8_at {l : Bs} {i : Nat} {c : UInt8} (h : l[i]? = some c) : (u8 l)[i]? = some (.int .u8 c.toNat) := by simp [u8, h]
theorem take_snoc {α : Type} {l : List α} {k : Nat} {x : α} (h : l[k]? = some x) : l.take (k + 1) = l.take k ++ [x] := by rw [List.take_add_one, h]; rfl
section
variable {e : Env} {ctx rest R : List HProp}
theorem st_ixB {k : IntKind} {i : Int} {l : Bs} {c : UInt8} (h0 : 0 ≤ i) (hv : l[i.toNat]? = some c) : Pu (vS (Instr.index 9 (.string (ba l)) (.int k i))) (.int .u8 c.toNat) := by
  have hlt := (List.getElem?_eq_some_iff.1 hv).1
  have hsz : (ba l).size = l.length := by simp [ba, ByteArray.size]
  have h1 := st_ixS (t := 9) (s := ba l) (k := k) (i := i) rfl h0 (by rw [hsz]; exact hlt)
  have e1 : ((ba l)[i.toNat]'(by rw [hsz]; exact hlt)) = c := by
    have h1 : l[i.toNat]'hlt = c := (List.getElem?_eq_some_iff.1 hv).2
    rw [← h1]
    show (l.toArray)[i.toNat]'_ = _
    simp
  rw [e1] at h1
  exact h1
theorem oIx {k : IntKind} {i : Int} {l : Bs} {c : UInt8} {K : Int → WP} (h0 : 0 ≤ i) (hv : l[i.toNat]? = some c) (h : Ent e ctx (K c.toNat)) : Ent e ctx (oI .u8 (vS (Instr.index 9 (.string (ba l)) (.int k i))) K) := Ent.opI (st_ixB h0 hv).still h
theorem qIx {k : IntKind} {i : Int} {l : Bs} {c : UInt8} {K : Int → WP} (h0 : 0 ≤ i) (hv : l[i.toNat]? = some c) (h : Ent e ctx (K c.toNat)) : Ent e ctx (qI .u8 (vS (Instr.index 9 (.string (ba l)) (.int k i))) K) := Ent.puI (st_ixB h0 hv) h
/-- a byte of a row -/
theorem rowB {a : Option Addr} {n c : Nat} {l : Bs} {i : Nat} {x : UInt8} {K : Int → WP} (hr : Rd ctx a (u8 l)) (hi : l[i]? = some x) (hn : i < n) (h : Ent e ctx (K x.toNat)) : Ent e ctx (iI 52 (.slice a n c) .i64 (i : Int) 5 .u8 K) :=
  Ent.wiIr hr h rfl rfl rfl (by omega) (by omega) (by rw [Int.toNat_natCast]; exact u8_at hi)
theorem slO_pt {b n sz : Nat} {l : List Value} (hl : l.length = n * sz) : Imp (pt b l :: ctx) (SlO (some ⟨b, 0, none⟩) n n sz l :: ctx) := fun _ k =>
  sepL_cons (fun h hp => ⟨hl, .inr ⟨b, [], rfl, Nat.le_refl _, by simp [hl], by simpa using hp⟩⟩) (fun _ z => z) k
theorem and15 (c : UInt8) : IntKind.u8.wrap (((BitVec.ofInt IntKind.u8.bits (c.toNat : Int) &&& BitVec.ofInt IntKind.u8.bits 15).toNat : Nat) : Int) = ((c.toNat % 16 : Nat) : Int) := by
  have : ∀ n : Fin 256, IntKind.u8.wrap (((BitVec.ofInt IntKind.u8.bits (n.val : Int) &&& BitVec.ofInt IntKind.u8.bits 15).toNat : Nat) : Int) = ((n.val % 16 : Nat) : Int) := by decide +kernel
  exact this ⟨c.toNat, c.toNat_lt⟩
theorem isX_b (c : UInt8) : (decide ((c.toNat : Int) < 32) || decide ((c.toNat : Int) > 126)) = isX c := by
  unfold isX
  congr 1 <;> exact decide_eq_decide.2 (by omega)
theorem isE_b (c : UInt8) : (((c.toNat : Int) == 34) || ((c.toNat : Int) == 92)) = isE c := by
  unfold isE
  congr 1
  · by_cases h : c.toNat = 34
    · rw [h]; rfl
    · rw [decide_eq_false h]; exact beq_eq_false_iff_ne.2 (by omega)
  · by_cases h : c.toNat = 92
    · rw [h]; rfl
    · rw [decide_eq_false h]; exact beq_eq_false_iff_ne.2 (by omega)
theorem Ent.orJ {b c : Bool} {i : Nat} {k : Bool → WP} (h : Ent e ctx (k (b || c))) : Ent e ctx (joinK [(i, .bool)] (fun (j : Bool → WP) => condK b (j true) (j c)) k) := by
  refine Ent.join ?_
  cases b
  · exact Ent.wF h
  · exact Ent.wT h
/-- bytes told one by one at a slice's end -/
theorem app_lit {t y n c : Nat} {a : Option Addr} {l x : Bs} {ps : Array (Nat × Value)} {k : Value → WP} (hn : n = l.length) (h : ∀ a2 c2, Ent e (SlO a2 (n + x.length) c2 1 (u8 (l ++ x)) :: rest) (k (.slice a2 (n + x.length) c2)))
    (hps : fillL (fun i => some (i * 1, 1)) (List.replicate x.length [.int .u8 0]).flatten ps.toList = some (u8 x)) (hx : x.length ≤ 16777216) (hb : l.length + x.length ≤ 140737488355328) (ht : dd t = some (.sl 5) := by exact rfl) :
    Ent e (SlO a n c 1 (u8 l) :: rest) (oR (vS (Instr.buildSlice t x.length ps)) fun s => app t t y (.slice a n c) s k) := by
  refine Ent.slice (out := u8 x) (by_ := 1) ht rfl rfl rfl (by dsimp only; omega) (by decide) hps fun b => ?_
  refine Ent.appN (m := x.length) (news := u8 x) (sz := 1) (Rd.pt .hd) (fun a2 c2 => ?_) (ht := ht) (hl := by simp) (h1 := u8_one _) (hb := by dsimp only; omega) (h63 := by omega)
  refine Ent.imp ?_ (h a2 c2)
  rw [u8_append]
  (focus ((repeat ((with_reducible apply Imp.pick); (repeat (first | exact Pick.hd | apply Pick.tl)))); (repeat (first | exact Imp.refl _ | exact Imp.nil _ | apply Imp.drop)); done))
theorem quote_spec {K : ByteArray → WP} {a : Option Addr} {c : Nat} {b : Bs} (hb : b.length ≤ 268435456) (hr : Rd rest a (u8 b)) (h : Ent e rest (K (ba (q b)))) : Ent e rest (shell_Quote (.slice a b.length c) K) := by
  (refine Ent.fn shell_Quote_ok ?_; unfold shell_Quote_sh)
  refine Ent.slice0 (out := u8 [34]) (by_ := 1) rfl rfl rfl rfl (by decide) (by decide) (by rfl) fun b0 => ?_
  refine Ent.wlen ?_
  refine Ent.rngL1 (k0 := .raw) b.length (fun k (v : Value) => (exs fun (q : Option Addr × Nat) => sepL [pur (v = .slice q.1 (34 :: encs (b.take k)).length q.2), SlO q.1 (34 :: encs (b.take k)).length q.2 1 (u8 (34 :: encs (b.take k)))]) :: rest) rfl ?_ ?_
  · refine Imp.exs (some ⟨b0, 0, none⟩, 1) (Imp.g2 (Imp.pur rfl ?_))
    exact Imp.trans (fun _ k => sepL_cons p0_pt (fun _ z => z) k) (slO_pt (n := 1) (sz := 1) rfl)
  intro k hk K' hK v
  refine Ent.exs fun ⟨a2, c2⟩ => Ent.g2 (Ent.pur fun hv => ?_)
  dsimp only at hv
  dsimp only
  subst hv
  have hel := (encs_len (b.take k)).2
  have htk : (b.take k).length ≤ b.length := List.length_take_le' k b
  by_cases hl : k < b.length
  · obtain ⟨x, hx⟩ : ∃ x, b[k]? = some x := ⟨_, List.getElem?_eq_getElem hl⟩
    have hnx : ∀ y : Bs, enc x = y → 34 :: encs (b.take (k + 1)) = (34 :: encs (b.take k)) ++ y := fun y hy => by
      rw [take_snoc hx, encs_app, encs_cons, hy]; simp [encs]
    have next : ∀ (y : Bs) a3 c3, enc x = y → Ent e (SlO a3 ((34 :: encs (b.take k)).length + y.length) c3 1 (u8 ((34 :: encs (b.take k)) ++ y)) :: rest) (ArK .i64 ((k : Int) + 1) fun t44 => K' (.slice a3 ((34 :: encs (b.take k)).length + y.length) c3) t44) := fun y a3 c3 hy => by
      refine Ent.war ?_
      refine Ent.imp ?_ (hK hl _)
      have e1 := hnx y hy
      refine Imp.exs (a3, c3) (Imp.g2 (Imp.pur ?_ ?_))
      · rw [e1, List.length_append]
      · rw [e1, List.length_append]
        exact Imp.refl _
    refine Ent.wT ?_
    refine rowB (hr.mono (by (focus (repeat (first | exact Imp.refl _ | exact Imp.nil _ | apply Imp.drop))))) hx hl ?_
    refine Ent.orJ ?_
    rw [isX_b]
    refine Ent.cond (fun hc => ?_) fun hc => ?_
    · have hcl := x.toNat_lt
      have hy : enc x = [92, 120, hexd (x.toNat / 16), hexd (x.toNat % 16)] := by unfold enc; rw [if_pos hc]
      refine Ent.draw [] (Imp.nil _) ?_
      refine Ent.puI (st_shr (by decide) (by decide)) ?_
      rw [show ((x.toNat : Int) / 2 ^ (4 : Int).toNat) = ((x.toNat / 16 : Nat) : Int) by simp]
      refine qIx (l := dg) (by omega) (by rw [Int.toNat_natCast]; exact hexd_dg _ (by omega)) ?_
      refine Ent.puI st_and ?_
      rw [and15]
      refine qIx (l := dg) (by omega) (by rw [Int.toNat_natCast]; exact hexd_dg _ (by omega)) ?_
      refine app_lit (x := [92, 120, hexd (x.toNat / 16), hexd (x.toNat % 16)]) rfl (fun a3 c3 => next _ a3 c3 hy) rfl (by simp) (by simp at hel ⊢; omega)
    · refine Ent.orJ ?_
      rw [isE_b]
      refine Ent.cond (fun hc2 => ?_) fun hc2 => ?_
      · have hy : enc x = [92, x] := by unfold enc; rw [if_neg (by rw [hc]; decide), if_pos hc2]
        exact app_lit (x := [92, x]) rfl (fun a3 c3 => next _ a3 c3 hy) rfl (by simp) (by simp at hel ⊢; omega)
      · have hy : enc x = [x] := by unfold enc; rw [if_neg (by rw [hc]; decide), if_neg (by rw [hc2]; decide)]
        exact app_lit (x := [x]) rfl (fun a3 c3 => next _ a3 c3 hy) rfl (by simp) (by simp at hel ⊢; omega)
  · have hke : k = b.length := by omega
    rw [hke, List.take_length] at hel ⊢
    refine Ent.wF ?_
    refine app_lit (x := [34]) rfl (fun a3 c3 => ?_) rfl (by simp) (by simp at hel ⊢; omega)
    refine Ent.rdS fun r1 _ => ?_
    refine Ent.opS (b := ba (q b)) ?_ h.drop
    have := st_b2s (e := e) (l := (34 :: encs b) ++ [34]) (c := c3) (r1 (SlO a3 ((34 :: encs b).length + [34].length) c3 1 (u8 ((34 :: encs b) ++ [34])) :: rest) .hd) (s := 52) (x := 5) (d := 9) rfl rfl rfl
    rw [List.length_append] at this
    exact this
theorem ref_quote_spec {K : ByteArray → WP} {a : Option Addr} {c : Nat} {b : Bs} (hb : b.length ≤ 268435456) (hr : Rd rest a (u8 b)) (h : Ent e rest (K (ba (q b)))) : Ent e rest (ref31_Quote (.slice a b.length c) K) := by
  (refine Ent.fn ref31_Quote_ok ?_; unfold ref31_Quote_sh)
  refine Ent.slice0 (out := u8 [34]) (by_ := 1) rfl rfl rfl rfl (by decide) (by decide) (by rfl) fun b0 => ?_
  refine Ent.rngL1 (k0 := .raw) b.length (fun k (v : Value) => (exs fun (q : Option Addr × Nat) => sepL [pur (v = .slice q.1 (34 :: encs (b.take k)).length q.2), SlO q.1 (34 :: encs (b.take k)).length q.2 1 (u8 (34 :: encs (b.take k)))]) :: rest) rfl ?_ ?_
  · refine Imp.exs (some ⟨b0, 0, none⟩, 1) (Imp.g2 (Imp.pur rfl ?_))
    exact Imp.trans (fun _ k => sepL_cons p0_pt (fun _ z => z) k) (slO_pt (n := 1) (sz := 1) rfl)
  intro k hk K' hK v
  refine Ent.exs fun ⟨a2, c2⟩ => Ent.g2 (Ent.pur fun hv => ?_)
  dsimp only at hv
  dsimp only
  subst hv
  have hel := (encs_len (b.take k)).2
  have htk : (b.take k).length ≤ b.length := List.length_take_le' k b
  refine Ent.wlen ?_
  by_cases hl : k < b.length
  · obtain ⟨x, hx⟩ : ∃ x, b[k]? = some x := ⟨_, List.getElem?_eq_getElem hl⟩
    have hnx : ∀ y : Bs, enc x = y → 34 :: encs (b.take (k + 1)) = (34 :: encs (b.take k)) ++ y := fun y hy => by
      rw [take_snoc hx, encs_app, encs_cons, hy]; simp [encs]
    have next : ∀ (y : Bs) a3 c3, enc x = y → Ent e (SlO a3 ((34 :: encs (b.take k)).length + y.length) c3 1 (u8 ((34 :: encs (b.take k)) ++ y)) :: rest) (ArK .i64 ((k : Int) + 1) fun t44 => K' (.slice a3 ((34 :: encs (b.take k)).length + y.length) c3) t44) := fun y a3 c3 hy => by
      refine Ent.war ?_
      refine Ent.imp ?_ (hK hl _)
      have e1 := hnx y hy
      refine Imp.exs (a3, c3) (Imp.g2 (Imp.pur ?_ ?_))
      · rw [e1, List.length_append]
      · rw [e1, List.length_append]
        exact Imp.refl _
    refine Ent.wT ?_
    refine rowB (hr.mono (by (focus (repeat (first | exact Imp.refl _ | exact Imp.nil _ | apply Imp.drop))))) hx hl ?_
    refine Ent.orJ ?_
    rw [isX_b]
    refine Ent.cond (fun hc => ?_) fun hc => ?_
    · have hcl := x.toNat_lt
      have hy : enc x = [92, 120, hexd (x.toNat / 16), hexd (x.toNat % 16)] := by unfold enc; rw [if_pos hc]
      refine Ent.draw [] (Imp.nil _) ?_
      have e1 : (x.toNat : Int).tdiv 16 = ((x.toNat / 16 : Nat) : Int) := by rw [Int.tdiv_eq_ediv_of_nonneg (by omega)]; omega
      have e2 : (x.toNat : Int).tmod 16 = ((x.toNat % 16 : Nat) : Int) := by rw [Int.tmod_eq_emod_of_nonneg (by omega)]; omega
      refine Ent.puI (st_quo (by decide) (by rw [e1]; exact in_u8 (by omega) (by omega))) ?_
      rw [e1]
      refine qIx (l := dg) (by omega) (by rw [Int.toNat_natCast]; exact hexd_dg _ (by omega)) ?_
      refine Ent.puI (st_rem (by decide)) ?_
      rw [e2]
      refine qIx (l := dg) (by omega) (by rw [Int.toNat_natCast]; exact hexd_dg _ (by omega)) ?_
      refine app_lit (x := [92, 120, hexd (x.toNat / 16), hexd (x.toNat % 16)]) rfl (fun a3 c3 => next _ a3 c3 hy) rfl (by simp) (by simp at hel ⊢; omega)
    · refine Ent.orJ ?_
      rw [isE_b]
      refine Ent.cond (fun hc2 => ?_) fun hc2 => ?_
      · have hy : enc x = [92, x] := by unfold enc; rw [if_neg (by rw [hc]; decide), if_pos hc2]
        refine app_lit (x := [92]) rfl (fun a3 c3 => ?_) rfl (by simp) (by simp at hel ⊢; omega)
        refine app_lit (x := [x]) (by simp) (fun a4 c4 => ?_) rfl (by simp) (by simp at hel ⊢; omega)
        rw [List.append_assoc]
        exact next [92, x] a4 c4 hy
      · have hy : enc x = [x] := by unfold enc; rw [if_neg (by rw [hc]; decide), if_neg (by rw [hc2]; decide)]
        exact app_lit (x := [x]) rfl (fun a3 c3 => next _ a3 c3 hy) rfl (by simp) (by simp at hel ⊢; omega)
  · have hke : k = b.length := by omega
    rw [hke, List.take_length] at hel ⊢
    refine Ent.wF ?_
    refine app_lit (x := [34]) rfl (fun a3 c3 => ?_) rfl (by simp) (by simp at hel ⊢; omega)
    refine Ent.rdS fun r1 _ => ?_
    refine Ent.opS (b := ba (q b)) ?_ h.drop
    have := st_b2s (e := e) (l := (34 :: encs b) ++ [34]) (c := c3) (r1 (SlO a3 ((34 :: encs b).length + [34].length) c3 1 (u8 ((34 :: encs b) ++ [34])) :: rest) .hd) (s := 52) (x := 5) (d := 9) rfl rfl rfl
    rw [List.length_append] at this
    exact this
end
end Go.Proofs.YtoneapgooihajaaGreatDoor.Qa
