/-
  THE EVALUATOR IS SOUND (twelfth part: what is written).
-/
import Derived.Test.YtiabhghlhnnnjaaGreatDoorEi
import Derived.Test.YtiabhghlhnnnjaaGreatDoorRf
set_option linter.unusedVariables false
set_option linter.unusedSimpArgs false
set_option maxRecDepth 100000
set_option maxHeartbeats 0
noncomputable section
namespace Go.Proofs.YtiabhghlhnnnjaaGreatDoor.Ev
open Go Sh Sl
variable {e : Env} {R : HProp}
/-- the operation runs, and what it leaves -/
def ActAt (e : Env) (R : HProp) (L : Lo) (s s' : St) (ρ : Operand → Value) (o : Oper) (v : EV) : Prop :=
  ∀ w, Rep e R L s w → NextK P (execOp ρ o) (fun x w' => ∃ M, Lo.le L M ∧ Real M v x ∧ Rep e R M s' w') w
theorem NextK.of_val {m : Sem Value} {x : Value} {c : Value → WP} {w w' : World} (h : m.run P w = .ok x w') (hc : c x w') : NextK P (vS m) c w := by
  unfold NextK; rw [run_vS h]; exact hc
theorem NextK.of_unit {m : Sem Unit} {c : Value → WP} {w w' : World} (h : m.run P w = .ok () w') (hc : c undef w') : NextK P (uS m) c w := by
  unfold NextK; rw [run_uS h]; exact hc
theorem ReadAt.act {L : Lo} {s : St} {ρ : Operand → Value} {o : Oper} {v : EV} (h : ReadAt e R L s ρ o v) : ActAt e R L s s ρ o v := fun w hw => by
  obtain ⟨x, h1, h2⟩ := h w hw
  unfold NextK; rw [h2]; exact ⟨L, Lo.le_refl L, h1, hw⟩
theorem PureAt.read {L : Lo} {s : St} {ρ : Operand → Value} {o : Oper} {v : EV} (h : PureAt L ρ o v) : ReadAt e R L s ρ o v := fun w hw => by
  obtain ⟨x, h1, h2⟩ := h
  exact ⟨x, h1, h2 w⟩
theorem FreshAt.act {L : Lo} {s s' : St} {ρ : Operand → Value} {o : Oper} {v : EV} (h : FreshAt e R L s s' ρ o v) : ActAt e R L s s' ρ o v := by
  rcases h with ⟨rfl, h⟩ | ⟨ob, m, rfl, he, h⟩
  · exact (PureAt.read h).act
  · intro w hw
    have hn : L s.num = none := by
      cases e1 : L s.num with
      | none => rfl
      | some p => exact absurd (hw.dom.1 _ p e1) (Nat.lt_irrefl _)
    obtain ⟨p, x, w', h1, h2, h3⟩ := h L (s.new ob) w (Lo.le_refl L) hw.dom.none (by rw [St.new_num]; omega) (fun o' ho' => St.new_same ho') (hw.unborn ob)
    rw [he]
    exact NextK.of_val h1 ⟨_, Lo.le_up p hn, h2, h3⟩
/-! cells -/
theorem scl_ok {L : Lo} {v : EV} {x : Value} (h : scl v = true) (hx : Real L v x) : x.oneCell' = true := by
  cases hx <;> first | rfl | (cases h; done)
theorem sclL_ok {L : Lo} : ∀ {l : List EV} {xs : List Value}, sclL l = true → Reals L l xs → ∀ x ∈ xs, x.oneCell' = true
  | [], _, _, .nil, x, hx => (List.not_mem_nil hx).elim
  | v :: l, _, h, .cons hv ht, x, hx => by
    obtain ⟨h1, h2⟩ : scl v = true ∧ sclL l = true := by
      cases hs : scl v with
      | true => exact ⟨rfl, by simpa [sclL, hs, cnd] using h⟩
      | false => simp [sclL, hs, cnd] at h
    rcases List.mem_cons.1 hx with rfl | hx
    · exact scl_ok h1 hv
    · exact sclL_ok h2 ht x hx
theorem store_cells {L : Lo} {s s' : St} {w : World} (h : Rep e R L s w) {i off : Nat} {cs : List EV} {p : Lc} {xs : List Value} (h1 : L i = some p) (h2 : storeE s i off cs = some s') (h3 : Reals L cs xs) :
    ∃ w', (storeCells (p.adr off) xs).run P w = .ok () w' ∧ Rep e R L s' w' := by
  obtain ⟨o, h4, h2⟩ := ob2_ok h2
  obtain ⟨⟨l, n, x⟩, h5, h2⟩ := ob2_ok h2
  obtain ⟨h6, h2⟩ := cnd_some (show cnd (band (sclL cs) (Nat.ble (Nat.add off (len cs)) n)) (some (s.put i (.row (spl cs l off) n x))) none = some s' from h2)
  cases h2
  obtain ⟨h7, h8⟩ := band_ok h6
  rw [ble_eq, decide_eq_true_eq, len_eq] at h8
  have h8 : off + cs.length ≤ n := h8
  have hone := sclL_ok h7 h3
  have hlen := h3.length
  cases o <;> (first | (cases h5; done) | skip)
  cases h5
  have ht := h.take h1 h4
  obtain ⟨g1, g2, hd, l1, l2, hp, hr⟩ := ht.heap
  cases x with
  | true =>
    obtain ⟨vs, a, b, c, d⟩ := hp
    have hs : Sat e (sepL (pt p.b vs :: R :: rest L s i)) w := ⟨ht.os, ht.tape, ht.output, g1, g2, hd, l1, l2, d, hr⟩
    have hvl := a.length
    obtain ⟨w', hrun, hs'⟩ := run_storeCells_pt (b := p.b) (off := off) xs 0 vs (R :: rest L s i) w (by omega) hone hs
    refine ⟨w', by simpa [Lc.adr, c] using hrun, h.back h1 (hs'.imp fun y k => sepL_cons (fun g hg => ?_) (fun _ z => z) k)⟩
    rw [spl_eq _ _ _ (by omega)]
    refine ⟨_, ((a.take off).append h3).append (a.drop _), by simp; omega, c, ?_⟩
    rw [← hlen]; simpa using hg
  | false =>
    obtain ⟨vs, r, a, b, c, z0, z1, z2, d⟩ := hp
    have hs : Sat e (sepL (pt p.b (vs ++ r) :: R :: rest L s i)) w := ⟨ht.os, ht.tape, ht.output, g1, g2, hd, l1, l2, d, hr⟩
    have hvl := a.length
    obtain ⟨w', hrun, hs'⟩ := run_storeCells_pt (b := p.b) (off := off) xs 0 (vs ++ r) (R :: rest L s i) w (by simp; omega) hone hs
    refine ⟨w', by simpa [Lc.adr, c] using hrun, h.back h1 (hs'.imp fun y k => sepL_cons (fun g hg => ?_) (fun _ z => z) k)⟩
    rw [spl_eq _ _ _ (by omega)]
    refine ⟨vs.take off ++ xs ++ vs.drop (off + cs.length), r, ((a.take off).append h3).append (a.drop _), by simp; omega, c, z0, z1, ?_, ?_⟩
    · simp only [List.length_append, List.length_take, List.length_drop] at z2 ⊢; omega
    · have e1 : (vs ++ r).take (off + 0) = vs.take off := by rw [Nat.add_zero, List.take_append_of_le_length (by omega)]
      have e2 : (vs ++ r).drop (off + 0 + xs.length) = vs.drop (off + cs.length) ++ r := by rw [Nat.add_zero, hlen, List.drop_append_of_le_length (by omega)]
      rw [e1, e2] at hg
      simpa using hg
theorem store_ok {L : Lo} {s s' : St} {w : World} (h : Rep e R L s w) {t : TypeId} {y : TI} (ht : ti t = some y) {i off : Nat} {p : Lc} (h1 : L i = some p) {v : EV} {x : Value} (hv : Real L v x) (hk : stOk (isAg y) y.size v = true)
    (h2 : storeE s i off (cellsE v) = some s') : ∃ w', (Instr.storeAt t (.pointer (some (p.adr off))) x).run P w = .ok () w' ∧ Rep e R L s' w' := by
  obtain ⟨ii, d, g1, g2, g3, g4, g5⟩ := ti_spec ht
  have hnt : ∀ l, v ≠ .tup l := fun l hl => by
    subst hl
    unfold stOk at hk
    cases hg : isAg y with
    | true => rw [hg] at hk; cases hk
    | false => rw [hg] at hk; obtain ⟨_, hk⟩ := band_ok (show band (Nat.beq y.size 1) (scl (.tup l)) = true from hk); cases hk
  have hc := cellsE_ok hv hnt
  obtain ⟨w', hrun, hr⟩ := store_cells h h1 h2 hc
  refine ⟨w', ?_, hr⟩
  have hsz : x.cells.size = y.size := by
    have hl := hc.length
    rw [Array.length_toList] at hl
    rw [hl]
    unfold stOk at hk
    cases hg : isAg y with
    | true =>
      rw [hg] at hk
      cases v <;> (first | (cases hk; done) | skip)
      rename_i l
      have := Nat.eq_of_beq_eq_true (show Nat.beq (len l) y.size = true from hk)
      rw [len_eq] at this; exact this
    | false =>
      rw [hg] at hk
      obtain ⟨h5, h6⟩ := band_ok (show band (Nat.beq y.size 1) (scl v) = true from hk)
      rw [Nat.eq_of_beq_eq_true h5]
      cases v <;> first | rfl | (cases h6; done)
  simp [Instr.storeAt, Instr.sureAddr, storeVar, run_sizeOf' g1, g3, hsz, hrun]
/-! objects -/
theorem run_getObj {w : World} {b : Nat} {o : Obj} (h : w.heap[b]? = some o) (hc : ∀ c t f, o ≠ .cells c t f) : (getObj b).run P w = .ok o w := by
  cases o <;> first | (exact absurd rfl (hc _ _ _)) | simp [getObj, Sem.run, h]
theorem run_setObj {w : World} {b : Nat} {o o' : Obj} (h : w.heap[b]? = some o) (hc : ∀ c t f, o ≠ .cells c t f) : (setObj b o').run P w = .ok () (w.putObj b o') := by
  cases o <;> first | (exact absurd rfl (hc _ _ _)) | simp [setObj, Sem.run, h, World.putObj]
/-- an object that is no row turns -/
theorem Rep.turn {L : Lo} {s : St} {w : World} (h : Rep e R L s w) {i : Nat} {p : Lc} {o o2 : EO} {ob1 ob2 : Obj} (h1 : L i = some p) (h2 : s.obj i = some o) (ha : w.heap[p.b]? = some ob1) (hA : ∀ g, pobj L p o g → ∃ x, g p.b = some x)
    (hB : ∀ g, g p.b = some ob2 → pobj L p o2 g) : Rep e R L (s.put i o2) (w.putObj p.b ob2) := by
  have ht := h.take h1 h2
  have hlt : p.b < w.heap.size := (Array.getElem?_eq_some_iff.1 ha).1
  refine h.back h1 ?_
  have hs : Sat e (sepL ((fun g => g p.b = some ob1) :: R :: rest L s i)) w := by
    obtain ⟨g1, g2, hd, l1, l2, hp, hr⟩ := ht.heap
    refine ⟨ht.os, ht.tape, ht.output, g1, g2, hd, l1, l2, ?_, hr⟩
    obtain ⟨x, hx⟩ := hA g1 hp
    have := l1 _ _ hx
    have he : hpOf w p.b = w.heap[p.b]? := rfl
    rw [he, ha] at this
    cases this; exact hx
  exact hs.turn (o := ob1) (o' := ob2) (fun _ k => k) hB rfl rfl rfl (World.putObj_heap_same hlt) (fun i hi => putObj_other hi)
theorem Rep.mapPut {L : Lo} {s : St} {w : World} (h : Rep e R L s w) {i : Nat} {p : Lc} {q : List (EV × EV × Nat) × Nat} (h1 : L i = some p) (h2 : s.mp i = some q) {es : List (EV × EV × Nat)} {r : List MapEntry} {c : Nat} (hr : RealEs L es r) :
    ∃ rs, RealEs L q.1 rs ∧ (getObj p.b).run P w = .ok (.map rs.toArray q.2) w ∧ (setObj p.b (.map r.toArray c)).run P w = .ok () (w.putObj p.b (.map r.toArray c)) ∧ Rep e R L (s.put i (.map es c)) (w.putObj p.b (.map r.toArray c)) := by
  obtain ⟨h3, rs, h4, h5⟩ := h.map h1 h2
  refine ⟨rs, h4, run_getObj h5 (by simp), run_setObj h5 (by simp), h.turn h1 h3 h5 (fun g hg => ?_) fun g hg => ⟨r, hr, hg⟩⟩
  obtain ⟨r', _, hg⟩ := hg
  exact ⟨_, hg⟩
end Go.Proofs.YtiabhghlhnnnjaaGreatDoor.Ev
