/-
  THE EVALUATOR IS SOUND (eleventh part: what makes something new out of its operands).
-/
import Derived.Test.YtiabhghlhnnnjaaGreatDoorEh
set_option linter.unusedVariables false
set_option linter.unusedSimpArgs false
set_option maxRecDepth 100000
set_option maxHeartbeats 0
noncomputable section
namespace Go.Proofs.YtiabhghlhnnnjaaGreatDoor.Ev
open Go Sh Sl
variable {e : Env} {R : HProp}
theorem s2b_run {ctx : List HProp} {s d x : TypeId} {l : List UInt8} {k : Value → WP} (hs : dd s = some .str) (hd : dd d = some (.sl x)) (hx : dd x = some (.int .u8)) (hl : l.length ≤ 4611686018427387904)
    (h : ∀ b c r, l.length ≤ c → c ≤ (u8 l ++ r).length → Ent e (pt b (u8 l ++ r) :: ctx) (k (.slice (some ⟨b, 0, none⟩) l.length c))) : Ent e ctx (OpK P (.one .raw) (vS (convert s d (.string (ba l)))) k) := Ent.act fun w hw => by
  let cap := grownCap w l.length 0 x
  have hcap : l.length ≤ cap := grownCap_ge w l.length 0 x
  let cells : List Value := u8 l ++ List.replicate (cap - l.length) (.int .u8 0)
  have hw1 : Sat e (sepL ctx) w.drew := hw.drawn _
  have hnew := hw1.new cells x
  -- the mark behind the last cell
  have hmark : Sat e (sepL (pt w.heap.size cells :: ctx)) ((w.drew.alloc (.cells cells.toArray x)).freeze ⟨w.heap.size, cells.length, none⟩ 1) := by
    refine Sat.turn (A := fun h => h w.heap.size = some (.cells cells.toArray x)) (b := w.heap.size) (o' := .cells cells.toArray x (cells.length, cells.length + 1)) (w := w.drew.alloc (.cells cells.toArray x)) ?_ (fun _ k => k) ?_ rfl rfl rfl ?_ ?_
    · exact hw1.alloc _
    · intro h hh; exact ⟨x, (cells.length, cells.length + 1), hh, fun i hi => .inl hi⟩
    · show ((w.heap.push (.cells cells.toArray x)).modify w.heap.size _)[w.heap.size]? = _
      rw [Array.getElem?_modify, if_pos rfl]
      simp
    · intro i hi
      simp only [World.freeze]
      rw [if_neg (by omega)]
      simp only [Array.getElem?_modify]
      rw [if_neg (fun h => hi h.symm)]
  refine ⟨.slice (some ⟨w.heap.size, 0, none⟩) l.length cap, (w.drew.alloc (.cells cells.toArray x)).freeze ⟨w.heap.size, cells.length, none⟩ 1, .inl (run_vS ?_), _, rfl, h _ _ (List.replicate (cap - l.length) (.int .u8 0)) hcap (by simp; omega) _ hmark⟩
  · have e1 : ((ba l).data.map fun b => Value.int .u8 b.toNat) ++ Array.replicate (cap - l.length) (Value.int .u8 0) = cells.toArray := by simp [cells, u8]
    have hsz : (ba l).size = l.length := by simp [ba, ByteArray.size]
    simp only [convert, Sem.run_bind, run_underlying (dd_str hs), run_underlying (dd_sl hd), run_underlying (dd_int hx), Result.andThen_ok, Conv.stringToBytes, hsz]
    have hch : (choose (.appendCap l.length 0 x)).run P w = .ok cap w.drew := by
      rfl
    rw [hch]
    simp only [Result.andThen_ok, e1]
    have hn : (newRow x cells.toArray).run P w.drew = .ok ⟨w.heap.size, 0, none⟩ (w.drew.alloc (.cells cells.toArray x)) := rfl
    rw [hn]
    have hsh : (markStringish ⟨w.heap.size, 0, none⟩).run P (w.drew.alloc (.cells cells.toArray x)) = .ok () ((w.drew.alloc (.cells cells.toArray x)).freeze ⟨w.heap.size, cells.length, none⟩ 1) := by
      have hshape : (w.drew.alloc (.cells cells.toArray x)).shape? w.heap.size = some (x, cells.length) := by
        show (match (w.heap.push (.cells cells.toArray x))[w.heap.size]? with | some (.cells c elem _) => some (elem, c.size) | _ => none) = _
        simp
      simp [markStringish, shape, Sem.run, hshape, freeze, Sem.run_bind]
    simp only [Result.andThen_ok, hsh, Sem.run_pure]
theorem run_newObj (o : Obj) (w : World) : (newObj o).run P w = .ok w.heap.size (w.alloc o) := rfl
theorem flat_mod {z : List Value} (h0 : z.length ≠ 0) (n : Nat) : (Array.range (n * z.length)).map (z.toArray[· % z.toArray.size]!) = (List.replicate n z).flatten.toArray := by
  apply Array.ext
  · simp
  · intro j h1 h2
    simp only [Array.size_map, Array.size_range] at h1
    have hlt : j % z.length < z.length := Nat.mod_lt _ (by omega)
    have key : ∀ (n j : Nat), j < n * z.length → (List.replicate n z).flatten[j]? = z[j % z.length]? := by
      intro n
      induction n with
      | zero => intro j hj; omega
      | succ n ih =>
        intro j hj
        rw [List.replicate_succ, List.flatten_cons]
        by_cases hjs : j < z.length
        · rw [List.getElem?_append_left hjs, Nat.mod_eq_of_lt (by omega)]
        · rw [List.getElem?_append_right (by omega), ih _ (by rw [Nat.succ_mul] at hj; omega)]
          congr 1
          rw [Nat.mod_eq_sub_mod (by omega : j ≥ z.length)]
    have hk := key n j h1
    rw [List.getElem?_eq_getElem hlt] at hk
    have h2' : j < (List.replicate n z).flatten.length := by simpa using h2
    rw [List.getElem?_eq_getElem h2'] at hk
    have hzs : z.toArray.size = z.length := by simp
    simp only [Array.getElem_map, Array.getElem_range, hzs]
    rw [getElem!_pos z.toArray (j % z.length) (by simpa using hlt)]
    simp only [List.getElem_toArray]
    exact (Option.some.inj hk).symm
theorem roomE_ok {y : TI} {m : Nat} (h : roomE y m = true) : m * y.bytes ≤ 140737488355328 ∧ m ≤ 4611686018427387904 ∧ y.size ≠ 0 := by
  unfold roomE at h
  have b2 : ∀ {a b : Bool}, band a b = true → a = true ∧ b = true := fun {a b} h => by cases a <;> cases b <;> first | (cases h; done) | exact ⟨rfl, rfl⟩
  obtain ⟨h1, h⟩ := b2 h
  obtain ⟨h2, h3⟩ := b2 h
  rw [ble_eq, decide_eq_true_eq] at h1 h2
  rw [bnot_eq, beq_eq] at h3
  exact ⟨h1, h2, by simpa using h3⟩
theorem band_ok {a b : Bool} (h : band a b = true) : a = true ∧ b = true := by cases a <;> cases b <;> first | (cases h; done) | exact ⟨rfl, rfl⟩
theorem u8s_eq (l : List Nat) : u8s l = l.map fun (n : Nat) => EV.int .u8 (n : Int) := by
  induction l with
  | nil => rfl
  | cons a l ih => show _ :: u8s l = _; rw [ih]; rfl
theorem reals_u8s {L : Lo} {l : List Nat} (h : okB l) : Reals L (u8s l) (u8 (bts l)) := by
  rw [u8s_eq]
  induction l with
  | nil => exact .nil
  | cons a l ih =>
    have ha := h a List.mem_cons_self
    refine .cons ?_ (ih fun x hx => h x (List.mem_cons_of_mem _ hx))
    have e1 : ((UInt8.ofNat a).toNat : Int) = (a : Int) := by simp only [UInt8.toNat_ofNat']; omega
    show Real L (.int .u8 (a : Int)) (.int .u8 ((UInt8.ofNat a).toNat : Int))
    rw [e1]; exact .int _ _
theorem rep_len {α : Type} (z : List α) : ∀ m, (Ev.rep z m).length = m * z.length
  | 0 => by show ([] : List α).length = _; simp
  | m + 1 => by
    show (app z (Ev.rep z m)).length = _
    rw [app_eq, List.length_append, rep_len z m, Nat.succ_mul, Nat.add_comm]
theorem fillL_len {pl : Nat → Option (Nat × Nat)} : ∀ {ps : List (Nat × Value)} {cs out : List Value}, fillL pl cs ps = some out → out.length = cs.length
  | [], cs, out, h => by cases h; rfl
  | (i, v) :: ps, cs, out, h => by
    simp only [fillL] at h
    cases hp : pl i with
    | none => simp only [hp] at h; cases h
    | some p =>
      obtain ⟨off, sz⟩ := p
      simp only [hp] at h
      cases hb : (Nat.beq v.cells.toList.length sz && Nat.ble (off + v.cells.toList.length) cs.length) with
      | false => rw [hb] at h; cases h
      | true =>
        rw [hb] at h
        simp only [Bool.and_eq_true, ble_eq, decide_eq_true_eq] at hb
        have := fillL_len h
        rw [this]
        simp only [List.length_append, List.length_take, List.length_drop]
        omega
theorem isU8_ok {t : TypeId} (h : isU8 t = true) : dd t = some (.int .u8) := by
  unfold isU8 at h
  split at h
  · rename_i y hy
    have := dd_of hy
    split at h
    · rename_i hd; rw [hd] at this; exact this
    · cases h
  · cases h
/-- WHAT MAKES SOMETHING NEW. -/
theorem fresh_op {L : Lo} {gi : Nat → Option Nat} {fr : Fr} {ρ : Operand → Value} {o : Oper} {run : Run} {s s' : St} {v : EV} (hk : kindE o.op = 3)
    (h : (opC gi o.op).go run fr s = .ok (v, s')) (hO : Ops L gi fr ρ o.op) : FreshAt e R L s s' ρ o v := by
  obtain ⟨dst, op, type, pos, after, guard⟩ := o
  simp only at hk
  cases op <;> (first | (cases hk; done) | skip)
  case alloc t =>
    obtain ⟨z, h1, h⟩ := ost_ok h
    cases h
    obtain ⟨zs, h2, h3⟩ := zroE_ok (L := L) h1
    refine .inr ⟨_, _, rfl, rfl, birth_of fun M s2 c hl hn hc => ?_⟩
    exact Ent.alloc h2 fun b w' hs => hc ⟨b, 0, 0, 0⟩ _ w' (.ptr (Lo.up_same _ _ _)) (row_birth rfl (h3.up hl hn) (len_eq z).symm hs)
  case box t x =>
    have h := cv_ok h
    obtain ⟨u, h1, h⟩ := ob2_ok h
    obtain ⟨h2, h⟩ := cnd_some h
    cases h
    have hu := hO x (by simp [Op.operands]) u h1
    have hc' := cellsE_ok hu fun l hl => by rw [hl] at h2; cases h2
    refine .inr ⟨_, _, rfl, rfl, birth_of fun M s2 c hl hn hc => ?_⟩
    exact Ent.box rfl fun b w' hs => hc ⟨b, 0, 0, 0⟩ _ w' (.ptr (Lo.up_same _ _ _)) (row_birth rfl (hc'.up hl hn) (len_eq _).symm hs)
  case buildSlice t n ps =>
    obtain ⟨el, h1, h⟩ := ost_ok h
    obtain ⟨y, h2, h⟩ := ost_ok h
    obtain ⟨z, h3, h⟩ := ost_ok h
    cases hb : band (Nat.ble (Nat.mul n y.size) 16777216) (band (Nat.beq (len z) y.size) (bnot (Nat.beq y.size 0))) with
    | false => rw [hb] at h; cases h
    | true =>
      rw [hb] at h
      obtain ⟨b1, b2⟩ := band_ok hb
      obtain ⟨b2, b3⟩ := band_ok b2
      rw [ble_eq, decide_eq_true_eq] at b1
      rw [beq_eq, decide_eq_true_eq, len_eq] at b2
      rw [bnot_eq, beq_eq] at b3
      have b3 : y.size ≠ 0 := by simpa using b3
      have h := cv_ok h
      obtain ⟨vs, h4, h⟩ := ob2_ok h
      obtain ⟨cs, h5, h⟩ := ob2_ok h
      cases h
      obtain ⟨zs, h6, h7⟩ := zroE_ok (L := L) h3
      have hv : Reals L vs (ps.toList.map fun p => ρ p.2) := by
        have := getL_ok (L := L) (ρ := ρ) (l := ps.toList.map (·.2)) (by simpa [Function.comp_def] using h4) (fun q hq u hu => hO q (by simpa [Op.operands] using hq) u hu)
        simpa [Function.comp_def] using this
      have hlen : vs.length = ps.toList.length := by have := hv.length; simpa using this.symm
      have e1 : ((ps.toList.map (·.1)).zip vs).map (·.1) = (ps.toList.map fun p => (p.1, ρ p.2)).map (·.1) := by
        rw [List.map_fst_zip (by simp [hlen])]; simp
      have e2 : Reals L (((ps.toList.map (·.1)).zip vs).map (·.2)) ((ps.toList.map fun p => (p.1, ρ p.2)).map (·.2)) := by
        rw [List.map_snd_zip (by simp [hlen])]; simpa [Function.comp_def] using hv
      obtain ⟨os, h8, h9⟩ := fillE_ok _ _ _ _ cs _ e1 e2 (h7.rep n) h5
      have hzl : zs.length = y.size := by rw [h7.length]; exact b2
      have hol : os.length = n * y.size := by
        have := fillL_len h8
        rw [this]; simp [hzl]
      refine .inr ⟨_, _, rfl, rfl, birth_of fun M s2 c hl hn hc => ?_⟩
      refine Ent.slice (slT_ok h1) (szof_of h2) h6 hzl b1 b3 (by simpa using h8) fun b w' hs => ?_
      exact hc ⟨b, 0, 0, 0⟩ _ w' (.slice (Lo.up_same _ _ _)) (row_birth rfl (h9.up hl hn) (by rw [← h9.length, hol]; rfl) hs)
  case makeMap t r =>
    have key : ∀ m : Sem Value, (∀ w, m.run P w = .ok (.map (some w.heap.size)) (w.alloc (.map #[] 0))) → BirthAt e R L s.num (.map [] 0) m (.map s.num) := fun m hm M s2 w hl b1 b2 b3 hr => by
      refine ⟨⟨w.heap.size, 0, 0, 0⟩, _, _, hm w, .map (Lo.up_same _ _ _), Rep.born b1 b2 b3 hr.dom ?_⟩
      exact (hr.sat.alloc _).imp fun x k => sepL_cons (fun g hg => ⟨[], .nil, hg⟩) (fun _ z => z) k
    cases r with
    | none => cases h; exact .inr ⟨_, _, rfl, rfl, key _ fun w => by simp [Instr.makeMap, run_newObj]⟩
    | some q =>
      cases hm : isMp t with
      | false => rw [show (opC gi (.makeMap t (some q))) = cnd (isMp t) (cv (fun fr s => ob2 ((oqC gi q).get fr) fun v => ob2 v.int? fun _ => some (.map s.num, s.new (.map [] 0))) 36) (.bad 37) from rfl, hm] at h; cases h
      | true =>
        rw [show (opC gi (.makeMap t (some q))) = cnd (isMp t) (cv (fun fr s => ob2 ((oqC gi q).get fr) fun v => ob2 v.int? fun _ => some (.map s.num, s.new (.map [] 0))) 36) (.bad 37) from rfl, hm] at h
        have h := cv_ok h
        obtain ⟨u, h1, h⟩ := ob2_ok h
        obtain ⟨n, h2, h⟩ := ob2_ok h
        cases h
        have hu := hO q (by simp [Op.operands]) u h1
        rw [int?_ok h2] at hu
        have hu := hu.int_inv
        have hd : ∃ k v, dd t = some (.mp k v) := by
          unfold isMp at hm
          split at hm
          · rename_i y hy
            have := dd_of hy
            split at hm
            · rename_i hz; rw [hz] at this; exact ⟨_, _, this⟩
            · cases hm
          · cases hm
        obtain ⟨kt, vt, hd⟩ := hd
        exact .inr ⟨_, _, rfl, rfl, key _ fun w => by simp [Instr.makeMap, run_underlying (dd_mp hd), hu, asInt, asIntOf, run_newObj]⟩
  case makeSlice t l c =>
    obtain ⟨el, h1, h⟩ := ost_ok h
    obtain ⟨y, h2, h⟩ := ost_ok h
    obtain ⟨z, h3, h⟩ := ost_ok h
    have h := cv_ok h
    obtain ⟨a, h4, h⟩ := ob2_ok h
    obtain ⟨n, h5, h⟩ := ob2_ok h
    obtain ⟨b, h6, h⟩ := ob2_ok h
    obtain ⟨m, h7, h⟩ := ob2_ok h
    obtain ⟨h8, h⟩ := cnd_some h
    cases h
    obtain ⟨g1, g2⟩ := band_ok h8
    obtain ⟨g2, g3⟩ := band_ok g2
    rw [ble_eq, decide_eq_true_eq] at g1
    rw [beq_eq, decide_eq_true_eq, len_eq] at g3
    obtain ⟨r1, r2, r3⟩ := roomE_ok g2
    obtain ⟨kl, rfl⟩ := nat?_ok h5
    obtain ⟨kc, rfl⟩ := nat?_ok h7
    have ha := (hO l (by simp [Op.operands]) _ h4).int_inv
    have hb := (hO c (by simp [Op.operands]) _ h6).int_inv
    obtain ⟨zs, h9, h10⟩ := zroE_ok (L := L) h3
    have hzl : zs.length = y.size := by rw [h10.length]; exact g3
    obtain ⟨i, k1, k2, k3⟩ := szof_spec (szof_of h2)
    obtain ⟨i', zv, k4, k5, k6⟩ := zro_spec h9
    rw [k1] at k4; cases k4
    refine .inr ⟨_, _, rfl, rfl, fun M s2 w hl b1 b2 b3 hr => ?_⟩
    have hbytes : (i.bytes : Int) * (m : Int) ≤ 281474976710656 := by
      have h : ((m * y.bytes : Nat) : Int) ≤ 140737488355328 := by omega
      rw [Int.natCast_mul, Int.mul_comm] at h
      rw [k3]; omega
    have hrun := run_make (P := P) w t el i zv (dd_sl (slT_ok h1)) k1 k5 kl kc n m (by omega) (by omega) hbytes (by omega)
    rw [Int.toNat_natCast, Int.toNat_natCast, k2] at hrun
    have e1 : zv.cells = zs.toArray := by rw [← k6]
    have e2 : madeCells zv.cells (m * y.size) = (List.replicate m zs).flatten.toArray := by
      rw [e1, ← hzl]
      exact flat_mod (by rw [hzl]; exact r3) m
    rw [e2] at hrun
    refine ⟨⟨w.heap.size, 0, 0, 0⟩, _, _, by rw [ha, hb]; exact hrun, .slice (Lo.up_same _ _ _), Rep.born b1 b2 b3 hr.dom ?_⟩
    exact row_birth rfl ((h10.rep m).up hl b1.1) (by rw [rep_len, len_eq]; rfl) (hr.sat.new _ el)
  case convert a b x =>
    obtain ⟨k, h1, h⟩ := ost_ok h
    simp only [kindE, h1] at hk
    cases k <;> (first | (cases hk; done) | skip)
    have h := cv_ok h
    obtain ⟨u, h2, h⟩ := ob2_ok h
    have hu := hO x (by simp [Op.operands]) u h2
    unfold convS at h
    split at h
    · rename_i l
      obtain ⟨h3, h⟩ := cnd_some h
      cases h
      rw [ble_eq, decide_eq_true_eq, len_eq] at h3
      obtain ⟨hb0, hx⟩ := hu.str_inv
      obtain ⟨ya, g1, h1⟩ := ob2_ok h1
      obtain ⟨yb, g2, h1⟩ := ob2_ok h1
      have da := dd_of g1
      have db := dd_of g2
      have : ∃ el, ya.d = .str ∧ yb.d = .sl el ∧ isU8 el = true := by
        split at h1 <;> first | (cases h1; done) | (obtain ⟨hu, h1⟩ := cnd_some h1; first | (cases h1; done) | (obtain ⟨_, h1⟩ := cnd_some h1; cases h1; done) | exact ⟨_, ‹_›, ‹_›, hu⟩)
      obtain ⟨el, e1, e2, e3⟩ := this
      rw [e1] at da; rw [e2] at db
      have du : dd el = some (.int .u8) := isU8_ok e3
      refine .inr ⟨_, _, rfl, rfl, birth_of fun M s2 c hl hn hc => ?_⟩
      rw [hx]
      refine s2b_run da db du (by rw [bts_len]; exact h3) fun b cap r hcap hcr w' hs => ?_
      rw [bts_len] at hcap
      refine hc ⟨b, 0, cap, 1⟩ _ w' ?_ ?_
      · have := Real.slicx (L := M.up s.num ⟨b, 0, cap, 1⟩) (i := s.num) (off := 0) (n := l.length) (c := 1) (Lo.up_same _ _ _) rfl (by simp [Lc.cap]; exact hcap)
        rw [len_eq, bts_len]
        simpa [Lc.adr, Lc.cap] using this
      · refine hs.imp fun y k => sepL_cons (fun g hg => ⟨u8 (bts l), r, reals_u8s hb0, ?_, rfl, by simp, ?_, ?_, hg⟩) (fun _ z => z) k
        · rw [u8s_eq, List.length_map, len_eq]
        · rw [len_eq]; simpa using hcap
        · simpa using hcr
    · cases h
  case slice t x lo hi mx => exact slice_op rfl h hO
  case call c =>
    obtain ⟨callee, args, ts⟩ := c
    cases callee <;> (first | (cases hk; done) | skip)
    rename_i b
    cases b <;> cases hk
end Go.Proofs.YtiabhghlhnnnjaaGreatDoor.Ev
