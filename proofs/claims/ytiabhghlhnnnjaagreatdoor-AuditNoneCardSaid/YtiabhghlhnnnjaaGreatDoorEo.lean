/-
  THE EVALUATOR IS SOUND (seventeenth part: append).
-/
import Derived.Test.YtiabhghlhnnnjaaGreatDoorEn
set_option linter.unusedVariables false
set_option linter.unusedSimpArgs false
set_option maxRecDepth 100000
set_option maxHeartbeats 0
noncomputable section
namespace Go.Proofs.YtiabhghlhnnnjaaGreatDoor.Ev
open Go Sh Sl
variable {e : Env} {R : HProp}
theorem Rep.drew {L : Lo} {s : St} {w : World} (h : Rep e R L s w) : Rep e R L s w.drew := ⟨h.sat.drawn _, h.dom⟩
theorem Rep.bear' {L : Lo} {s : St} {w : World} (h : Rep e R L s w) {o : EO} {ob : Obj} (p : Lc) (hB : ∀ g, g w.heap.size = some ob → pobj (L.up s.num p) p o g) :
    Lo.le L (L.up s.num p) ∧ Rep e R (L.up s.num p) (s.new o) (w.alloc ob) := by
  have hn : L s.num = none := by
    cases e1 : L s.num with
    | none => rfl
    | some p => exact absurd (h.dom.1 _ p e1) (Nat.lt_irrefl _)
  have hu := h.unborn o
  refine ⟨Lo.le_up _ hn, Rep.born h.dom.none (by rw [St.new_num]; omega) (fun o' ho' => St.new_same ho') hu.dom ?_⟩
  exact (hu.sat.alloc _).imp fun x k => sepL_cons (fun g hg => hB g hg) (fun _ z => z) k
/-- a new block -/
theorem grow_ok {L : Lo} {s : St} {w : World} (h : Rep e R L s w) {t el tx ty : TypeId} {y : TI} {i : TypeInfo} (ht : dd t = some (.sl el)) (hi : P.info? el = some i) (hsz : i.size = y.size) (hby : i.bytes = y.bytes) {zv : Value} (hz : i.zero = some zv) (hzl : zv.cells.size = y.size)
    {base : Option Addr} {sLen sCap n : Nat} {x : Value} {olds news : List Value} {os ns : List EV} (ho : Reals L os olds) (hn : Reals L ns news) (hol : olds.length = sLen * y.size)
    (hold : (Builtin.firstCells i.size sLen (.slice base sLen sCap)).run P w.drew = .ok olds.toArray w.drew) (hs : Src P i.size tx x n news w) (hg : sCap < sLen + n) (hr : roomE y (sLen + n) = true) :
    ∃ M v w', Lo.le L M ∧ Real M (.slice s.num 0 (sLen + n) y.size false) v ∧ (Builtin.append_ #[t, tx] ty #[.slice base sLen sCap, x]).run P w = .ok v w' ∧ Rep e R M (s.new (.row (os ++ ns) ((sLen + n) * y.size) false)) w' := by
  obtain ⟨r1, r2, r3⟩ := roomE_ok hr
  have hrun := run_append_grow_src (P := P) w t tx ty el i zv (dd_sl ht) hi hz base sLen sCap olds hold x n news hs hg (by omega) (growslice_fits' hg (by rw [hby]; exact r1))
  have hcap := grownCap_ge w (sLen + n) sCap el
  generalize grownCap w (sLen + n) sCap el = cap at hrun hcap
  have hnl := hs.newsLen
  rw [hsz] at hnl
  have e1 : (olds ++ news).toArray ++ Builtin.zeroCells zv.cells (cap - (sLen + n)) = ((olds ++ news) ++ (Builtin.zeroCells zv.cells (cap - (sLen + n))).toList).toArray := by simp
  rw [e1] at hrun
  have hlen : ((olds ++ news) ++ (Builtin.zeroCells zv.cells (cap - (sLen + n))).toList).length = cap * y.size := by
    have h1 : (Builtin.zeroCells zv.cells (cap - (sLen + n))).size = (cap - (sLen + n)) * y.size := by simp [Builtin.zeroCells, hzl]
    have h2 : (Builtin.zeroCells zv.cells (cap - (sLen + n))).toList.length = (cap - (sLen + n)) * y.size := by rw [Array.length_toList, h1]
    rw [List.length_append, List.length_append, h2, hol, hnl, ← Nat.add_mul, ← Nat.add_mul]
    congr 1; omega
  obtain ⟨g1, g2⟩ := h.drew.bear' (o := .row (os ++ ns) ((sLen + n) * y.size) false) (ob := .cells ((olds ++ news) ++ (Builtin.zeroCells zv.cells (cap - (sLen + n))).toList).toArray el) ⟨w.heap.size, 0, cap, y.size⟩
    fun g hg => ⟨olds ++ news, (Builtin.zeroCells zv.cells (cap - (sLen + n))).toList, (ho.append hn).le (Lo.le_up _ (by
      cases e1 : L s.num with
      | none => rfl
      | some p => exact absurd (h.dom.1 _ p e1) (Nat.lt_irrefl _))), by rw [← (ho.append hn).length, List.length_append, hol, hnl, Nat.add_mul], rfl, r3, Nat.mul_le_mul_right _ hcap, by rw [hlen]; exact Nat.le_refl _, ob_pt g hg⟩
  have hv := Real.slicx (L := L.up s.num ⟨w.heap.size, 0, cap, y.size⟩) (i := s.num) (off := 0) (n := sLen + n) (c := y.size) (Lo.up_same _ _ _) rfl (by simp [Lc.cap]; exact hcap)
  refine ⟨_, _, _, g1, hv, ?_, g2⟩
  rw [hrun]
  simp [Lc.adr, Lc.cap]
/-- there is room, however the cells are stored -/
theorem run_room {w w' : World} {t el tx ty : TypeId} {i : TypeInfo} (ht : dd t = some (.sl el)) (hi : P.info? el = some i) {a : Addr} {sLen sCap n : Nat} {x : Value} {news : List Value} (hs : Src P i.size tx x n news w) (hg : sLen + n ≤ sCap)
    (hst : (storeCells (a.add (sLen * i.size)) news).run P w = .ok () w') : (Builtin.append_ #[t, tx] ty #[.slice (some a) sLen sCap, x]).run P w = .ok (.slice (some a) (sLen + n) sCap) w' := by
  rcases hs.kind with ⟨e', hk⟩ | hk <;> simp [Builtin.append_, run_underlying (dd_sl ht), run_underlying hk, sizeOf, typeInfo, hi, hs.len, hg, hs.cells, hst]
theorem cellsOf_len {L : Lo} {s : St} {w : World} (h : Rep e R L s w) {x : EV} {v : Value} (hx : Real L x v) {b sz : Nat} {cs : List EV} (hl : lenE x = some b) (hc : cellsOf s sz x = some cs) (hv : srcV sz x = true) : cs.length = b * sz := by
  cases x <;> (first | (cases hl; done) | (cases hc; done) | skip)
  case str l =>
    cases hl; cases hc
    rw [Nat.eq_of_beq_eq_true hv, u8s_eq, List.length_map, len_eq, Nat.mul_one]
  case nils => cases hl; cases hc; simp
  case slice i off n c y =>
    cases hl
    have hc : cnd (Nat.beq (Nat.mul b sz) 0) (some []) (cutE s i off (Nat.mul b sz)) = some cs := hc
    cases hz : Nat.beq (Nat.mul b sz) 0 with
    | true => rw [hz] at hc; cases hc; exact (Nat.eq_of_beq_eq_true hz).symm
    | false =>
      rw [hz] at hc
      obtain ⟨p, hp, _⟩ := hx.slice_inv
      exact (h.cut hp hc).1
theorem src_ok {L : Lo} {s : St} {w : World} (h : Rep e R L s w) {u : TypeId} (hu : srcC u = true) {x : EV} {v : Value} (hx : Real L x v) {b sz : Nat} {cs : List EV} (hl : lenE x = some b) (hc : cellsOf s sz x = some cs) (hv : srcV sz x = true) (hs : sclL cs = true) :
    ∃ vs, Reals L cs vs ∧ Src P sz u v b vs w := by
  obtain ⟨h1, vs, h2, h3⟩ := first_ok h hx hl hc (Nat.le_refl b) fun l hh => by subst hh; exact Nat.eq_of_beq_eq_true hv
  have hlen := cellsOf_len h hx hl hc hv
  rw [List.take_of_length_le (Nat.le_of_eq hlen)] at h2
  refine ⟨vs, h2, ?_, fun w2 => len_run hx hl w2, h3 w rfl, h3 w.drew rfl, by rw [h2.length, hlen], sclL_ok hs h2⟩
  unfold srcC at hu
  split at hu
  · rename_i y hy
    have hd := dd_of hy
    split at hu
    · rename_i hz; rw [hz] at hd; exact .inl ⟨_, dd_sl hd⟩
    · rename_i hz; rw [hz] at hd; exact .inr (dd_str hd)
    · cases hu
  · cases hu
/-- what the old slice yields -/
theorem olds_ok {L : Lo} {s : St} {w : World} (h : Rep e R L s w) {i off n sz cap : Nat} {p : Lc} {cs : List EV} (hp : L i = some p) (hc : cutE s i off (n * sz) = some cs) :
    ∃ vs, Reals L cs vs ∧ vs.length = n * sz ∧ ∀ w2 : World, w2.heap = w.heap → (Builtin.firstCells sz n (.slice (some (p.adr off)) n cap)).run P w2 = .ok vs.toArray w2 := by
  obtain ⟨h1, vs, h2, h3⟩ := h.cut hp hc
  have hl : vs.length = n * sz := by rw [h2.length, h1]
  refine ⟨vs, h2, hl, fun w2 hw2 => ?_⟩
  have h6 := run_loadCells (w := w2) (a := p.adr off) (vs := vs) fun j v hj => by rw [World.cell?, hw2]; exact h3 j v hj
  rw [hl] at h6
  exact h6
/-- onto a slice all of whose room is known, or onto none -/
theorem app_known {L : Lo} {s s' : St} {w : World} (h : Rep e R L s w) {t el u ty : TypeId} {y : TI} (ht : dd t = some (.sl el)) (hy : ti el = some y) {z : List EV} (hz : zroE el = some z) (hzl : z.length = y.size)
    {a r : EV} {av xv : Value} {m : Nat} {ns : List EV} {news : List Value} (ha : Real L a av) (hk : (∀ i off n c, a ≠ .slice i off n c false)) (hm : m ≠ 0) (hn : Reals L ns news) (hs : Src P y.size u xv m news w) (hns : sclL ns = true) (hi : appE s y a ns m = some (r, s')) :
    ∃ M v w', Lo.le L M ∧ Real M r v ∧ (Builtin.append_ #[t, u] ty #[av, xv]).run P w = .ok v w' ∧ Rep e R M s' w' := by
  obtain ⟨i', k1, k2, k3⟩ := szof_spec (szof_of hy)
  obtain ⟨zs, q1, q2⟩ := zroE_ok (L := L) hz
  obtain ⟨i2, zv, q3, q4, q5⟩ := zro_spec q1
  rw [k1] at q3; cases q3
  have hzs : zv.cells.size = y.size := by rw [← Array.length_toList, q5, q2.length, hzl]
  have hs' : Src P i'.size u xv m news w := by rw [k2]; exact hs
  have hb : Nat.beq m 0 = false := by
    cases hh : Nat.beq m 0 with
    | true => exact absurd (Nat.eq_of_beq_eq_true hh) hm
    | false => rfl
  unfold appE at hi
  rw [hb, hns] at hi
  cases a <;> (first | (cases hi; done) | skip)
  case nils =>
    obtain ⟨g1, g2⟩ := cnd_some (show cnd (roomE y m) (some (newSl s ns m (Nat.mul m y.size) y.size false)) none = some (r, s') from hi)
    cases g2
    rw [ha.nils_inv]
    have g1' : roomE y (0 + m) = true := by rw [Nat.zero_add]; exact g1
    obtain ⟨M, v, w', h1, h2, h3, h4⟩ := grow_ok (ty := ty) (os := []) (olds := []) (base := none) (sLen := 0) (sCap := 0) h ht k1 k2 k3 q4 hzs .nil hn (by simp) (by simp [Builtin.firstCells]) hs' (by omega) g1'
    rw [Nat.zero_add] at h2 h4
    exact ⟨M, v, w', h1, h2, h3, h4⟩
  case slice i off n c b =>
    cases b with
    | false => exact absurd rfl (hk i off n c)
    | true =>
      obtain ⟨p, hp, rfl⟩ := ha.slice_inv
      obtain ⟨g1, g2⟩ := cnd_some (show cnd (roomE y (Nat.add n m)) (cnd (Nat.ble (Nat.add n m) c)
        (ob2 (storeE s i (Nat.add off (Nat.mul n y.size)) ns) fun s' => some (EV.slice i off (Nat.add n m) c true, s'))
        (ob2 (cutE s i off (Nat.mul n y.size)) fun olds => some (newSl s (app olds ns) (Nat.add n m) (Nat.mul (Nat.add n m) y.size) y.size false))) none = some (r, s') from hi)
      cases hle : Nat.ble (Nat.add n m) c with
      | true =>
        rw [hle] at g2
        obtain ⟨s2, g3, g4⟩ := ob2_ok (show ob2 (storeE s i (Nat.add off (Nat.mul n y.size)) ns) (fun s' => some (EV.slice i off (Nat.add n m) c true, s')) = some (r, s') from g2)
        cases g4
        obtain ⟨w', h1, h2⟩ := store_cells h hp g3 hn
        have hroom : n + m ≤ c := Nat.le_of_ble_eq_true hle
        have hst : (storeCells ((p.adr off).add (n * i'.size)) news).run P w = .ok () w' := by
          rw [k2]
          have : (p.adr off).add (n * y.size) = p.adr (Nat.add off (Nat.mul n y.size)) := by simp [Lc.adr, Addr.add_lit, Nat.add_assoc]
          rw [this]; exact h1
        exact ⟨L, _, w', Lo.le_refl L, .slice hp, run_room (ty := ty) ht k1 hs' hroom hst, h2⟩
      | false =>
        rw [hle] at g2
        obtain ⟨olds, g3, g4⟩ := ob2_ok (show ob2 (cutE s i off (Nat.mul n y.size)) (fun olds => some (newSl s (app olds ns) (Nat.add n m) (Nat.mul (Nat.add n m) y.size) y.size false)) = some (r, s') from g2)
        cases g4
        have hroom : c < n + m := by
          rw [ble_eq, decide_eq_false_iff_not] at hle
          have : ¬ n + m ≤ c := hle
          omega
        obtain ⟨vs, h1, h2, h3⟩ := olds_ok (cap := c) h hp g3
        obtain ⟨M, v, w', h4, h5, h6, h7⟩ := grow_ok (ty := ty) h ht k1 k2 k3 q4 hzs h1 hn h2 (by rw [k2]; exact h3 w.drew rfl) hs' hroom g1
        rw [app_eq]
        exact ⟨M, v, w', h4, h5, h6, h7⟩
theorem dead_imp {L : Lo} {s : St} {i : Nat} (hi : i < s.num) (x : Hp) (k : sepL (R :: rest L s i) x) : sepL (R :: prts L (s.put i .dead)) x := by
  have hp := prts_perm L (s.put i .dead) (i := i) (by rw [St.put_num]; exact hi)
  rw [rest_congr (St.put_num s i .dead) (fun j hj => St.put_other s .dead hj)] at hp
  refine sepL_perm ((List.Perm.swap _ _ _).trans (hp.symm.cons R)) x ?_
  refine ⟨fun _ => none, x, fun _ => .inl rfl, (fun _ _ e => by cases e), Hp.le_refl x, ?_, k⟩
  unfold prt
  cases e1 : L i with
  | none => trivial
  | some p =>
    cases e2 : (s.put i .dead).obj i with
    | none => trivial
    | some o' => rw [St.put_same e2]; trivial
theorem unborn_imp {L : Lo} {s : St} (o : EO) (hn : L s.num = none) (x : Hp) (k : sepL (R :: prts L s) x) : sepL (R :: prts L (s.new o)) x := by
  have e0 : prts L (s.new o) = prts L s ++ [prt L (s.new o) s.num] := by
    unfold prts
    rw [St.new_num, List.range_succ, List.map_append]
    congr 1
    refine List.map_congr_left fun j hj => ?_
    have : j ≠ s.num := Nat.ne_of_lt (List.mem_range.1 hj)
    unfold prt
    rw [St.new_other s o this]
  have e1 : prt L (s.new o) s.num = fun _ => True := by unfold prt; rw [hn]
  rw [e0, e1]
  refine (sepL_append (R :: prts L s) [fun _ => True] x).2 ⟨x, fun _ => none, fun _ => .inr rfl, Hp.le_refl x, (fun _ _ e => by cases e), k, ?_⟩
  exact ⟨fun _ => none, fun _ => none, fun _ => .inl rfl, (fun _ _ e => by cases e), (fun _ _ e => by cases e), trivial, trivial⟩
theorem grwE_ok {s : St} {i : Nat} (h : grwE s i = true) : ∃ l n, s.obj i = some (.row l n false) := by
  unfold grwE at h
  cases ho : s.obj i with
  | none => rw [ho] at h; cases h
  | some o =>
    rw [ho] at h
    cases o <;> (first | (cases h; done) | skip)
    rename_i l n x
    cases x with
    | true => cases h
    | false => exact ⟨l, n, rfl⟩
/-- onto a slice that has grown -/
theorem app_grown {L : Lo} {s s' : St} {w : World} (h : Rep e R L s w) {t el u ty : TypeId} {y : TI} (ht : dd t = some (.sl el)) (hy : ti el = some y) {z : List EV} (hz : zroE el = some z) (hzl : z.length = y.size)
    {i off n c : Nat} {r : EV} {av xv : Value} {m : Nat} {ns : List EV} {news : List Value} (ha : Real L (.slice i off n c false) av) (hm : m ≠ 0) (hn : Reals L ns news) (hs : Src P y.size u xv m news w) (hns : sclL ns = true) (hi : appE s y (.slice i off n c false) ns m = some (r, s')) :
    ∃ M v w', Lo.le L M ∧ Real M r v ∧ (Builtin.append_ #[t, u] ty #[av, xv]).run P w = .ok v w' ∧ Rep e R M s' w' := by
  obtain ⟨i', k1, k2, k3⟩ := szof_spec (szof_of hy)
  obtain ⟨zs, q1, q2⟩ := zroE_ok (L := L) hz
  obtain ⟨i2, zv, q3, q4, q5⟩ := zro_spec q1
  rw [k1] at q3; cases q3
  have hzs : zv.cells.size = y.size := by rw [← Array.length_toList, q5, q2.length, hzl]
  have hs' : Src P i'.size u xv m news w := by rw [k2]; exact hs
  have hb : Nat.beq m 0 = false := by
    cases hh : Nat.beq m 0 with
    | true => exact absurd (Nat.eq_of_beq_eq_true hh) hm
    | false => rfl
  unfold appE at hi
  rw [hb, hns] at hi
  obtain ⟨g1, g2⟩ := cnd_some (show cnd (roomE y (Nat.add n m)) (cnd (band (grwE s i) (band (Nat.beq off 0) (Nat.beq c y.size)))
      (ob2 (cutE s i off (Nat.mul n y.size)) fun olds => some (newSl (s.put i .dead) (app olds ns) (Nat.add n m) (Nat.mul (Nat.add n m) y.size) y.size false)) none) none = some (r, s') from hi)
  obtain ⟨g3, g4⟩ := cnd_some g2
  obtain ⟨f1, f2⟩ := band_ok g3
  obtain ⟨f2, f3⟩ := band_ok f2
  have f2 := Nat.eq_of_beq_eq_true f2
  have f3 := Nat.eq_of_beq_eq_true f3
  subst f2; subst f3
  obtain ⟨olds, g5, g6⟩ := ob2_ok (show ob2 (cutE s i 0 (Nat.mul n y.size)) (fun olds => some (newSl (s.put i .dead) (app olds ns) (Nat.add n m) (Nat.mul (Nat.add n m) y.size) y.size false)) = some (r, s') from g4)
  cases g6
  obtain ⟨p, hp, rfl, hpz, hpc⟩ := ha.slicx_inv
  obtain ⟨l, nn, ho⟩ := grwE_ok f1
  obtain ⟨vs, h1, h2, h3⟩ := olds_ok (cap := p.cap 0) h hp g5
  have hlt := h.dom.1 i p hp
  rw [app_eq]
  have hnum : (s.put i .dead).num = s.num := St.put_num _ _ _
  by_cases hroom : n + m ≤ p.cap 0
  · have hnn : n * y.size ≤ nn ∧ olds = l.take (n * y.size) := by
      obtain ⟨⟨l', nn'⟩, h4, h5⟩ := ob2_ok g5
      obtain ⟨o', h6, h7⟩ := ob2_ok h4
      rw [ho] at h6; cases h6
      cases h7
      obtain ⟨h8, h9⟩ := cnd_some (show cnd (Nat.ble (Nat.add 0 (Nat.mul n y.size)) nn) (some (tke (drp l 0) (Nat.mul n y.size))) none = some olds from h5)
      have h8 := Nat.le_of_ble_eq_true h8
      cases h9
      refine ⟨?_, by rw [tke_eq, drp_eq]; rfl⟩
      have : 0 + n * y.size ≤ nn := h8
      omega
    obtain ⟨hnn, rfl⟩ := hnn
    have htk := h.take hp ho
    have hrz : Nat.mul (n + m) y.size ≤ p.c * p.z := by
      rw [hpz]
      refine Nat.mul_le_mul_right _ ?_
      simpa [Lc.cap] using hroom
    have hrz : (n + m) * y.size ≤ p.c * p.z := hrz
    have hnl := hs.newsLen
    have hadd : (n + m) * y.size = n * y.size + m * y.size := Nat.add_mul _ _ _
    obtain ⟨x1, x2, hdj, l1, l2, ⟨us, q, ua, ub, uc, z0, z1, z2, ud⟩, hr⟩ := htk.heap
    have hsat : Sat e (sepL (pt p.b (us ++ q) :: R :: rest L s i)) w := ⟨htk.os, htk.tape, htk.output, x1, x2, hdj, l1, l2, ud, hr⟩
    have hul := ua.length
    have hone := sclL_ok hns hn
    obtain ⟨w', hrun, hsat'⟩ := run_storeCells_pt (b := p.b) (off := n * y.size) news 0 (us ++ q) (R :: rest L s i) w (by omega) hone hsat
    have hst : (storeCells ((p.adr 0).add (n * i'.size)) news).run P w = .ok () w' := by
      rw [k2]; simpa [Lc.adr, uc, Addr.add_lit] using hrun
    have hLn : L (s.put i .dead).num = none := by
      rw [hnum]
      cases e1 : L s.num with
      | none => rfl
      | some p => exact absurd (h.dom.1 _ p e1) (Nat.lt_irrefl _)
    have hle := Lo.le_up p hLn
    refine ⟨L.up (s.put i .dead).num p, _, w', hle, Real.slicx (Lo.up_same _ _ _) hpz hroom, run_room (ty := ty) ht k1 hs' hroom hst, ?_⟩
    refine Rep.born ((h.dom.put (h.dom.own hp) .dead).none) (by rw [St.new_num]; omega) (fun o' ho' => St.new_same ho') ((h.dom.put (h.dom.own hp) .dead).new _) ?_
    · refine hsat'.imp fun x k => sepL_cons (fun g hg => ?_) (fun y2 ky => unborn_imp _ hLn y2 (dead_imp hlt y2 ky)) k
      refine ⟨us.take (n * y.size) ++ news, (us ++ q).drop ((n + m) * y.size), ((ua.take _).append hn).le hle, ?_, uc, z0, ?_, ?_, ?_⟩
      · show (l.take (n * y.size) ++ ns).length = (n + m) * y.size
        rw [List.length_append, List.length_take, ← hn.length, hnl, ub, Nat.min_eq_left hnn, hadd]
      · exact hrz
      · simp only [List.length_append, List.length_take, List.length_drop] at z2 ⊢; omega
      · have e1 : (us ++ q).take (n * y.size + 0) = us.take (n * y.size) := by rw [Nat.add_zero, List.take_append_of_le_length (by omega)]
        have e2 : (us ++ q).drop (n * y.size + 0 + news.length) = (us ++ q).drop ((n + m) * y.size) := by rw [Nat.add_zero, hnl, hadd]
        rw [e1, e2] at hg
        simpa using hg
  · have hd := h.dead hp (h.drop hp ho)
    obtain ⟨M, v, w', h4, h5, h6, h7⟩ := grow_ok (ty := ty) hd ht k1 k2 k3 q4 hzs h1 hn h2 (by rw [k2]; exact h3 w.drew rfl) hs' (Nat.not_le.1 hroom) g1
    exact ⟨M, v, w', h4, h5, h6, h7⟩
theorem app_ok {L : Lo} {s s' : St} {w : World} (h : Rep e R L s w) {t el u ty : TypeId} {y : TI} (ht : dd t = some (.sl el)) (hy : ti el = some y) {z : List EV} (hz : zroE el = some z) (hzl : z.length = y.size) (hu : srcC u = true)
    {a x r : EV} {av xv : Value} {m : Nat} {ns : List EV} (ha : Real L a av) (hx : Real L x xv) (hl : lenE x = some m) (hc : cellsOf s y.size x = some ns) (hv : srcV y.size x = true) (hi : appE s y a ns m = some (r, s')) :
    ∃ M v w', Lo.le L M ∧ Real M r v ∧ (Builtin.append_ #[t, u] ty #[av, xv]).run P w = .ok v w' ∧ Rep e R M s' w' := by
  cases hb : Nat.beq m 0 with
  | true =>
    have hm := Nat.eq_of_beq_eq_true hb
    subst hm
    have hlen := cellsOf_len h hx hl hc hv
    rw [Nat.zero_mul] at hlen
    have hnil : ns = [] := List.length_eq_zero_iff.1 hlen
    subst hnil
    obtain ⟨news, hn, hs⟩ := src_ok h hu hx hl hc hv rfl
    cases hn
    obtain ⟨i', k1, k2, k3⟩ := szof_spec (szof_of hy)
    have hs' : Src P i'.size u xv 0 [] w := by rw [k2]; exact hs
    obtain ⟨g1, g2⟩ := cnd_some (show cnd (keeps a) (some (a, s)) none = some (r, s') from hi)
    cases g2
    have hst : ∀ ad : Addr, (storeCells (ad.add 0) []).run P w = .ok () w := fun ad => by simp [storeCells]
    cases a <;> (first | (cases g1; done) | skip)
    case nils =>
      refine ⟨L, _, w, Lo.le_refl L, ha, ?_, h⟩
      rw [ha.nils_inv]
      rcases hs'.kind with ⟨e', hk⟩ | hk <;> simp [Builtin.append_, run_underlying (dd_sl ht), run_underlying hk, sizeOf, typeInfo, k1, hs'.len, hs'.cells]
    case slice i off n c b =>
      cases b with
      | true =>
        have g1 : Nat.ble n c = true := g1
        obtain ⟨p, hp, hav⟩ := ha.slice_inv
        refine ⟨L, _, w, Lo.le_refl L, ha, ?_, h⟩
        rw [hav]
        exact run_room (n := 0) (news := []) ht k1 hs' (Nat.le_of_ble_eq_true g1) (by simp [storeCells])
      | false =>
        obtain ⟨p, hp, hav, h1, h2⟩ := ha.slicx_inv
        refine ⟨L, _, w, Lo.le_refl L, ha, ?_, h⟩
        rw [hav]
        exact run_room (n := 0) (news := []) ht k1 hs' h2 (by simp [storeCells])
  | false =>
    have hm : m ≠ 0 := fun hh => by subst hh; cases hb
    have hns : sclL ns = true := by
      unfold appE at hi
      rw [hb] at hi
      exact (cnd_some hi).1
    obtain ⟨news, hn, hs⟩ := src_ok h hu hx hl hc hv hns
    by_cases hk : ∃ i off n c, a = .slice i off n c false
    · obtain ⟨i, off, n, c, rfl⟩ := hk
      exact app_grown h ht hy hz hzl ha hm hn hs hns hi
    · exact app_known h ht hy hz hzl ha (fun i off n c hh => hk ⟨i, off, n, c, hh⟩) hm hn hs hns hi
end Go.Proofs.YtiabhghlhnnnjaaGreatDoor.Ev
