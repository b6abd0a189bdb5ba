/-
  THE EVALUATOR IS SOUND (fourteenth part: iterators).
-/
import Derived.Test.YtiabhghlhnnnjaaGreatDoorEk
import Derived.Laws.RangeString
set_option linter.unusedVariables false
set_option linter.unusedSimpArgs false
set_option maxRecDepth 100000
set_option maxHeartbeats 0
noncomputable section
namespace Go.Proofs.YtiabhghlhnnnjaaGreatDoor.Ev
open Go Sh Sl
variable {e : Env} {R : HProp}
theorem RealEs.all {L : Lo} (f : Nat → Bool) : ∀ {es : List (EV × EV × Nat)} {r : List MapEntry}, RealEs L es r → (es.all fun e => f e.2.2) = r.all fun e => f e.born
  | _, _, .nil => rfl
  | _, _, .cons hk hv t => by simp only [List.all_cons, t.all f]
theorem RealEs.filter {L : Lo} (f : Nat → Bool) : ∀ {es : List (EV × EV × Nat)} {r : List MapEntry}, RealEs L es r → RealEs L (es.filter fun e => f e.2.2) (r.filter fun e => f e.born)
  | _, _, .nil => .nil
  | (_, _, b) :: _, _, .cons hk hv t => by
    cases hb : f b with
    | true => rw [List.filter_cons_of_pos (by simpa using hb), List.filter_cons_of_pos (by simpa using hb)]; exact .cons hk hv (t.filter f)
    | false => rw [List.filter_cons_of_neg (by simpa using hb), List.filter_cons_of_neg (by simpa using hb)]; exact t.filter f
theorem RealEs.idx {L : Lo} (f : Nat → Bool) : ∀ {es : List (EV × EV × Nat)} {r : List MapEntry}, RealEs L es r → (es.findIdx? fun e => f e.2.2) = r.findIdx? fun e => f e.born
  | _, _, .nil => rfl
  | _, _, .cons hk hv t => by simp only [List.findIdx?_cons, t.idx f]
theorem findB_ok {L : Lo} {b : Nat} {k v : EV} : ∀ {es : List (EV × EV × Nat)} {r : List MapEntry}, RealEs L es r → findB b es = some (k, v) → ∃ x, r.find? (fun e => e.born == b) = some x ∧ Real L k x.key ∧ Real L v x.val
  | _, _, .nil, h => by cases h
  | (a, u, n) :: l, _, .cons hk hv t, h => by
    have h : cnd (Nat.beq n b) (some (a, u)) (findB b l) = some (k, v) := h
    cases hn : Nat.beq n b with
    | true =>
      rw [hn] at h
      cases h
      exact ⟨_, List.find?_cons_of_pos (by simpa using Nat.eq_of_beq_eq_true hn), hk, hv⟩
    | false =>
      rw [hn] at h
      obtain ⟨x, h1, h2⟩ := findB_ok t h
      refine ⟨x, ?_, h2⟩
      rw [List.find?_cons_of_neg, h1]
      rw [beq_eq, decide_eq_false_iff_not] at hn
      simpa using hn
/-- a stamped entry is written -/
theorem es_ok {L : Lo} {s s' : St} {w : World} (h : Rep e R L s w) {m v r : EV} {k : IntKind} {n : Nat} (hi : esE m n v s = some (r, s')) {t : TypeId} {mv y : Value} (hm : Real L m mv) (hv : Real L v y) :
    ∃ w', r = .undef ∧ (Instr.entryStore t mv (.int k (n : Int)) y).run P w = .ok () w' ∧ Rep e R L s' w' := by
  obtain ⟨i, h4, hi⟩ := ob2_ok hi
  obtain ⟨⟨es, cl⟩, h5, hi⟩ := ob2_ok hi
  obtain ⟨j, h6, hi⟩ := ob2_ok (show ob2 (es.findIdx? fun e => Nat.beq e.2.2 n) (fun j => some (EV.undef, s.put i (.map (modE (fun e => (e.1, v, e.2.2)) es j) cl))) = some (r, s') from hi)
  cases hi
  rw [map?_ok h4] at hm
  obtain ⟨p, hp, rfl⟩ := hm.map_inv
  obtain ⟨_, rs, h10, h11⟩ := h.map hp h5
  simp only at h10 h11
  have hg : (getObj p.b).run P w = .ok (.map rs.toArray cl) w := run_getObj h11 (by simp)
  obtain ⟨rs', g1, g2, g3, g4⟩ := h.mapPut hp h5 (es := modE (fun e => (e.1, v, e.2.2)) es j) (r := rs.modify j fun e => { e with val := y }) (c := cl) (modV_ok hv j h10)
  refine ⟨_, rfl, ?_, g4⟩
  have e1 : rs.toArray.findIdx? (fun e => (e.born : Int) == (n : Int)) = some j := by
    rw [List.findIdx?_toArray, ← h6, h10.idx fun b => Nat.beq b n]
    congr 1
    funext x
    rw [beq_eq]
    by_cases hb : x.born = n
    · simp [hb]
    · have h2 : ¬ (x.born : Int) = (n : Int) := by omega
      simp [hb, h2]
  have e2 : (rs.toArray.modify j fun e => { e with val := y }) = (rs.modify j fun e => { e with val := y }).toArray := by simp
  simp only [Instr.entryStore, Sem.run_bind, Result.andThen_ok, hg, asInt, asIntOf, Sem.run_pure, e1, e2, g3]
/-- something new, at once -/
theorem Rep.bear {L : Lo} {s : St} {w : World} (h : Rep e R L s w) {o : EO} {ob : Obj} (hB : ∀ g, g w.heap.size = some ob → pobj (L.up s.num ⟨w.heap.size, 0, 0, 0⟩) ⟨w.heap.size, 0, 0, 0⟩ o g) :
    Lo.le L (L.up s.num ⟨w.heap.size, 0, 0, 0⟩) ∧ Rep e R (L.up s.num ⟨w.heap.size, 0, 0, 0⟩) (s.new o) (w.alloc ob) := by
  have hn : L s.num = none := by
    cases e1 : L s.num with
    | none => rfl
    | some p => exact absurd (h.dom.1 _ p e1) (Nat.lt_irrefl _)
  have hu := h.unborn o
  refine ⟨Lo.le_up _ hn, Rep.born h.dom.none (by rw [St.new_num]; omega) (fun o' ho' => St.new_same ho') hu.dom ?_⟩
  exact (hu.sat.alloc _).imp fun x k => sepL_cons (fun g hg => hB g hg) (fun _ z => z) k
theorem range_ok {L : Lo} {s s' : St} {w : World} (h : Rep e R L s w) {t : TypeId} {v u : EV} {x : Value} (hx : Real L v x)
    (hr : (dd t = some .str ∧ rngS v s = some (u, s')) ∨ (∃ a b, dd t = some (.mp a b)) ∧ rngM v s = some (u, s')) :
    ∃ M y w', Lo.le L M ∧ Real M u y ∧ (Instr.range t x).run P w = .ok y w' ∧ Rep e R M s' w' := by
  rcases hr with ⟨hd, hr⟩ | ⟨⟨a, b, hd⟩, hr⟩
  · obtain ⟨l, h1, hr⟩ := ob2_ok hr
    cases hr
    rw [str?_ok h1] at hx
    obtain ⟨h2, rfl⟩ := hx.str_inv
    obtain ⟨g1, g2⟩ := h.bear (o := .sit l 0) (ob := .stringIter (ba (bts l)) 0) fun g hg => ⟨h2, hg, rfl⟩
    refine ⟨_, _, _, g1, .ptr (Lo.up_same _ _ _), ?_, g2⟩
    simp only [Instr.range, Sem.run_bind, run_underlying (dd_str hd), Result.andThen_ok, Sem.run_pure, run_newObj]
    rfl
  · cases v <;> (first | (cases hr; done) | skip)
    case nilm =>
      cases hr
      rw [hx.nilm_inv]
      obtain ⟨g1, g2⟩ := h.bear (o := .mit none 0 [] 0) (ob := .mapIter none 0 #[] 0) fun g hg => ⟨hg, rfl⟩
      refine ⟨_, _, _, g1, .ptr (Lo.up_same _ _ _), ?_, g2⟩
      simp only [Instr.range, Sem.run_bind, run_underlying (dd_mp hd), Result.andThen_ok, Sem.run_pure, run_newObj]
      rfl
    case map i =>
      obtain ⟨⟨es, cl⟩, h1, hr⟩ := ob2_ok hr
      cases hr
      obtain ⟨p, hp, rfl⟩ := hx.map_inv
      obtain ⟨_, rs, h10, h11⟩ := h.map hp h1
      simp only at h10 h11
      have hg : (getObj p.b).run P w = .ok (.map rs.toArray cl) w := run_getObj h11 (by simp)
      have hn : L s.num = none := by
        cases e1 : L s.num with
        | none => rfl
        | some q => exact absurd (h.dom.1 _ q e1) (Nat.lt_irrefl _)
      obtain ⟨g1, g2⟩ := h.bear (o := .mit (some i) cl [] cl) (ob := .mapIter (some p.b) cl #[] cl) fun g hg => ⟨p, (Lo.le_up _ hn).1 _ _ hp, hg, rfl⟩
      refine ⟨_, _, _, g1, .ptr (Lo.up_same _ _ _), ?_, g2⟩
      simp only [Instr.range, Sem.run_bind, run_underlying (dd_mp hd), Result.andThen_ok, hg, Sem.run_pure, run_newObj]
      rfl
/-- the entry that an iterator stands on -/
theorem entry_at {L : Lo} {s : St} {w : World} (h : Rep e R L s w) {i off : Nat} {o : EO} {v : EV} (ho : s.obj i = some o) (he : entryE s o = some v) {x : Value} (hx : Real L (.ptr i off) x) (h0 : off = 0) :
    ∃ y, Real L v y ∧ (Instr.entry x).run P w = .ok y w := by
  subst h0
  obtain ⟨p, hp, rfl⟩ := hx.ptr_inv
  obtain ⟨⟨m, b, last⟩, h1, he⟩ := ob2_ok he
  obtain ⟨⟨es, cl⟩, h2, he⟩ := ob2_ok (show ob2 (s.mp m) (p2 fun es cl => cnd (Nat.beq cl last) (ob2 (findB b es) (p2 fun k v => some (.tup [k, v]))) none) = some v from he)
  obtain ⟨h3, he⟩ := cnd_some (show cnd (Nat.beq cl last) (ob2 (findB b es) (p2 fun k v => some (.tup [k, v]))) none = some v from he)
  obtain ⟨⟨k, u⟩, h4, he⟩ := ob2_ok he
  cases he
  unfold mitE at h1
  split at h1
  · rename_i m' since b' r' last'
    obtain ⟨rfl, rfl, rfl⟩ : m' = m ∧ b' = b ∧ last' = last := by cases h1; exact ⟨rfl, rfl, rfl⟩
    obtain ⟨g, hg, q, hq, ha, hb⟩ := h.at_ hp ho
    have hob := hg _ _ ha
    obtain ⟨_, rs, h10, h11⟩ := h.map hq h2
    simp only at h10 h11
    have hg1 : (getObj p.b).run P w = .ok (.mapIter (some q.b) since (b' :: r').reverse.toArray last') w := run_getObj hob (by simp)
    have hg2 : (getObj q.b).run P w = .ok (.map rs.toArray cl) w := run_getObj h11 (by simp)
    obtain ⟨x, h5, h6, h7⟩ := findB_ok h10 h4
    refine ⟨_, .tup (.cons h6 (.one h7)), ?_⟩
    have h3 := Nat.eq_of_beq_eq_true h3
    subst h3
    have e1 : (b' :: r').reverse.toArray.back? = some b' := by simp
    have e2 : rs.toArray.find? (fun e => e.born == b') = some x := by rw [List.find?_toArray, h5]
    have e3 : (⟨p.b, p.o + 0, none⟩ : Addr) = ⟨p.b, 0, none⟩ := by rw [hb]
    have e4 : p.adr 0 = ⟨p.b, 0, none⟩ := e3
    rw [e4]
    simp only [Instr.entry, Sem.run_bind, Result.andThen_ok, hg1, e1, hg2, bne_self_eq_false, Bool.false_eq_true, if_false, e2, Sem.run_pure]
  · cases h1
theorem run_forced (n : Nat) (hn : n ≤ 1) (w : World) : (choose (.mapNext n)).run P w = .ok 0 w := by
  rw [run_choose, if_pos]
  simp [Question.forced, hn]
/-- a step of an iterator -/
theorem next_ok {L : Lo} {s s' : St} {w : World} (h : Rep e R L s w) {i : Nat} {o : EO} {b : Bool} {r : EV} (ho : s.obj i = some o) (he : nextE s i o b = some (r, s')) {x : Value} (hx : Real L (.ptr i 0) x) (t : TypeId) :
    ∃ y w', Real L r y ∧ (Instr.next x b t).run P w = .ok y w' ∧ Rep e R L s' w' := by
  obtain ⟨p, hp, rfl⟩ := hx.ptr_inv
  obtain ⟨g, hg, hA⟩ := h.at_ hp ho
  unfold nextE at he
  split at he
  · -- a string's
    rename_i l pos
    obtain ⟨h1, hob, h0⟩ := hA
    have e4 : p.adr 0 = ⟨p.b, 0, none⟩ := by simp [Lc.adr, h0]
    have hob := hg _ _ hob
    have hg1 : (getObj p.b).run P w = .ok (.stringIter (ba (bts l)) pos) w := run_getObj hob (by simp)
    rw [e4]
    split at he
    · rename_i c hc
      obtain ⟨h2, he⟩ := cnd_some he
      cases he
      rw [nth_eq] at hc
      rw [blt_eq, decide_eq_true_eq] at h2
      have hlt : pos < l.length := (List.getElem?_eq_some_iff.1 hc).1
      have hsz : pos < (ba (bts l)).size := by simpa [ba, bts, ByteArray.size] using hlt
      have hbyte : (ba (bts l))[pos]'hsz = UInt8.ofNat c := by
        have h3 := (List.getElem?_eq_some_iff.1 hc).2
        simp [ba, bts, ByteArray.getElem_eq_getElem_data, h3]
      have hnat : ((ba (bts l))[pos]'hsz).toNat = c := by rw [hbyte, UInt8.toNat_ofNat']; omega
      have hdec : Utf8.decode (ba (bts l)) pos = (c, 1) := by
        rw [decode_ascii _ _ hsz (by rw [hnat]; exact h2), hnat]
      refine ⟨_, _, .tup (.cons (.bool true) (.cons (.int .i64 (pos : Int)) (.one (.int .i32 (c : Int))))), ?_, h.turn (ob2 := .stringIter (ba (bts l)) (pos + 1)) hp ho hob (fun g hg => ⟨_, hg.2.1⟩) fun g hg => ⟨h1, hg, h0⟩⟩
      simp only [Instr.next, Sem.run_bind, Result.andThen_ok, hg1, if_pos hsz, hdec, run_setObj hob (by simp), Sem.run_pure]
      rfl
    · rename_i hc
      cases he
      rw [nth_eq] at hc
      have hlt : ¬ pos < (ba (bts l)).size := by
        have := List.getElem?_eq_none_iff.1 hc
        simpa [ba, bts, ByteArray.size] using this
      refine ⟨_, _, .tup (.one (.bool false)), ?_, h⟩
      simp only [Instr.next, Sem.run_bind, Result.andThen_ok, hg1, if_neg hlt, Sem.run_pure]
  · cases he
    obtain ⟨hob, h0⟩ := hA
    have e4 : p.adr 0 = ⟨p.b, 0, none⟩ := by simp [Lc.adr, h0]
    have hg1 := run_getObj (hg _ _ hob) (by simp)
    rw [e4]
    refine ⟨_, _, .tup (.one (.bool false)), ?_, h⟩
    simp only [Instr.next, Sem.run_bind, Result.andThen_ok, hg1, Sem.run_pure]
  · rename_i m since seen last
    obtain ⟨⟨es, cl⟩, h2, he⟩ := ob2_ok he
    obtain ⟨q, hq, hob, h0⟩ := hA
    have e4 : p.adr 0 = ⟨p.b, 0, none⟩ := by simp [Lc.adr, h0]
    have hob := hg _ _ hob
    have hg1 : (getObj p.b).run P w = .ok _ w := run_getObj hob (by simp)
    obtain ⟨_, rs, h10, h11⟩ := h.map hq h2
    simp only at h10 h11
    have hg2 : (getObj q.b).run P w = .ok (.map rs.toArray cl) w := run_getObj h11 (by simp)
    rw [e4]
    have he : cnd (!seen.isEmpty && (!es.isEmpty && es.all fun e => Nat.ble last e.2.2)) none (match es.filter fun e => !(seen.any (Nat.beq e.2.2)) with
      | [] => some (.tup [.bool false], s)
      | [e] => cnd (blt e.2.2 since) (some (.tup [.bool true, e.1, e.2.1], s.put i (.mit (some m) since (e.2.2 :: seen) cl))) none
      | _ => none) = some (r, s') := he
    cases hc : (!seen.isEmpty && (!es.isEmpty && es.all fun e => Nat.ble last e.2.2)) with
    | true => rw [hc] at he; cases he
    | false =>
      rw [hc] at he
      have he : (match es.filter fun e => !(seen.any (Nat.beq e.2.2)) with
        | [] => some (EV.tup [.bool false], s)
        | [e] => cnd (blt e.2.2 since) (some (.tup [.bool true, e.1, e.2.1], s.put i (.mit (some m) since (e.2.2 :: seen) cl))) none
        | _ => none) = some (r, s') := he
      have hif : (!seen.reverse.toArray.isEmpty && !rs.toArray.isEmpty && rs.toArray.all (fun x => decide (x.born ≥ last))) = false := by
        rw [h10.all (fun b => Nat.ble last b)] at hc
        rw [← hc]
        have hemp : rs.isEmpty = es.isEmpty := by cases h10 <;> rfl
        have hall : (rs.all fun x => Nat.ble last x.born) = rs.all fun x => decide (x.born ≥ last) := by
          congr 1; funext x; rw [ble_eq]
        rw [hall]
        simp [hemp, Bool.and_assoc]
      have hleft : (rs.toArray.filter fun x => !seen.reverse.toArray.contains x.born) = (rs.filter fun x => !(seen.any (Nat.beq x.born))).toArray := by
        have hf : (fun x : MapEntry => !seen.reverse.toArray.contains x.born) = fun x => !(seen.any (Nat.beq x.born)) := by
          funext x
          congr 1
          rw [Bool.eq_iff_iff]
          simp [beq_eq]
        rw [hf]; simp
      have hR := h10.filter fun b => !(seen.any (Nat.beq b))
      split at he
      · rename_i hfl
        cases he
        rw [hfl] at hR
        have hrs : (rs.filter fun x => !(seen.any (Nat.beq x.born))) = [] := by
          generalize (rs.filter fun x => !(seen.any (Nat.beq x.born))) = k at hR
          cases hR; rfl
        rw [hrs] at hleft
        refine ⟨_, _, .tup (.one (.bool false)), ?_, h⟩
        simp only [Instr.next, Sem.run_bind, Result.andThen_ok, hg1, hg2, hif, Bool.false_eq_true, if_false, hleft]
        have hfo : (Question.mapNext 1).forced = true := rfl
        simp [hfo]
      · rename_i e0 hfl
        obtain ⟨h5, he⟩ := cnd_some he
        cases he
        rw [hfl] at hR
        obtain ⟨k0, v0, b0⟩ := e0
        rw [blt_eq, decide_eq_true_eq] at h5
        have h5 : b0 < since := h5
        obtain ⟨x0, y0, hk, hv, hrs⟩ : ∃ x0 y0, Real L k0 x0 ∧ Real L v0 y0 ∧ (rs.filter fun x => !(seen.any (Nat.beq x.born))) = [⟨x0, y0, b0⟩] := by
          generalize (rs.filter fun x => !(seen.any (Nat.beq x.born))) = k at hR
          cases hR with
          | cons hk hv t => cases t; exact ⟨_, _, hk, hv, rfl⟩
        rw [hrs] at hleft
        refine ⟨_, _, .tup (.cons (.bool true) (.cons hk (.one hv))), ?_, h.turn (ob2 := .mapIter (some q.b) since (b0 :: seen).reverse.toArray cl) hp ho hob (fun g hg => by obtain ⟨_, _, hg, _⟩ := hg; exact ⟨_, hg⟩) fun g hg => ⟨q, hq, hg, h0⟩⟩
        have hso := run_setObj (o' := .mapIter (some q.b) since (b0 :: seen).reverse.toArray cl) hob (by simp)
        have hfo : (Question.mapNext 1).forced = true := rfl
        have hpu : (b0 :: seen).reverse = seen.reverse ++ [b0] := by simp
        rw [hpu] at hso ⊢
        simp only [Instr.next, Sem.run_bind, Result.andThen_ok, hg1, hg2, hif, Bool.false_eq_true, if_false, hleft]
        simp [hfo, h5, hso]
      · cases he
  · cases he
end Go.Proofs.YtiabhghlhnnnjaaGreatDoor.Ev
