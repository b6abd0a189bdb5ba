/-
  THE DOCUMENT's TEXTS OF EVENTS (layer 31): lines, Parse, Text.
-/
import Derived.Test.YtoneapgooihajaaGreatDoorUc
set_option maxRecDepth 100000
set_option linter.unusedVariables false
set_option linter.unusedSectionVars false
set_option linter.unusedSimpArgs false
set_option maxHeartbeats 0
namespace Go.Proofs.YtoneapgooihajaaGreatDoor.Qa
open Go Sh Sl
open Go.RowKit
attribute [local irreducible] condK ArK NilK OpK FnK StK joinK loopK DrawK andK PuK NxK EnK vS uS bS callS invokeS
/-- a text's lines, each without its end, and whether the last one is ended -/
def rl : Bs → Bs → List Bs × Bool
  | cur, [] => if cur = [] then ([], true) else ([cur], false)
  | cur, c :: r => if c = 10 then (cur :: (rl [] r).1, (rl [] r).2) else rl (cur ++ [c]) r
theorem rl_nil (cur : Bs) : rl cur [] = if cur = [] then ([], true) else ([cur], false) := by rw [rl]
theorem rl_cons (cur : Bs) (c : UInt8) (r : Bs) : rl cur (c :: r) = if c = 10 then (cur :: (rl [] r).1, (rl [] r).2) else rl (cur ++ [c]) r := by rw [rl]
theorem rl_lns : ∀ (s cur : Bs), (10 : UInt8) ∉ cur → ((rl cur s).2 = true → lnsA cur s = (rl cur s).1.map (· ++ [10])) ∧
    ((rl cur s).2 = false → ∃ L y, (rl cur s).1 = L ++ [y] ∧ lnsA cur s = L.map (· ++ [10]) ++ [y] ∧ (10 : UInt8) ∉ y)
  | [], cur, h => by
    unfold rl lnsA
    by_cases hc : cur = []
    · rw [if_pos hc, if_pos hc]; exact ⟨fun _ => rfl, fun hh => (by cases hh)⟩
    · rw [if_neg hc, if_neg hc]; exact ⟨fun hh => (by cases hh), fun _ => ⟨[], cur, rfl, rfl, h⟩⟩
  | c :: s, cur, h => by
    unfold rl lnsA
    by_cases hc : c = 10
    · rw [if_pos hc, if_pos hc]
      obtain ⟨h1, h2⟩ := rl_lns s [] (by simp)
      refine ⟨fun hh => ?_, fun hh => ?_⟩
      · dsimp only at hh ⊢
        rw [h1 hh, List.map_cons]
      · obtain ⟨L, y, g1, g2, g3⟩ := h2 hh
        exact ⟨cur :: L, y, by dsimp only; rw [g1]; rfl, by rw [g2]; rfl, g3⟩
    · rw [if_neg hc, if_neg hc]
      exact rl_lns s (cur ++ [c]) (by simp [h]; exact fun hh => hc hh.symm)
theorem rl_len (s : Bs) : (rl [] s).1.length = (lns s).length := by
  obtain ⟨h1, h2⟩ := rl_lns s [] (by simp)
  cases hb : (rl [] s).2 with
  | true => unfold lns; rw [h1 hb, List.length_map]
  | false =>
    obtain ⟨L, y, g1, g2, _⟩ := h2 hb
    unfold lns
    rw [g1, g2]; simp
theorem rl_piece : ∀ (s cur : Bs), ∀ x ∈ (rl cur s).1, x.length ≤ cur.length + s.length
  | [], cur, x, h => by
    unfold rl at h
    split at h
    · cases h
    · rw [List.mem_singleton.1 h]; simp
  | c :: s, cur, x, h => by
    unfold rl at h
    split at h
    · rcases List.mem_cons.1 h with rfl | h
      · simp
      · have := rl_piece s [] x h
        simp at this ⊢
        omega
    · have := rl_piece s (cur ++ [c]) x h
      simp at this ⊢
      omega
/-- a line: ended, or the last one -/
theorem rl_at {s y : Bs} {k : Nat} (h : (rl [] s).1[k]? = some y) : ((rl [] s).2 = true ∨ k + 1 < (rl [] s).1.length → (lns s)[k]? = some (y ++ [10])) ∧
    ((rl [] s).2 = false → k + 1 = (rl [] s).1.length → (lns s)[k]? = some y ∧ (10 : UInt8) ∉ y) := by
  obtain ⟨h1, h2⟩ := rl_lns s [] (by simp)
  refine ⟨fun hh => ?_, fun hb hk => ?_⟩
  · cases hb : (rl [] s).2 with
    | true => unfold lns; rw [h1 hb, List.getElem?_map, h]; rfl
    | false =>
      obtain ⟨L, z, g1, g2, _⟩ := h2 hb
      rw [hb, g1, List.length_append, List.length_singleton] at hh
      have hkl : k < L.length := by
        rcases hh with hh | hh
        · cases hh
        · omega
      rw [g1, List.getElem?_append_left hkl] at h
      unfold lns
      rw [g2, List.getElem?_append_left (by simpa using hkl), List.getElem?_map, h]; rfl
  · obtain ⟨L, z, g1, g2, g3⟩ := h2 hb
    rw [g1, List.length_append, List.length_singleton] at hk
    obtain rfl : k = L.length := by omega
    rw [g1, List.getElem?_append_right (Nat.le_refl _), Nat.sub_self] at h
    have hzy : z = y := by simpa using h
    subst hzy
    unfold lns
    rw [g2, List.getElem?_append_right (by simp), List.length_map, Nat.sub_self]
    exact ⟨rfl, g3⟩
theorem evR_I64 (s : Bs) : I64 (evR s).1.2.1 ∧ I64 (evR s).1.2.2.1 := by
  have h0 : I64 0 := ⟨by omega, by omega⟩
  have hn : ∀ z, I64 (numR z).1 := fun z => atoi_bounds _
  unfold evR
  dsimp only
  split
  · exact ⟨h0, hn _⟩
  · split
    · exact ⟨hn _, hn _⟩
    · exact ⟨hn _, hn _⟩
/-- what the document reads as an event's line is what the program reads -/
theorem line_same {y : Bs} {x : Ev} {ok : Bool} (hx : EvR x) (h1 : ok = true → evT x.k x.t x.n x.b = (y ++ [10], true)) (h2 : ∀ d : dE', I64 d.2.1 → I64 d.2.2.1 → evL d = (y ++ [10], true) → ok = true ∧ dEv x = d) :
    ok = evOk (y ++ [10]) ∧ (ok = true → dEv x = (evR (y ++ [10])).1) := by
  cases ho : evOk (y ++ [10]) with
  | true =>
    obtain ⟨g1, g2⟩ := ev_sound ho
    obtain ⟨i1, i2⟩ := evR_I64 (y ++ [10])
    obtain ⟨h3, h4⟩ := h2 (evR (y ++ [10])).1 i1 i2 (Prod.ext g2 g1)
    exact ⟨h3, fun _ => h4⟩
  | false =>
    cases ok with
    | false => exact ⟨rfl, fun hh => by cases hh⟩
    | true =>
      have h3 := h1 rfl
      have h4 := ev_back (k := x.k) (t := x.t) (n := x.n) (b := x.b) hx.t hx.n (by rw [h3])
      rw [h3] at h4
      dsimp only at h4
      rw [ho] at h4
      cases h4.1
section
variable {e : Env} {ctx rest R : List HProp} {M : Hp}
theorem st_slSB2 {t : TypeId} {l : Bs} {f k : Nat} (h1 : f ≤ k) (h2 : k ≤ l.length) (ht : dd t = some .str := by exact rfl) :
    Pu (vS (Instr.sliceAt t (.string (ba l)) (some (.int .i64 (f : Int))) (some (.int .i64 (k : Int))) none)) (.string (ba ((l.take k).drop f))) := Still.of_run fun w => by
  have hsz : (ba l).size = l.length := by simp [ba, ByteArray.size]
  rw [run_sliceAt_string w _ _ _ _ _ (dd_str ht), run_slice_string w _ _ _ _ (f : Int) (k : Int) (dd_str ht) (by omega) (by omega) (by rw [hsz]; omega), ByteArray.extract_mk]
  congr 3
  simp [List.extract_eq_take_drop, List.drop_take]
theorem reflines_spec {K : Value → Bool → WP} {s : Bs} (hs : s.length ≤ 1048576) (h : ∀ a c, Ent e (SlO a (rl [] s).1.length c 1 (ss (rl [] s).1) :: rest) (K (.slice a (rl [] s).1.length c) (rl [] s).2)) : Ent e rest (ref31_lines (ba s) K) := by
  have hsz : ((ba s).size : Int) = (s.length : Int) := by simp [ByteArray.size]
  (refine Ent.fn ref31_lines_ok ?_; unfold ref31_lines_sh)
  refine Ent.loop3 (k0 := .raw) (k1 := .int .i64) (k2 := .int .i64) (fun N (l : Value) (fr : Int) (i : Int) => (exs fun (p : List Bs × Option Addr × Nat × Nat × Nat) => sepL [pur (l = .slice p.2.1 p.1.length p.2.2.1 ∧ fr = (p.2.2.2.1 : Int) ∧ i = (p.2.2.2.2 : Int) ∧ p.2.2.2.1 ≤ p.2.2.2.2 ∧ p.2.2.2.2 ≤ s.length ∧ N = s.length - p.2.2.2.2 ∧ p.1.length ≤ p.2.2.2.2 ∧
      rl [] s = (p.1 ++ (rl ((s.take p.2.2.2.2).drop p.2.2.2.1) (s.drop p.2.2.2.2)).1, (rl ((s.take p.2.2.2.2).drop p.2.2.2.1) (s.drop p.2.2.2.2)).2)), SlO p.2.1 p.1.length p.2.2.1 1 (ss p.1)]) :: rest) s.length ?_ fun N j2 hj2 l fr i => ?_
  · refine Imp.trans (Imp.slN (sz := 1) (Imp.refl _)) ?_
    exact Imp.exs ([], none, 0, 0, 0) (Imp.g2 (Imp.pur ⟨rfl, rfl, rfl, Nat.le_refl _, Nat.zero_le _, rfl, Nat.le_refl _, (by simp)⟩ (Imp.refl _)))
  refine Ent.exs fun ⟨L, a, c, f, k⟩ => Ent.g2 (Ent.pur fun ⟨f1, f2, f3, f4, f5, f6, f7, f8⟩ => ?_)
  dsimp only at f1 f2 f3 f4 f5 f6 f7 f8
  dsimp only
  subst f1 f2 f3
  have cs : ∀ b : Bs, (Value.string (ba b)).cells.toList = [.string (ba b)] := fun _ => rfl
  have sa : ∀ b : Bs, ss L ++ [.string (ba b)] = ss (L ++ [b]) := fun b => by simp [ss]
  have la : ∀ b : Bs, L.length + 1 = (L ++ [b]).length := fun b => by simp
  refine Ent.wlenS ?_
  rw [hsz]
  refine Ent.condD (fun hlt => ?_) fun hge => ?_
  · obtain ⟨x, hx⟩ : ∃ x, s[k]? = some x := ⟨_, List.getElem?_eq_getElem (by omega)⟩
    have hd : s.drop k = x :: s.drop (k + 1) := by
      have hl2 := (List.getElem?_eq_some_iff.1 hx).1
      rw [List.drop_eq_getElem_cons hl2, (List.getElem?_eq_some_iff.1 hx).2]
    rw [hd, rl_cons] at f8
    refine oIx (by omega) (by rw [Int.toNat_natCast]; exact hx) ?_
    refine Ent.condE (fun hc => ?_) fun hc => ?_
    · have hx10 : x = 10 := UInt8.toNat_inj.1 (by simpa using (by omega : x.toNat = 10))
      rw [if_pos hx10] at f8
      refine Ent.opS (st_slSB2 (l := s) (by omega) (by omega)).still ?_
      refine Ent.app1 (sz := 1) (cs := [.string (ba ((s.take k).drop f))]) (fun a2 c2 => ?_)
      refine Ent.war ?_
      refine Ent.war ?_
      refine (hj2 (N - 1) (by omega) _ _ _).imp ?_
      refine Imp.exs (L ++ [(s.take k).drop f], a2, c2, k + 1, k + 1) (Imp.g2 (Imp.pur ⟨(by dsimp only; rw [← la]), (by dsimp only; omega), (by dsimp only; omega), Nat.le_refl _, (by dsimp only; omega), (by dsimp only; omega), (by dsimp only; rw [← la]; omega), ?_⟩ ?_))
      · dsimp only
        rw [f8, List.drop_of_length_le (l := s.take (k + 1)) (by rw [List.length_take]; omega), List.append_assoc]; rfl
      · dsimp only
        rw [sa, ← la]
        exact Imp.refl _
    · have hxn : x ≠ 10 := fun hh => hc (by rw [hh]; rfl)
      rw [if_neg hxn] at f8
      refine Ent.war ?_
      refine (hj2 (N - 1) (by omega) _ _ _).imp ?_
      refine Imp.exs (L, a, c, f, k + 1) (Imp.g2 (Imp.pur ⟨rfl, rfl, (by dsimp only; omega), (by dsimp only; omega), (by dsimp only; omega), (by dsimp only; omega), (by dsimp only; omega), ?_⟩ (Imp.refl _)))
      dsimp only
      have e1 : (s.take (k + 1)).drop f = (s.take k).drop f ++ [x] := by
        rw [take_snoc hx, List.drop_append_of_le_length (by rw [List.length_take]; omega)]
      rw [e1]; exact f8
  · obtain rfl : k = s.length := by omega
    rw [List.drop_length, List.take_length, rl_nil] at f8
    refine Ent.wlenS ?_
    rw [hsz]
    refine Ent.condD (fun hlt => ?_) fun hge2 => ?_
    · have hne : s.drop f ≠ [] := fun hh => by
        have := congrArg List.length hh
        rw [List.length_drop] at this
        simp at this; omega
      rw [if_neg hne] at f8
      refine Ent.opS (st_slSL (l := s) rfl (by omega) (by omega)).still ?_
      rw [Int.toNat_natCast]
      refine Ent.app1 (sz := 1) (cs := [.string (ba (s.drop f))]) (fun a2 c2 => ?_)
      rw [sa, la]
      rw [f8] at h
      exact h a2 c2
    · have hnil : s.drop f = [] := List.drop_of_length_le (by omega)
      rw [if_pos hnil, List.append_nil] at f8
      rw [f8] at h
      exact h a c
theorem refparse_spec {K : Value → Int → Int → WP} {s : Bs} (hs : s.length ≤ 1048576) (h3 : 131072 < s.length → Ent e (Sl.ro M :: rest) (K (.slice none 0 0) 0 3))
    (h5 : ∀ k x M', s.length ≤ 131072 → (lns s)[k]? = some x → okTo s k → evOk x = false → Hp.le M M' → Ent e (Sl.ro M' :: rest) (K (.slice none 0 0) ((k : Int) + 1) 5))
    (h0 : ∀ (xs : List Ev) a c M', s.length ≤ 131072 → okTo s (lns s).length → xs.map dEv = (lns s).map (fun x => (evR x).1) → Hp.le M M' → (∀ x ∈ xs, EvM M' x) → Ent e (SlO a xs.length c 4 (evcs xs) :: Sl.ro M' :: rest) (K (.slice a xs.length c) 0 0)) :
    Ent e (Sl.ro M :: rest) (ref31_Parse (ba s) K) := by
  have hsz : ((ba s).size : Int) = (s.length : Int) := by simp [ByteArray.size]
  have hll : (lns s).length ≤ s.length + 1 := lns_len s []
  have hrl := rl_len s
  (refine Ent.fn ref31_Parse_ok ?_; unfold ref31_Parse_sh)
  refine Ent.wlenS ?_
  rw [hsz]
  refine Ent.condD (fun hl => h3 (by omega)) fun hl => ?_
  refine reflines_spec hs fun la lc => ?_
  obtain ⟨L, en, hL⟩ : ∃ L en, rl [] s = (L, en) := ⟨_, _, rfl⟩
  have hat := @rl_at s
  have hpc := rl_piece s []
  rw [hL] at hrl hat hpc ⊢
  dsimp only at hrl hat hpc ⊢
  refine Ent.keepS fun M1 hM1 hrL _ _ _ => ?_
  refine Ent.loop2 (k0 := .raw) (k1 := .int .i64) (fun N (l : Value) (i : Int) => (exs fun (y : Hp × List Ev × Option Addr × Nat) => sepL [pur (l = .slice y.2.2.1 y.2.1.length y.2.2.2 ∧ i = (y.2.1.length : Int) ∧ y.2.1.length ≤ L.length ∧ N = L.length - y.2.1.length ∧ Hp.le M1 y.1 ∧ okTo s y.2.1.length ∧
      y.2.1.map dEv = ((lns s).take y.2.1.length).map (fun x => (evR x).1) ∧ (∀ x ∈ y.2.1, EvM y.1 x)), SlO y.2.2.1 y.2.1.length y.2.2.2 4 (evcs y.2.1), Sl.ro y.1]) :: rest) L.length ?_ fun N j2 hj2 l i => ?_
  · refine Imp.trans (Imp.slN (sz := 4) (Imp.refl _)) ?_
    exact Imp.exs (M1, [], none, 0) (Imp.g3 (Imp.pur ⟨rfl, rfl, Nat.zero_le _, rfl, Hp.le_refl _, fun x hx => by simp at hx, rfl, fun x hx => by cases hx⟩ (Imp.refl _)))
  refine Ent.exs fun ⟨M2, ys, a, c⟩ => Ent.g3 (Ent.pur fun ⟨f1, f2, f3, f4, f5, f6, f7, f8⟩ => ?_)
  dsimp only at f1 f2 f3 f4 f5 f6 f7 f8
  dsimp only
  subst f1 f2
  refine Ent.wlen ?_
  refine Ent.condD (fun hlt => ?_) fun hge => ?_
  · obtain ⟨y, hy⟩ : ∃ y, L[ys.length]? = some y := ⟨_, List.getElem?_eq_getElem (by omega)⟩
    have hy' : L[((ys.length : Nat) : Int).toNat]? = some y := hy
    have hyl := hpc y (List.mem_of_getElem? hy)
    obtain ⟨q1, q2⟩ := hat hy
    refine Ent.wiSm (f := fun b => .string (ba b)) (xs := L) (y := y) ?_ (hr := hrL.mono f5) (hx := hy')
    refine refevent_spec (s := y) (by simp at hyl; omega) fun x ok hx h1 h2 => ?_
    obtain ⟨g1, g2⟩ := line_same hx h1 h2
    refine Ent.alloc' fun eb => ?_
    refine Ent.wstoA (l' := evC x) ?_ (vs := evC x) (hl := rfl) (hu := by (repeat (first | exact Upd.hd | apply Upd.tl)))
    -- is the line an event's?
    obtain ⟨z, hz, hzo⟩ : ∃ z, (lns s)[ys.length]? = some z ∧ (evOk z = true → ok = true ∧ (en = true ∨ ys.length + 1 < L.length) ∧ dEv x = (evR z).1) ∧ (evOk z = false → ok = false ∨ en = false ∧ ys.length + 1 = L.length) := by
      by_cases hen : en = true ∨ ys.length + 1 < L.length
      · refine ⟨_, q1 hen, fun hh => ?_, fun hh => .inl (g1.trans hh)⟩
        have : ok = true := g1.trans hh
        exact ⟨this, hen, g2 this⟩
      · have he1 : en = false := by
          cases en with
          | true => exact absurd (.inl rfl) hen
          | false => rfl
        have he2 : ys.length + 1 = L.length := by
          have : ¬ ys.length + 1 < L.length := fun hh => hen (.inr hh)
          omega
        obtain ⟨q3, q4⟩ := q2 he1 he2
        refine ⟨_, q3, fun hh => ?_, fun _ => .inr ⟨he1, he2⟩⟩
        obtain ⟨r, hr⟩ := evOk_end hh
        exact absurd (by rw [hr]; simp) q4
    refine Ent.join1 (kd := .bool) (fun v => pur (v = !evOk z) :: pt eb (evC x) :: SlO x.a x.b.length x.c 1 (u8 x.b) :: SlO a ys.length c 4 (evcs ys) :: Sl.ro M2 :: rest) ?_ ?_
    rotate_left
    · intro j3 hj3
      have t1 : ∀ v : Bool, v = !evOk z → Ent e (pt eb (evC x) :: SlO x.a x.b.length x.c 1 (u8 x.b) :: SlO a ys.length c 4 (evcs ys) :: Sl.ro M2 :: rest) (j3 v) := fun v hv => (hj3 v).imp (Imp.pur hv (Imp.refl _))
      refine Ent.cond (fun hc => t1 _ ?_) fun hc => ?_
      · have ho : ok = false := by simpa using hc
        cases hzz : evOk z with
        | false => rfl
        | true => rw [(hzo.1 hzz).1] at ho; cases ho
      have ho : ok = true := by simpa using hc
      refine Ent.cond (fun hc2 => ?_) fun hc2 => t1 _ ?_
      · have he : en = false := by simpa using hc2
        refine Ent.wlen ?_
        refine Ent.war ?_
        refine t1 _ ?_
        cases hzz : evOk z with
        | true =>
          have h9 := (hzo.1 hzz).2.1
          rw [he] at h9
          have h10 : ys.length + 1 < L.length := by
            rcases h9 with h9 | h9
            · cases h9
            · exact h9
          exact beq_eq_false_iff_ne.2 (by omega)
        | false =>
          have h9 := hzo.2 hzz
          rw [ho] at h9
          have h10 : ys.length + 1 = L.length := by
            rcases h9 with h9 | h9
            · cases h9
            · exact h9.2
          exact beq_iff_eq.2 (by omega)
      · have he : en = true := by simpa using hc2
        cases hzz : evOk z with
        | true => rfl
        | false =>
          have h9 := hzo.2 hzz
          rw [ho, he] at h9
          rcases h9 with h9 | h9
          · cases h9
          · cases h9.1
    intro v
    refine Ent.pur fun hv => ?_
    subst hv
    cases hzz : evOk z with
    | false =>
      refine Ent.wT ?_
      refine Ent.war ?_
      exact (h5 ys.length z M2 (by omega) hz f6 hzz (Hp.le_trans hM1 f5)).imp (by (focus ((repeat ((with_reducible apply Imp.pick); (repeat (first | exact Pick.hd | apply Pick.tl)))); (repeat (first | exact Imp.refl _ | exact Imp.nil _ | apply Imp.drop)); done)))
    | true =>
      obtain ⟨_, _, hd⟩ := hzo.1 hzz
      refine Ent.wF ?_
      refine Ent.wlA (cs := evC x) ?_
      refine Ent.app1 (sz := 4) (cs := evC x) (fun a2 c2 => ?_) (hp := .tl (.tl .hd))
      refine Ent.war ?_
      refine Ent.imp (ctx' := SlO x.a x.b.length x.c 1 (u8 x.b) :: Sl.ro M2 :: SlO a2 (ys.length + 1) c2 4 (evcs ys ++ evC x) :: rest) (by (focus ((repeat ((with_reducible apply Imp.pick); (repeat (first | exact Pick.hd | apply Pick.tl)))); (repeat (first | exact Imp.refl _ | exact Imp.nil _ | apply Imp.drop)); done))) ?_
      refine Ent.keepS fun M3 hM3 hrm _ _ _ => ?_
      refine (hj2 (N - 1) (by omega) _ _).imp ?_
      refine Imp.exs (M3, ys ++ [x], a2, c2) (Imp.g3 (Imp.pur ⟨by simp, by simp, by simp; omega, by simp; omega, Hp.le_trans f5 hM3, ?_, ?_, fun y hy => ?_⟩ ?_))
      · rw [List.length_append]
        exact okTo_next f6 hz hzz
      · dsimp only
        rw [List.length_append, List.length_singleton, take_snoc hz, List.map_append, List.map_append, f7]
        simp only [List.map_cons, List.map_nil, hd]
      · rcases List.mem_append.1 hy with hy | hy
        · exact (f8 y hy).mono hM3
        · rw [List.mem_singleton.1 hy]; exact ⟨hrm, hx⟩
      · dsimp only
        have e1 : (ys ++ [x]).length = ys.length + 1 := by simp
        have e2 : evcs (ys ++ [x]) = evcs ys ++ evC x := by rw [evcs_app]; simp [evcs]
        rw [e1, e2]
        (focus ((repeat ((with_reducible apply Imp.pick); (repeat (first | exact Pick.hd | apply Pick.tl)))); (repeat (first | exact Imp.refl _ | exact Imp.nil _ | apply Imp.drop)); done))
  · have hye : ys.length = (lns s).length := by omega
    rw [hye] at f6 f7
    rw [List.take_length] at f7
    exact (h0 ys a c M2 (by omega) f6 f7 (Hp.le_trans hM1 f5) f8)
end
end Go.Proofs.YtoneapgooihajaaGreatDoor.Qa
