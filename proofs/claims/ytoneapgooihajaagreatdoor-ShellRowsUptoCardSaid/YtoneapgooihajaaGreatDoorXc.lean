/-
  READING ROWS (layer 31): ParseRows.
-/
import Derived.Test.YtoneapgooihajaaGreatDoorXb
set_option maxRecDepth 100000
set_option linter.unusedVariables false
set_option linter.unusedSectionVars false
set_option linter.unusedSimpArgs false
set_option maxHeartbeats 0
namespace Go.Proofs.YtoneapgooihajaaGreatDoor.Qa
open Go Sh Sl
open Go.RowKit
attribute [local irreducible] condK ArK NilK OpK FnK StK joinK loopK DrawK andK PuK NxK EnK vS uS bS callS invokeS
theorem rwcs_app (a b : List Rw) : rwcs (a ++ b) = rwcs a ++ rwcs b := by simp [rwcs]
theorem rwcs_one (x : Rw) : rwcs [x] = rwC x := by simp [rwcs]
theorem scs_app (a b : List Se) : scs (a ++ b) = scs a ++ scs b := by simp [scs]
/-- a thing that went out, whose bytes lie still -/
structure SeM (M : Hp) (y : Se) : Prop where
  t : I64 y.1
  o : OuR y.2
  r : RdM M y.2.a (u8 y.2.d)
theorem SeM.mono {M M' : Hp} {y : Se} (h : SeM M y) (hl : Hp.le M M') : SeM M' y := ⟨h.t, h.o, h.r.mono hl⟩
/-- a row but for its row of things -/
structure RwL (M : Hp) (x : Rw) : Prop where
  er : I64 x.er
  l : ∀ y ∈ x.l, SeM M y
theorem RwL.mono {M M' : Hp} {x : Rw} (h : RwL M x) (hl : Hp.le M M') : RwL M' x := ⟨h.er, fun y hy => (h.l y hy).mono hl⟩
/-- a row that lies still -/
structure RwM (M : Hp) (x : Rw) : Prop where
  b : RwL M x
  r : RdM M x.a (scs x.l)
theorem RwM.mono {M M' : Hp} {x : Rw} (h : RwM M x) (hl : Hp.le M M') : RwM M' x := ⟨h.b.mono hl, h.r.mono hl⟩
theorem RwM.rwr {M : Hp} {x : Rw} {ctx : List HProp} (h : RwM M x) (hM : Has ctx (Sl.ro M)) (hn : x.l.length ≤ 1048576) : RwR ctx x :=
  ⟨h.b.er, h.r.rd hM, fun y hy => ⟨(h.b.l y hy).t, (h.b.l y hy).o, (h.b.l y hy).r.rd hM⟩, hn⟩
/-- the last row's things are owned -/
def own (rs : List Rw) : HProp := match rs.getLast? with
  | some x => SlO x.a x.l.length x.c 7 (scs x.l)
  | none => SlO none 0 0 7 []
theorem own_snoc (rs : List Rw) (x : Rw) : own (rs ++ [x]) = SlO x.a x.l.length x.c 7 (scs x.l) := by simp [own]
theorem own_nil : own [] = SlO none 0 0 7 [] := rfl
/-- what is known of the rows read -/
def RsF (M : Hp) (rs : List Rw) : Prop := (∀ x ∈ rs.dropLast, RwM M x) ∧ ∀ x ∈ rs, RwL M x
theorem RsF.mono {M M' : Hp} {rs : List Rw} (h : RsF M rs) (hl : Hp.le M M') : RsF M' rs := ⟨fun x hx => (h.1 x hx).mono hl, fun x hx => (h.2 x hx).mono hl⟩
theorem slO_re {b n c sz : Nat} {l r : List Value} (h1 : n ≤ c) (h2 : c * sz ≤ (l ++ r).length) (h3 : l.length = n * sz) {ctx : List HProp} : Imp (pt b (l ++ r) :: ctx) (SlO (some ⟨b, 0, none⟩) n c sz l :: ctx) := fun _ k =>
  sepL_cons (fun h hp => ⟨h3, .inr ⟨b, r, rfl, h1, h2, hp⟩⟩) (fun _ z => z) k
section
variable {e : Env} {ctx rest R : List HProp} {M : Hp}
/-- the last row's things are let go -/
theorem own_keep {rs : List Rw} {p : WP} (hF : RsF M rs) (h : ∀ M', Hp.le M M' → (∀ x ∈ rs, RwM M' x) → Ent e (Sl.ro M' :: rest) p) : Ent e (own rs :: Sl.ro M :: rest) p := by
  rcases List.eq_nil_or_concat rs with rfl | ⟨pre, x, rfl⟩
  · rw [own_nil]
    exact (h M (Hp.le_refl _) fun x hx => by cases hx).drop
  · rw [List.concat_eq_append] at hF h ⊢
    rw [own_snoc]
    refine Ent.keepS fun M' hM' hr _ _ _ => h M' hM' fun y hy => ?_
    rcases List.mem_append.1 hy with hy | hy
    · refine (hF.1 y ?_).mono hM'
      rw [List.dropLast_concat]; exact hy
    · rw [List.mem_singleton.1 hy]
      exact ⟨(hF.2 x (by simp)).mono hM', hr⟩
theorem at_row (pre : List Rw) (x : Rw) (r : List Value) (o : Nat) (ho : o < 3) : (rwcs (pre ++ [x]) ++ r)[pre.length * 3 + o]? = (rwC x)[o]? := by
  rw [rwcs_app, rwcs_one, List.append_assoc, List.getElem?_append_right (by rw [rwcs_len]; omega), rwcs_len, Nat.add_sub_cancel_left, List.getElem?_append_left (by simpa using ho)]
theorem set_row (pre : List Rw) (x : Rw) (r : List Value) (v : Value) : (rwcs (pre ++ [x]) ++ r).set (pre.length * 3 + 2) v = rwcs pre ++ ((rwC x).set 2 v) ++ r := by
  rw [rwcs_app, rwcs_one, List.append_assoc, List.set_append_right _ _ (by rw [rwcs_len]; omega), rwcs_len, Nat.add_sub_cancel_left, List.set_append_left _ _ (by simp), ← List.append_assoc]
theorem parserows_spec {K : Value → Int → Int → WP} {s : Bs} (hs : s.length ≤ 1048576) (hG : GL e rest) (h3 : 131072 < s.length → Ent e (Sl.ro M :: rest) (K (.slice none 0 0) 0 3))
    (h5 : ∀ k x st M', s.length ≤ 131072 → (lns s)[k]? = some x → rgo [] ((lns s).take k) = some st → rstep st x = none → Hp.le M M' → Ent e (Sl.ro M' :: rest) (K (.slice none 0 0) ((k : Int) + 1) 5))
    (h0 : ∀ (rs : List Rw) a c M', s.length ≤ 131072 → rgo [] (lns s) = some (rs.map dRw) → Hp.le M M' → (∀ x ∈ rs, RwM M' x) → Ent e (SlO a rs.length c 3 (rwcs rs) :: Sl.ro M' :: rest) (K (.slice a rs.length c) 0 0)) :
    Ent e (Sl.ro M :: rest) (shell_ParseRows (ba s) K) := by
  (refine Ent.fn shell_ParseRows_ok ?_; unfold shell_ParseRows_sh)
  have hsz : ((ba s).size : Int) = (s.length : Int) := by simp [ByteArray.size]
  refine Ent.alloc' fun t2 => ?_
  refine Ent.alloc' fun t3 => ?_
  refine Ent.alloc' fun t4 => ?_
  refine Ent.wlenS ?_
  rw [hsz]
  refine Ent.condD (fun hl => ?_) fun hl => ?_
  · (refine Ent.go ?_)
    refine ldv ?_
    refine ldi ?_
    refine ldi ?_
    exact (h3 (by omega)).drop.drop.drop
  refine Ent.alloc' fun lc => ?_
  refine Ent.alloc' fun nc => ?_
  refine Ent.wsto (l' := [.int .i64 0]) ?_ (hl := rfl) (hu := by (repeat (first | exact Upd.hd | apply Upd.tl)))
  (refine Ent.fn strings_Lines_ok ?_; unfold strings_Lines_sh)
  refine Ent.box' fun sb => ?_
  refine Ent.rf callable_lines (args := fun q => [.func (.yield (q + 1)) #[] #[], ptr sb]) (fun q => rfl) fun q r0 hr => ?_
  have hpl := lns_piece s []
  have hll := lns_len s []
  have hll' : (lns s).length ≤ s.length + 1 := hll
  have stl : ∀ {k : Nat} {st : List dR}, rgo [] ((lns s).take k) = some st → st.length ≤ (lns s).length ∧ ∀ d ∈ st, d.2.2.length ≤ (lns s).length := fun {k st} h => by
    obtain ⟨g1, g2⟩ := rgo_len _ [] st 0 (fun d hd => by cases hd) h
    rw [List.length_take] at g1 g2
    exact ⟨by simp at g1; omega, fun d hd => by have := g2 d hd; omega⟩
  -- what stands at a line
  let St : Nat → HProp := fun k => exs fun (y : Hp × List Rw × Option Addr × Nat) => sepL [pur (Hp.le M y.1 ∧ rgo [] ((lns s).take k) = some (y.2.1.map dRw) ∧ RsF y.1 y.2.1), pt lc [.slice y.2.2.1 y.2.1.length y.2.2.2], SlO y.2.2.1 y.2.1.length y.2.2.2 3 (rwcs y.2.1), own y.2.1, pt nc [.int .i64 (k : Int)], Sl.ro y.1]
  have hSt : St = fun k => exs fun (y : Hp × List Rw × Option Addr × Nat) => sepL [pur (Hp.le M y.1 ∧ rgo [] ((lns s).take k) = some (y.2.1.map dRw) ∧ RsF y.1 y.2.1), pt lc [.slice y.2.2.1 y.2.1.length y.2.2.2], SlO y.2.2.1 y.2.1.length y.2.2.2 3 (rwcs y.2.1), own y.2.1, pt nc [.int .i64 (k : Int)], Sl.ro y.1] := rfl
  have mk : ∀ (k : Nat) (M1 : Hp) (rs : List Rw) (a : Option Addr) (c : Nat) (G : List HProp), Hp.le M M1 → rgo [] ((lns s).take k) = some (rs.map dRw) → RsF M1 rs →
      Imp (pt lc [.slice a rs.length c] :: SlO a rs.length c 3 (rwcs rs) :: own rs :: pt nc [.int .i64 (k : Int)] :: Sl.ro M1 :: G) (St k :: G) := fun k M1 rs a c G g1 g2 g3 => by
    rw [hSt]
    exact Imp.exs (M1, rs, a, c) (Imp.g6 (Imp.pur ⟨g1, g2, g3⟩ (Imp.refl _)))
  clear_value St
  refine Ent.imp (ctx' := Sl.ob (q + 1) (lp r0 .ready none) :: pt sb [.string (ba s)] :: St 0 :: pt t2 [.slice none 0 0] :: pt t3 [.int .i64 0] :: pt t4 [.int .i64 0] :: Sl.ob q (.deferred (some [])) :: rest) ?_ ?_
  · refine Imp.trans (b := St 0 :: Sl.ob (q + 1) (lp r0 .ready none) :: pt sb [.string (ba s)] :: pt t2 [.slice none 0 0] :: pt t3 [.int .i64 0] :: pt t4 [.int .i64 0] :: Sl.ob q (.deferred (some [])) :: rest) ?_ (by (focus ((repeat ((with_reducible apply Imp.pick); (repeat (first | exact Pick.hd | apply Pick.tl)))); (repeat (first | exact Imp.refl _ | exact Imp.nil _ | apply Imp.drop)); done)))
    refine Imp.trans ?_ (mk 0 M [] none 0 _ (Hp.le_refl _) rfl ⟨fun x hx => (by cases hx), fun x hx => (by cases hx)⟩)
    rw [own_nil]
    refine Imp.trans (Imp.slN (sz := 7) (Imp.slN (sz := 3) (Imp.refl _))) ?_
    show Imp (SlO none 0 0 7 [] :: SlO none 0 0 3 [] :: _) (pt lc [.slice none 0 0] :: SlO none 0 0 3 [] :: SlO none 0 0 7 [] :: _)
    (focus ((repeat ((with_reducible apply Imp.pick); (repeat (first | exact Pick.hd | apply Pick.tl)))); (repeat (first | exact Imp.refl _ | exact Imp.nil _ | apply Imp.drop)); done))
  refine lines_iter hs (fun k => St k :: pt t2 [.slice none 0 0] :: pt t3 [.int .i64 0] :: pt t4 [.int .i64 0] :: Sl.ob q (.deferred (some [])) :: rest)
    ((exs fun (y : Hp × Nat × Bs × List dR) => sepL [pur (Hp.le M y.1 ∧ (lns s)[y.2.1]? = some y.2.2.1 ∧ rgo [] ((lns s).take y.2.1) = some y.2.2.2 ∧ rstep y.2.2.2 y.2.2.1 = none), pt t2 [.slice none 0 0], pt t3 [.int .i64 ((y.2.1 : Int) + 1)], pt t4 [.int .i64 5], Sl.ro y.1]) :: Sl.ob q (.deferred (some [])) :: rest) (fun k x s' cc hx hnext hstop => ?_) ?_ ?_
  · refine Ent.imp (ctx' := St k :: Sl.ob (q + 1) (lp r0 .ready none) :: pt sb [.string (ba s')] :: pt t2 [.slice none 0 0] :: pt t3 [.int .i64 0] :: pt t4 [.int .i64 0] :: Sl.ob q (.deferred (some [])) :: rest) (by (focus ((repeat ((with_reducible apply Imp.pick); (repeat (first | exact Pick.hd | apply Pick.tl)))); (repeat (first | exact Imp.refl _ | exact Imp.nil _ | apply Imp.drop)); done))) ?_
    rw [hSt]
    refine Ent.exs fun ⟨M1, rs, a, c⟩ => Ent.g6 (Ent.pur fun ⟨f1, f2, f3⟩ => ?_)
    dsimp only at f1 f2 f3
    dsimp only
    have hxl := hpl x (List.mem_of_getElem? hx)
    have hxl' : x.length ≤ 131072 := by simp at hxl; omega
    have hkl := (List.getElem?_eq_some_iff.1 hx).1
    obtain ⟨b1, b2⟩ := stl f2
    rw [List.length_map] at b1
    have hst : ∀ {st'}, rstep (rs.map dRw) x = some st' → rgo [] ((lns s).take (k + 1)) = some st' := fun {st'} h => (rgo_snoc f2 hx).trans h
    refine Ent.yield hr (by (repeat (first | exact Has.hd | apply Has.tl))) ?_
    show Ent e _ (BgK P _ _)
    refine Ent.bg (by (repeat (first | exact Upd.hd | apply Upd.tl))) ?_
    refine Ent.wlI ?_
    refine Ent.war ?_
    refine Ent.wsto (l' := [.int .i64 ((k : Int) + 1)]) ?_ (hl := rfl) (hu := by (repeat (first | exact Upd.hd | apply Upd.tl)))
    -- the ways out
    have stop : rstep (rs.map dRw) x = none → ∀ G : List HProp, Imp G (pt nc [.int .i64 ((k : Int) + 1)] :: Sl.ob (q + 1) (lp r0 .busy none) :: pt t2 [.slice none 0 0] :: pt t3 [.int .i64 0] :: pt t4 [.int .i64 0] :: Sl.ro M1 :: Sl.ob q (.deferred (some [])) :: rest) →
        Ent e G (DrawK fun S => sI S .i64 (vS (Instr.loadAt 3 (ptr nc))) fun t53 => sto 39 (ptr t2) (.slice none 0 0) <| andK S <| sto 3 (ptr t3) (.int .i64 t53) <| sto 23 (ptr t4) (.int .i64 5) <| DnK (q + 1) cc (some .ret)) := fun hno G hG2 => by
      refine Ent.imp hG2 ?_
      refine Ent.draw [pt nc [.int .i64 ((k : Int) + 1)]] (by (focus ((repeat ((with_reducible apply Imp.pick); (repeat (first | exact Pick.hd | apply Pick.tl)))); (repeat (first | exact Imp.refl _ | exact Imp.nil _ | apply Imp.drop)); done))) ?_
      refine Ent.wsI ?_
      refine Ent.wsto (l' := [.slice none 0 0]) ?_ (hl := rfl) (hu := by (repeat (first | exact Upd.hd | apply Upd.tl)))
      refine Ent.wand ?_
      refine Ent.wsto (l' := [.int .i64 ((k : Int) + 1)]) ?_ (hl := rfl) (hu := by (repeat (first | exact Upd.hd | apply Upd.tl)))
      refine Ent.wsto (l' := [.int .i64 5]) ?_ (hl := rfl) (hu := by (repeat (first | exact Upd.hd | apply Upd.tl)))
      refine Ent.dnJ (by (repeat (first | exact Upd.hd | apply Upd.tl))) ?_
      refine Ent.imp ?_ hstop
      refine Imp.trans ?_ (Imp.perm (.swap _ _ _))
      refine Imp.exs (M1, k, x, rs.map dRw) (Imp.g5 (Imp.pur ⟨f1, hx, f2, hno⟩ ?_))
      (focus ((repeat ((with_reducible apply Imp.pick); (repeat (first | exact Pick.hd | apply Pick.tl)))); (repeat (first | exact Imp.refl _ | exact Imp.nil _ | apply Imp.drop)); done))
    refine hasPrefix_spec (s := x) (p := [62]) ?_
    have hpre : Lib.hasPrefix x [62] = decide (x.head? = some 62) := by
      cases x with
      | nil => rfl
      | cons d r =>
        rw [List.head?_cons]
        by_cases hd : d = 62
        · subst hd; simp [Lib.hasPrefix]
        · rw [decide_eq_false (fun hh => hd (Option.some.inj hh))]
          show ((62 : UInt8) == d && _) = false
          rw [beq_eq_false_iff_ne.2 (Ne.symm hd)]; rfl
    rw [hpre]
    refine Ent.condD (fun hgt => ?_) fun hgt => ?_
    · refine sent_spec (s := x) (by omega) (hG.mono (by (focus (repeat (first | exact Imp.refl _ | exact Imp.nil _ | apply Imp.drop))))) fun y hy1 hy2 hy3 => ?_
      refine Ent.alloc' fun xb => ?_
      refine Ent.wstoA (l' := sC y) ?_ (vs := sC y) (hl := rfl) (hu := by (repeat (first | exact Upd.hd | apply Upd.tl)))
      refine Ent.wlR ?_
      refine Ent.wlen ?_
      refine Ent.war ?_
      rcases List.eq_nil_or_concat rs with rfl | ⟨pre, z, rfl⟩
      · have hno : rstep (([] : List Rw).map dRw) x = none := by
          unfold rstep
          rw [if_pos hgt]; rfl
        refine Ent.join1 (kd := .bool) (fun v => pur (v = true) :: pt nc [.int .i64 ((k : Int) + 1)] :: Sl.ob (q + 1) (lp r0 .busy none) :: pt t2 [.slice none 0 0] :: pt t3 [.int .i64 0] :: pt t4 [.int .i64 0] :: Sl.ro M1 :: Sl.ob q (.deferred (some [])) :: rest) ?_ ?_
        rotate_left
        · intro j2 hj2
          refine Ent.cond (fun _ => (hj2 _).imp (Imp.pur rfl (by (focus ((repeat ((with_reducible apply Imp.pick); (repeat (first | exact Pick.hd | apply Pick.tl)))); (repeat (first | exact Imp.refl _ | exact Imp.nil _ | apply Imp.drop)); done))))) fun _ => ?_
          refine Ent.wT ?_
          exact (hj2 _).imp (Imp.pur rfl (by (focus ((repeat ((with_reducible apply Imp.pick); (repeat (first | exact Pick.hd | apply Pick.tl)))); (repeat (first | exact Imp.refl _ | exact Imp.nil _ | apply Imp.drop)); done))))
        intro v
        refine Ent.pur fun hv => ?_
        subst hv
        refine Ent.wT ?_
        exact stop hno _ (Imp.refl _)
      rw [List.concat_eq_append] at f2 f3 b1 b2 hst stop ⊢
      have hlen1 : (pre ++ [z]).length = pre.length + 1 := by simp
      have hmap : (pre ++ [z]).map dRw = pre.map dRw ++ [dRw z] := by simp
      have hzb : z.l.length ≤ 131074 := by
        have := b2 (dRw z) (by rw [hmap]; simp)
        have e1 : (dRw z).2.2.length = z.l.length := by simp [dRw]
        omega
      have hstep : rstep ((pre ++ [z]).map dRw) x = if sentOk x = true ∧ z.k = 8 ∧ z.er = 0 then some (pre.map dRw ++ [(z.k, z.er, (dRw z).2.2 ++ [(sentR x).1])]) else none := by
        unfold rstep
        rw [if_pos hgt, hmap, List.getLast?_append, List.getLast?_singleton, List.dropLast_concat]
        rfl
      rw [own_snoc]
      refine Ent.bring (A := SlO a (pre ++ [z]).length c 3 (rwcs (pre ++ [z]))) ?_
      refine SlO.open2 (fun b r hc hcr ha => ?_) (fun _ hh _ => by rw [hlen1] at hh; omega)
      subst ha
      have hi : (((pre ++ [z]).length : Nat) : Int) - 1 = (pre.length : Int) := by rw [hlen1]; omega
      rw [hi]
      have z0 := at_row pre z r 0 (by omega)
      have z1 := at_row pre z r 1 (by omega)
      have z2 := at_row pre z r 2 (by omega)
      refine Ent.join1 (kd := .bool) (fun v => pur (v = !decide (sentOk x = true ∧ z.k = 8 ∧ z.er = 0)) :: pt b (rwcs (pre ++ [z]) ++ r) :: pt xb (sC y) :: SlO y.2.a y.2.d.length y.2.cp 1 (u8 y.2.d) :: pt nc [.int .i64 ((k : Int) + 1)] :: Sl.ob (q + 1) (lp r0 .busy none) :: pt lc [.slice (some ⟨b, 0, none⟩) (pre ++ [z]).length c] :: SlO z.a z.l.length z.c 7 (scs z.l) :: Sl.ro M1 :: pt sb [.string (ba s')] :: pt t2 [.slice none 0 0] :: pt t3 [.int .i64 0] :: pt t4 [.int .i64 0] :: Sl.ob q (.deferred (some [])) :: rest) ?_ ?_
      rotate_left
      · intro j2 hj2
        refine Ent.cond (fun hc1 => (hj2 _).imp (Imp.pur ?_ (by (focus ((repeat ((with_reducible apply Imp.pick); (repeat (first | exact Pick.hd | apply Pick.tl)))); (repeat (first | exact Imp.refl _ | exact Imp.nil _ | apply Imp.drop)); done))))) fun hc1 => ?_
        · have : sentOk x = false := by simpa using hc1
          rw [decide_eq_false fun hh => by rw [this] at hh; cases hh.1]; rfl
        have ho : sentOk x = true := by simpa using hc1
        refine Ent.wF ?_
        refine Ent.wlR ?_
        refine Ent.opR (st_ixN (i := pre.length) rfl rfl (by omega)).still ?_
        refine Ent.wfI (v := z.k) (k := .i64) ?_ (hv := by rw [Nat.zero_add]; exact z0)
        refine Ent.cond (fun hc2 => (hj2 _).imp (Imp.pur ?_ (by (focus ((repeat ((with_reducible apply Imp.pick); (repeat (first | exact Pick.hd | apply Pick.tl)))); (repeat (first | exact Imp.refl _ | exact Imp.nil _ | apply Imp.drop)); done))))) fun hc2 => ?_
        · rw [decide_eq_false fun hh => by rw [hh.2.1] at hc2; simp at hc2]; rfl
        have hk8 : z.k = 8 := by simpa using hc2
        refine Ent.wlR ?_
        refine Ent.opR (st_ixN (i := pre.length) rfl rfl (by omega)).still ?_
        refine Ent.wfI (v := z.er) (k := .i64) ?_ (hv := by rw [Nat.zero_add]; exact z1)
        refine (hj2 _).imp (Imp.pur ?_ (by (focus ((repeat ((with_reducible apply Imp.pick); (repeat (first | exact Pick.hd | apply Pick.tl)))); (repeat (first | exact Imp.refl _ | exact Imp.nil _ | apply Imp.drop)); done))))
        by_cases he : z.er = 0
        · rw [decide_eq_true ⟨ho, hk8, he⟩, he]; rfl
        · rw [decide_eq_false fun hh => he hh.2.2]
          exact bne_iff_ne.2 he
      intro v
      refine Ent.pur fun hv => ?_
      subst hv
      by_cases hgood : sentOk x = true ∧ z.k = 8 ∧ z.er = 0
      · rw [if_pos hgood] at hstep
        refine Ent.wF ?_ (by rw [decide_eq_true hgood]; rfl)
        refine Ent.draw [pt lc [.slice (some ⟨b, 0, none⟩) (pre ++ [z]).length c], pt b (rwcs (pre ++ [z]) ++ r), pt xb (sC y)] (by (focus ((repeat ((with_reducible apply Imp.pick); (repeat (first | exact Pick.hd | apply Pick.tl)))); (repeat (first | exact Imp.refl _ | exact Imp.nil _ | apply Imp.drop)); done))) ?_
        refine Ent.wsR ?_
        refine Ent.wsR ?_
        refine Ent.puR (st_ixN (i := pre.length) rfl rfl (by omega)) ?_
        refine Ent.wgR (v := .slice z.a z.l.length z.c) ?_ (hv := by rw [Nat.zero_add]; exact z2)
        refine Ent.stR (v := .agg (sC y).toArray) (st_loadA (n := 7) (cs := sC y) (.tl (.tl .hd)) rfl rfl rfl) ?_
        refine Ent.slice (out := sC y) rfl rfl rfl rfl (by decide) (by decide) (by rfl) fun b2 => ?_
        refine Ent.wand ?_
        refine Ent.appN (sz := 7) (by_ := 80) (m := 1) (Rd.pt .hd) (fun a3 c3 => ?_) (hl := rfl) (h1 := fun v hv => by
          simp only [List.mem_cons, List.not_mem_nil, or_false] at hv
          rcases hv with rfl | rfl | rfl | rfl | rfl | rfl | rfl <;> rfl)
        refine Ent.wand ?_
        refine Ent.puR (st_ixN (i := pre.length) rfl rfl (by omega)) ?_
        refine Ent.wqR ?_
        obtain ⟨z', hz'⟩ : ∃ z' : Rw, z' = ⟨z.k, z.er, a3, c3, z.l ++ [y]⟩ := ⟨_, rfl⟩
        have hzl : z'.l.length = z.l.length + 1 := by rw [hz']; simp
        have hoff : pre.length * 3 + 2 < (rwcs (pre ++ [z]) ++ r).length := by rw [List.length_append, rwcs_len, hlen1]; omega
        have hset : (rwcs (pre ++ [z]) ++ r).set (pre.length * 3 + 2) (.slice a3 (z.l.length + 1) c3) = rwcs (pre ++ [z']) ++ r := by
          rw [set_row, rwcs_app, rwcs_one]
          have : (rwC z).set 2 (.slice a3 (z.l.length + 1) c3) = rwC z' := by rw [hz']; simp
          rw [this]
        refine Ent.wsto (l := rwcs (pre ++ [z]) ++ r) (l' := rwcs (pre ++ [z']) ++ r) ?_ (hl := by rw [Nat.zero_add]; exact hset) (ho := by rw [Nat.zero_add]; exact hoff) (hu := by (repeat (first | exact Upd.hd | apply Upd.tl)))
        refine Ent.dn (by (repeat (first | exact Upd.hd | apply Upd.tl))) ?_
        refine Ent.imp (ctx' := SlO y.2.a y.2.d.length y.2.cp 1 (u8 y.2.d) :: Sl.ro M1 :: pt b (rwcs (pre ++ [z']) ++ r) :: SlO a3 (z.l.length + 1) c3 7 (scs z.l ++ sC y) :: pt nc [.int .i64 ((k : Int) + 1)] :: Sl.ob (q + 1) (lp r0 .ready none) :: pt lc [.slice (some ⟨b, 0, none⟩) (pre ++ [z]).length c] :: pt sb [.string (ba s')] :: pt t2 [.slice none 0 0] :: pt t3 [.int .i64 0] :: pt t4 [.int .i64 0] :: Sl.ob q (.deferred (some [])) :: rest) (by (focus ((repeat ((with_reducible apply Imp.pick); (repeat (first | exact Pick.hd | apply Pick.tl)))); (repeat (first | exact Imp.refl _ | exact Imp.nil _ | apply Imp.drop)); done))) ?_
        refine Ent.keepS fun M2 hM2 hrm _ _ _ => ?_
        refine Ent.imp ?_ hnext
        have hl2 : (pre ++ [z']).length = (pre ++ [z]).length := by simp
        have hdz : (pre ++ [z']).map dRw = pre.map dRw ++ [(z.k, z.er, (dRw z).2.2 ++ [(sentR x).1])] := by
          rw [List.map_append, hz', ← hy1]
          simp [dRw]
        have hF2 : RsF M2 (pre ++ [z']) := by
          refine ⟨fun w hw => ?_, fun w hw => ?_⟩
          · rw [List.dropLast_concat] at hw
            exact (f3.1 w (by rw [List.dropLast_concat]; exact hw)).mono hM2
          · rcases List.mem_append.1 hw with hw | hw
            · exact (f3.2 w (by simp [hw])).mono hM2
            · rw [List.mem_singleton.1 hw, hz']
              have hzf := (f3.2 z (by simp)).mono hM2
              refine ⟨hzf.er, fun v hv => ?_⟩
              rcases List.mem_append.1 hv with hv | hv
              · exact hzf.l v hv
              · rw [List.mem_singleton.1 hv]; exact ⟨hy2, hy3, hrm⟩
        refine Imp.trans (b := St (k + 1) :: Sl.ob (q + 1) (lp r0 .ready none) :: pt sb [.string (ba s')] :: pt t2 [.slice none 0 0] :: pt t3 [.int .i64 0] :: pt t4 [.int .i64 0] :: Sl.ob q (.deferred (some [])) :: rest) ?_ (by (focus ((repeat ((with_reducible apply Imp.pick); (repeat (first | exact Pick.hd | apply Pick.tl)))); (repeat (first | exact Imp.refl _ | exact Imp.nil _ | apply Imp.drop)); done)))
        refine Imp.trans ?_ (mk (k + 1) M2 (pre ++ [z']) (some ⟨b, 0, none⟩) c _ (Hp.le_trans f1 hM2) (hst (by rw [hstep, hdz])) hF2)
        rw [own_snoc, hl2, hzl]
        have hsc : scs z'.l = scs z.l ++ sC y := by rw [hz', scs_app]; simp [scs]
        have ha' : z'.a = a3 := by rw [hz']
        have hc' : z'.c = c3 := by rw [hz']
        rw [hsc, ha', hc']
        refine Imp.trans (b := pt b (rwcs (pre ++ [z']) ++ r) :: pt lc [.slice (some ⟨b, 0, none⟩) (pre ++ [z]).length c] :: SlO a3 (z.l.length + 1) c3 7 (scs z.l ++ sC y) :: pt nc [.int .i64 ((k : Int) + 1)] :: Sl.ro M2 :: Sl.ob (q + 1) (lp r0 .ready none) :: pt sb [.string (ba s')] :: pt t2 [.slice none 0 0] :: pt t3 [.int .i64 0] :: pt t4 [.int .i64 0] :: Sl.ob q (.deferred (some [])) :: rest) (by (focus ((repeat ((with_reducible apply Imp.pick); (repeat (first | exact Pick.hd | apply Pick.tl)))); (repeat (first | exact Imp.refl _ | exact Imp.nil _ | apply Imp.drop)); done))) ?_
        refine Imp.trans (slO_re (n := (pre ++ [z]).length) (c := c) (sz := 3) hc (by rw [List.length_append, rwcs_len] at hcr ⊢; rw [hl2]; exact hcr) (by rw [rwcs_len, hl2])) ?_
        show Imp _ (_ :: _ :: _ :: pt nc [.int .i64 (((k + 1 : Nat)) : Int)] :: _)
        rw [show (((k + 1 : Nat)) : Int) = (k : Int) + 1 by omega]
        (focus ((repeat ((with_reducible apply Imp.pick); (repeat (first | exact Pick.hd | apply Pick.tl)))); (repeat (first | exact Imp.refl _ | exact Imp.nil _ | apply Imp.drop)); done))
      · rw [if_neg hgood] at hstep
        refine Ent.wT ?_ (by rw [decide_eq_false hgood]; rfl)
        exact stop hstep _ (by (focus ((repeat ((with_reducible apply Imp.pick); (repeat (first | exact Pick.hd | apply Pick.tl)))); (repeat (first | exact Imp.refl _ | exact Imp.nil _ | apply Imp.drop)); done)))
    · refine row_spec (s := x) (by omega) (hG.mono (by (focus (repeat (first | exact Imp.refl _ | exact Imp.nil _ | apply Imp.drop))))) ?_
      obtain ⟨X, hX⟩ : ∃ X : Rw, X = ⟨(rowR x).1.1, (rowR x).1.2, none, 0, []⟩ := ⟨_, rfl⟩
      rw [← hX]
      have hstep : rstep (rs.map dRw) x = if rowOk x = true then some (rs.map dRw ++ [dRw X]) else none := by
        unfold rstep
        rw [if_neg hgt, hX]; rfl
      refine Ent.alloc' fun xb => ?_
      refine Ent.wstoA (l' := rwC X) ?_ (vs := rwC X) (hl := rfl) (hu := by (repeat (first | exact Upd.hd | apply Upd.tl)))
      refine Ent.cond (fun hc1 => ?_) fun hc1 => ?_
      · have hno : rowOk x = false := by simpa using hc1
        rw [if_neg (by rw [hno]; decide)] at hstep
        exact stop hstep _ (by (focus ((repeat ((with_reducible apply Imp.pick); (repeat (first | exact Pick.hd | apply Pick.tl)))); (repeat (first | exact Imp.refl _ | exact Imp.nil _ | apply Imp.drop)); done)))
      · have hok : rowOk x = true := by simpa using hc1
        rw [if_pos hok] at hstep
        refine Ent.wlR ?_
        refine Ent.wlA (cs := rwC X) ?_
        refine Ent.app1 (sz := 3) (cs := rwC X) (fun a2 c2 => ?_)
        refine Ent.wsto (l' := [.slice a2 (rs.length + 1) c2]) ?_ (hl := rfl) (hu := by (repeat (first | exact Upd.hd | apply Upd.tl)))
        refine Ent.dn (by (repeat (first | exact Upd.hd | apply Upd.tl))) ?_
        refine Ent.imp (ctx' := own rs :: Sl.ro M1 :: Sl.ob (q + 1) (lp r0 .ready none) :: SlO a2 (rs.length + 1) c2 3 (rwcs rs ++ rwC X) :: pt lc [.slice a2 (rs.length + 1) c2] :: pt nc [.int .i64 ((k : Int) + 1)] :: pt sb [.string (ba s')] :: pt t2 [.slice none 0 0] :: pt t3 [.int .i64 0] :: pt t4 [.int .i64 0] :: Sl.ob q (.deferred (some [])) :: rest) (by (focus ((repeat ((with_reducible apply Imp.pick); (repeat (first | exact Pick.hd | apply Pick.tl)))); (repeat (first | exact Imp.refl _ | exact Imp.nil _ | apply Imp.drop)); done))) ?_
        refine own_keep f3 fun M2 hM2 hall => ?_
        refine Ent.imp ?_ hnext
        have hF2 : RsF M2 (rs ++ [X]) := by
          refine ⟨fun w hw => ?_, fun w hw => ?_⟩
          · rw [List.dropLast_concat] at hw
            exact hall w hw
          · rcases List.mem_append.1 hw with hw | hw
            · exact (hall w hw).b
            · rw [List.mem_singleton.1 hw, hX]
              exact ⟨rowR_I64 x, fun v hv => by cases hv⟩
        refine Imp.trans (b := St (k + 1) :: Sl.ob (q + 1) (lp r0 .ready none) :: pt sb [.string (ba s')] :: pt t2 [.slice none 0 0] :: pt t3 [.int .i64 0] :: pt t4 [.int .i64 0] :: Sl.ob q (.deferred (some [])) :: rest) ?_ (by (focus ((repeat ((with_reducible apply Imp.pick); (repeat (first | exact Pick.hd | apply Pick.tl)))); (repeat (first | exact Imp.refl _ | exact Imp.nil _ | apply Imp.drop)); done)))
        refine Imp.trans ?_ (mk (k + 1) M2 (rs ++ [X]) a2 c2 _ (Hp.le_trans f1 hM2) (hst (by rw [hstep, List.map_append]; rfl)) hF2)
        have e1 : (rs ++ [X]).length = rs.length + 1 := by simp
        have e2 : rwcs (rs ++ [X]) = rwcs rs ++ rwC X := by rw [rwcs_app, rwcs_one]
        have e3 : own (rs ++ [X]) = SlO none 0 0 7 [] := by rw [own_snoc, hX]; rfl
        rw [e1, e2, e3]
        refine Imp.trans (Imp.slN (sz := 7) (Imp.refl _)) ?_
        show Imp _ (_ :: _ :: _ :: pt nc [.int .i64 (((k + 1 : Nat)) : Int)] :: _)
        rw [show (((k + 1 : Nat)) : Int) = (k : Int) + 1 by omega]
        (focus ((repeat ((with_reducible apply Imp.pick); (repeat (first | exact Pick.hd | apply Pick.tl)))); (repeat (first | exact Imp.refl _ | exact Imp.nil _ | apply Imp.drop)); done))
  · refine Ent.imp (ctx' := St (lns s).length :: Sl.ob (q + 1) (lp r0 .ready none) :: pt t2 [.slice none 0 0] :: pt t3 [.int .i64 0] :: pt t4 [.int .i64 0] :: Sl.ob q (.deferred (some [])) :: rest) (by (focus ((repeat ((with_reducible apply Imp.pick); (repeat (first | exact Pick.hd | apply Pick.tl)))); (repeat (first | exact Imp.refl _ | exact Imp.nil _ | apply Imp.drop)); done))) ?_
    rw [hSt]
    refine Ent.exs fun ⟨M1, rs, a, c⟩ => Ent.g6 (Ent.pur fun ⟨f1, f2, f3⟩ => ?_)
    dsimp only at f1 f2 f3
    dsimp only
    rw [List.take_length] at f2
    refine Ent.ed (st := .ready) (fun h => by cases h) (by (repeat (first | exact Upd.hd | apply Upd.tl))) ?_
    show Ent e _ (JmK _ _ _ none)
    unfold JmK
    dsimp only
    (refine Ent.go ?_)
    refine Ent.tk (by (repeat (first | exact Upd.hd | apply Upd.tl))) ?_
    refine ldv ?_
    refine ldi ?_
    refine ldi ?_
    refine Ent.imp (ctx' := own rs :: Sl.ro M1 :: SlO a rs.length c 3 (rwcs rs) :: rest) (by (focus ((repeat ((with_reducible apply Imp.pick); (repeat (first | exact Pick.hd | apply Pick.tl)))); (repeat (first | exact Imp.refl _ | exact Imp.nil _ | apply Imp.drop)); done))) ?_
    refine own_keep f3 fun M2 hM2 hall => ?_
    refine Ent.imp ?_ (h0 rs a c M2 (by omega) f2 (Hp.le_trans f1 hM2) hall)
    (focus ((repeat ((with_reducible apply Imp.pick); (repeat (first | exact Pick.hd | apply Pick.tl)))); (repeat (first | exact Imp.refl _ | exact Imp.nil _ | apply Imp.drop)); done))
  · refine Ent.imp (Imp.perm (.swap _ _ _)) ?_
    refine Ent.exs fun ⟨M1, k, x, st⟩ => Ent.g5 (Ent.pur fun ⟨f1, f2, f3, f4⟩ => ?_)
    dsimp only at f1 f2 f3 f4
    dsimp only
    refine Ent.ed (st := .done) (fun h => by cases h) (by (repeat (first | exact Upd.hd | apply Upd.tl))) ?_
    show Ent e _ (JmK _ _ _ (some .ret))
    unfold JmK
    dsimp only
    refine Ent.tk (by (repeat (first | exact Upd.hd | apply Upd.tl))) ?_
    refine ldv ?_
    refine ldi ?_
    refine ldi ?_
    refine Ent.imp ?_ (h5 k x st M1 (by omega) f2 f3 f4 f1)
    (focus ((repeat ((with_reducible apply Imp.pick); (repeat (first | exact Pick.hd | apply Pick.tl)))); (repeat (first | exact Imp.refl _ | exact Imp.nil _ | apply Imp.drop)); done))
end
end Go.Proofs.YtoneapgooihajaaGreatDoor.Qa
