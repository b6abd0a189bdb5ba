/-
  TEXTS OF EVENTS (layer 31): Parse.
-/
import Derived.Test.YtoneapgooihajaaGreatDoorQj
set_option maxRecDepth 100000
set_option linter.unusedVariables false
set_option linter.unusedSectionVars false
set_option linter.unusedSimpArgs false
set_option maxHeartbeats 0
namespace Go.Proofs.YtoneapgooihajaaGreatDoor.Qa
open Go Sh Sl
open Go.RowKit
attribute [local irreducible] condK ArK NilK OpK FnK StK joinK loopK DrawK andK PuK NxK EnK vS uS bS callS invokeS
def evcs (l : List Ev) : List Value := (l.map fun x => evC x).flatten
theorem evcs_app (a b : List Ev) : evcs (a ++ b) = evcs a ++ evcs b := by simp [evcs]
@[simp] theorem evcs_len (l : List Ev) : (evcs l).length = l.length * 4 := flat_len (fun y => evC y) 4 (fun _ => rfl) l
def dEv (x : Ev) : Int × Int × Int × Bs := (x.k, x.t, x.n, x.b)
/-- an event whose bytes lie still -/
structure EvM (M : Hp) (x : Ev) : Prop where
  r : RdM M x.a (u8 x.b)
  b : EvR x
theorem EvM.mono {M M' : Hp} {x : Ev} (h : EvM M x) (hl : Hp.le M M') : EvM M' x := ⟨h.r.mono hl, h.b⟩
section
variable {e : Env} {ctx rest R : List HProp} {M : Hp}
theorem ldv {t b : Nat} {l : List Value} {v : Value} {c : Value → WP} (h : Ent e ctx (c v)) (hh : Has ctx (pt b l) := by (repeat (first | exact Has.hd | apply Has.tl))) (ht : sc t = true := by exact rfl) (hv : l[0]? = some v := by exact rfl) :
    Ent e ctx (RdK P (.one .raw) (vS (do loadVar t (← asAddr (.pointer (some ⟨b, 0, none⟩))))) c) := Ent.rR (st_cell hh ht hv) h
theorem ldi {t b : Nat} {l : List Value} {k : IntKind} {v : Int} {c : Int → WP} (h : Ent e ctx (c v)) (hh : Has ctx (pt b l) := by (repeat (first | exact Has.hd | apply Has.tl))) (ht : sc t = true := by exact rfl) (hv : l[0]? = some (.int k v) := by exact rfl) :
    Ent e ctx (RdK P (.one (.int k)) (vS (do loadVar t (← asAddr (.pointer (some ⟨b, 0, none⟩))))) c) := Ent.rI (st_cell hh ht hv) h
theorem callable_lines : callable P 50 = true := cx_ok.calls _ (by rfl)
/-- the first lines are events -/
def okTo (s : Bs) (k : Nat) : Prop := ∀ x ∈ (lns s).take k, evOk x = true
theorem okTo_next {s : Bs} {k : Nat} {x : Bs} (h : okTo s k) (hx : (lns s)[k]? = some x) (ho : evOk x = true) : okTo s (k + 1) := fun y hy => by
  rw [take_snoc hx] at hy
  rcases List.mem_append.1 hy with hy | hy
  · exact h y hy
  · rw [List.mem_singleton.1 hy]; exact ho
theorem parse_spec {K : Value → Int → Int → WP} {s : Bs} (hs : s.length ≤ 1048576) (hG : GL e rest) (h3 : 131072 < s.length → Ent e (Sl.ro M :: rest) (K (.slice none 0 0) 0 3))
    (h5 : ∀ k x M', s.length ≤ 131072 → (lns s)[k]? = some x → okTo s k → evOk x = false → Hp.le M M' → Ent e (Sl.ro M' :: rest) (K (.slice none 0 0) ((k : Int) + 1) 5))
    (h0 : ∀ (xs : List Ev) a c M', s.length ≤ 131072 → okTo s (lns s).length → xs.map dEv = (lns s).map (fun x => (evR x).1) → Hp.le M M' → (∀ x ∈ xs, EvM M' x) → Ent e (SlO a xs.length c 4 (evcs xs) :: Sl.ro M' :: rest) (K (.slice a xs.length c) 0 0)) :
    Ent e (Sl.ro M :: rest) (shell_Parse (ba s) K) := by
  (refine Ent.fn shell_Parse_ok ?_; unfold shell_Parse_sh)
  have hsz : ((ba s).size : Int) = (s.length : Int) := by simp [ByteArray.size]
  refine Ent.alloc' fun t2 => ?_
  refine Ent.alloc' fun t3 => ?_
  refine Ent.alloc' fun t4 => ?_
  refine Ent.wlenS ?_
  rw [hsz]
  refine Ent.condD (fun hl => ?_) fun hl => ?_
  · (refine Ent.go ?_)
    refine ldv ?_
    refine ldi ?_
    refine ldi ?_
    exact (h3 (by omega)).drop.drop.drop
  refine Ent.alloc' fun lc => ?_
  (refine Ent.fn strings_Lines_ok ?_; unfold strings_Lines_sh)
  refine Ent.box' fun sb => ?_
  refine Ent.rf callable_lines (args := fun q => [.func (.yield (q + 1)) #[] #[], ptr sb]) (fun q => rfl) fun q r0 hr => ?_
  have hpl := lns_piece s []
  have hll := lns_len s []
  refine Ent.imp (ctx' := Sl.ob (q + 1) (lp r0 .ready none) :: pt sb [.string (ba s)] :: (exs fun (y : Hp × List Ev × Option Addr × Nat) => sepL [pur (Hp.le M y.1 ∧ okTo s 0 ∧ y.2.1.map dEv = ((lns s).take 0).map (fun x => (evR x).1) ∧ (∀ x ∈ y.2.1, EvM y.1 x)), pt lc [.slice y.2.2.1 y.2.1.length y.2.2.2], SlO y.2.2.1 y.2.1.length y.2.2.2 4 (evcs y.2.1), Sl.ro y.1]) :: pt t2 [.slice none 0 0] :: pt t3 [.int .i64 0] :: pt t4 [.int .i64 0] :: Sl.ob q (.deferred (some [])) :: rest) ?_ ?_
  · refine Imp.trans (b := SlO none 0 0 4 [] :: Sl.ob (q + 1) (lp r0 .ready none) :: Sl.ob q (.deferred (some [])) :: pt sb [.string (ba s)] :: pt lc [.slice none 0 0] :: pt t4 [.int .i64 0] :: pt t3 [.int .i64 0] :: pt t2 [.slice none 0 0] :: Sl.ro M :: rest) (Imp.slN (sz := 4) (Imp.refl _)) ?_
    refine Imp.trans (b := (exs fun (y : Hp × List Ev × Option Addr × Nat) => sepL [pur (Hp.le M y.1 ∧ okTo s 0 ∧ y.2.1.map dEv = ((lns s).take 0).map (fun x => (evR x).1) ∧ (∀ x ∈ y.2.1, EvM y.1 x)), pt lc [.slice y.2.2.1 y.2.1.length y.2.2.2], SlO y.2.2.1 y.2.1.length y.2.2.2 4 (evcs y.2.1), Sl.ro y.1]) :: Sl.ob (q + 1) (lp r0 .ready none) :: pt sb [.string (ba s)] :: pt t2 [.slice none 0 0] :: pt t3 [.int .i64 0] :: pt t4 [.int .i64 0] :: Sl.ob q (.deferred (some [])) :: rest) ?_ (by (focus ((repeat ((with_reducible apply Imp.pick); (repeat (first | exact Pick.hd | apply Pick.tl)))); (repeat (first | exact Imp.refl _ | exact Imp.nil _ | apply Imp.drop)); done)))
    refine Imp.exs (M, [], none, 0) (Imp.g4 (Imp.pur ⟨Hp.le_refl _, fun x hx => (by simp at hx), rfl, fun x hx => (by cases hx)⟩ ?_))
    show Imp _ (pt lc [.slice none 0 0] :: SlO none 0 0 4 [] :: Sl.ro M :: _)
    (focus ((repeat ((with_reducible apply Imp.pick); (repeat (first | exact Pick.hd | apply Pick.tl)))); (repeat (first | exact Imp.refl _ | exact Imp.nil _ | apply Imp.drop)); done))
  refine lines_iter hs (fun k => (exs fun (y : Hp × List Ev × Option Addr × Nat) => sepL [pur (Hp.le M y.1 ∧ okTo s k ∧ y.2.1.map dEv = ((lns s).take k).map (fun x => (evR x).1) ∧ (∀ x ∈ y.2.1, EvM y.1 x)), pt lc [.slice y.2.2.1 y.2.1.length y.2.2.2], SlO y.2.2.1 y.2.1.length y.2.2.2 4 (evcs y.2.1), Sl.ro y.1]) :: pt t2 [.slice none 0 0] :: pt t3 [.int .i64 0] :: pt t4 [.int .i64 0] :: Sl.ob q (.deferred (some [])) :: rest)
    ((exs fun (y : Hp × Nat × Bs) => sepL [pur (Hp.le M y.1 ∧ (lns s)[y.2.1]? = some y.2.2 ∧ okTo s y.2.1 ∧ evOk y.2.2 = false), pt t2 [.slice none 0 0], pt t3 [.int .i64 ((y.2.1 : Int) + 1)], pt t4 [.int .i64 5], Sl.ro y.1]) :: Sl.ob q (.deferred (some [])) :: rest) (fun k x s' c hx hnext hstop => ?_) ?_ ?_
  · refine Ent.imp (ctx' := (exs fun (y : Hp × List Ev × Option Addr × Nat) => sepL [pur (Hp.le M y.1 ∧ okTo s k ∧ y.2.1.map dEv = ((lns s).take k).map (fun x => (evR x).1) ∧ (∀ x ∈ y.2.1, EvM y.1 x)), pt lc [.slice y.2.2.1 y.2.1.length y.2.2.2], SlO y.2.2.1 y.2.1.length y.2.2.2 4 (evcs y.2.1), Sl.ro y.1]) :: Sl.ob (q + 1) (lp r0 .ready none) :: pt sb [.string (ba s')] :: pt t2 [.slice none 0 0] :: pt t3 [.int .i64 0] :: pt t4 [.int .i64 0] :: Sl.ob q (.deferred (some [])) :: rest) (by (focus ((repeat ((with_reducible apply Imp.pick); (repeat (first | exact Pick.hd | apply Pick.tl)))); (repeat (first | exact Imp.refl _ | exact Imp.nil _ | apply Imp.drop)); done))) ?_
    refine Ent.exs fun ⟨M1, ys, a, c1⟩ => Ent.g4 (Ent.pur fun ⟨f1, f2, f3, f4⟩ => ?_)
    dsimp only at f1 f2 f3 f4
    dsimp only
    have hxl := hpl x (List.mem_of_getElem? hx)
    have hkl := (List.getElem?_eq_some_iff.1 hx).1
    have hyl : ys.length = k := by
      have := congrArg List.length f3
      rw [List.length_map, List.length_map, List.length_take] at this
      omega
    have hll' : (lns s).length ≤ s.length + 1 := hll
    refine Ent.yield hr (by (repeat (first | exact Has.hd | apply Has.tl))) ?_
    show Ent e _ (BgK P _ _)
    refine Ent.bg (by (repeat (first | exact Upd.hd | apply Upd.tl))) ?_
    refine event_spec (s := x) (by simp at hxl; omega) (hG.mono (by (focus (repeat (first | exact Imp.refl _ | exact Imp.nil _ | apply Imp.drop))))) fun ev hev hevr => ?_
    refine Ent.alloc' fun eb => ?_
    refine Ent.wstoA (l' := evC ev) ?_ (vs := evC ev) (hl := rfl) (hu := by (repeat (first | exact Upd.hd | apply Upd.tl)))
    refine Ent.cond (fun hc => ?_) fun hc => ?_
    · have hbad : evOk x = false := by simpa using hc
      refine Ent.draw [pt lc [.slice a ys.length c1]] (by (focus ((repeat ((with_reducible apply Imp.pick); (repeat (first | exact Pick.hd | apply Pick.tl)))); (repeat (first | exact Imp.refl _ | exact Imp.nil _ | apply Imp.drop)); done))) ?_
      refine Ent.wsR ?_
      refine Ent.wsI ?_
      refine Ent.war ?_
      refine Ent.wsto (l' := [.slice none 0 0]) ?_ (hl := rfl) (hu := by (repeat (first | exact Upd.hd | apply Upd.tl)))
      refine Ent.wand ?_
      refine Ent.wsto (l' := [.int .i64 ((ys.length : Int) + 1)]) ?_ (hl := rfl) (hu := by (repeat (first | exact Upd.hd | apply Upd.tl)))
      refine Ent.wsto (l' := [.int .i64 5]) ?_ (hl := rfl) (hu := by (repeat (first | exact Upd.hd | apply Upd.tl)))
      refine Ent.dnJ (by (repeat (first | exact Upd.hd | apply Upd.tl))) ?_
      refine Ent.imp ?_ hstop
      refine Imp.trans ?_ (Imp.perm (.swap _ _ _))
      refine Imp.exs (M1, k, x) (Imp.g5 (Imp.pur ⟨f1, hx, f2, hbad⟩ ?_))
      rw [hyl]
      (focus ((repeat ((with_reducible apply Imp.pick); (repeat (first | exact Pick.hd | apply Pick.tl)))); (repeat (first | exact Imp.refl _ | exact Imp.nil _ | apply Imp.drop)); done))
    · have hok : evOk x = true := by simpa using hc
      refine Ent.wlR ?_
      refine Ent.wlA (cs := evC ev) ?_
      refine Ent.app1 (sz := 4) (cs := evC ev) (fun a2 c2 => ?_)
      refine Ent.wsto (l' := [.slice a2 (ys.length + 1) c2]) ?_ (hl := rfl) (hu := by (repeat (first | exact Upd.hd | apply Upd.tl)))
      refine Ent.dn (by (repeat (first | exact Upd.hd | apply Upd.tl))) ?_
      refine Ent.imp (ctx' := SlO ev.a ev.b.length ev.c 1 (u8 ev.b) :: Sl.ro M1 :: Sl.ob (q + 1) (lp r0 .ready none) :: SlO a2 (ys.length + 1) c2 4 (evcs ys ++ evC ev) :: pt lc [.slice a2 (ys.length + 1) c2] :: pt sb [.string (ba s')] :: pt t2 [.slice none 0 0] :: pt t3 [.int .i64 0] :: pt t4 [.int .i64 0] :: Sl.ob q (.deferred (some [])) :: rest) (by (focus ((repeat ((with_reducible apply Imp.pick); (repeat (first | exact Pick.hd | apply Pick.tl)))); (repeat (first | exact Imp.refl _ | exact Imp.nil _ | apply Imp.drop)); done))) ?_
      refine Ent.keepS fun M2 hM2 hrm _ _ _ => ?_
      refine Ent.imp ?_ hnext
      refine Imp.trans (b := (exs fun (y : Hp × List Ev × Option Addr × Nat) => sepL [pur (Hp.le M y.1 ∧ okTo s (k + 1) ∧ y.2.1.map dEv = ((lns s).take (k + 1)).map (fun x => (evR x).1) ∧ (∀ x ∈ y.2.1, EvM y.1 x)), pt lc [.slice y.2.2.1 y.2.1.length y.2.2.2], SlO y.2.2.1 y.2.1.length y.2.2.2 4 (evcs y.2.1), Sl.ro y.1]) :: Sl.ob (q + 1) (lp r0 .ready none) :: pt sb [.string (ba s')] :: pt t2 [.slice none 0 0] :: pt t3 [.int .i64 0] :: pt t4 [.int .i64 0] :: Sl.ob q (.deferred (some [])) :: rest) ?_ (by (focus ((repeat ((with_reducible apply Imp.pick); (repeat (first | exact Pick.hd | apply Pick.tl)))); (repeat (first | exact Imp.refl _ | exact Imp.nil _ | apply Imp.drop)); done)))
      refine Imp.exs (M2, ys ++ [ev], a2, c2) (Imp.g4 (Imp.pur ⟨Hp.le_trans f1 hM2, okTo_next f2 hx hok, ?_, fun y hy => ?_⟩ ?_))
      · dsimp only
        rw [take_snoc hx, List.map_append, List.map_append, f3]
        simp only [List.map_cons, List.map_nil, ← hev]
        rfl
      · rcases List.mem_append.1 hy with hy | hy
        · exact (f4 y hy).mono hM2
        · rw [List.mem_singleton.1 hy]; exact ⟨hrm, hevr⟩
      · have e1 : (ys ++ [ev]).length = ys.length + 1 := by simp
        have e2 : evcs (ys ++ [ev]) = evcs ys ++ evC ev := by rw [evcs_app]; simp [evcs]
        rw [e1, e2]
        (focus ((repeat ((with_reducible apply Imp.pick); (repeat (first | exact Pick.hd | apply Pick.tl)))); (repeat (first | exact Imp.refl _ | exact Imp.nil _ | apply Imp.drop)); done))
  · refine Ent.imp (ctx' := (exs fun (y : Hp × List Ev × Option Addr × Nat) => sepL [pur (Hp.le M y.1 ∧ okTo s (lns s).length ∧ y.2.1.map dEv = ((lns s).take (lns s).length).map (fun x => (evR x).1) ∧ (∀ x ∈ y.2.1, EvM y.1 x)), pt lc [.slice y.2.2.1 y.2.1.length y.2.2.2], SlO y.2.2.1 y.2.1.length y.2.2.2 4 (evcs y.2.1), Sl.ro y.1]) :: Sl.ob (q + 1) (lp r0 .ready none) :: pt t2 [.slice none 0 0] :: pt t3 [.int .i64 0] :: pt t4 [.int .i64 0] :: Sl.ob q (.deferred (some [])) :: rest) (by (focus ((repeat ((with_reducible apply Imp.pick); (repeat (first | exact Pick.hd | apply Pick.tl)))); (repeat (first | exact Imp.refl _ | exact Imp.nil _ | apply Imp.drop)); done))) ?_
    refine Ent.exs fun ⟨M1, ys, a, c1⟩ => Ent.g4 (Ent.pur fun ⟨f1, f2, f3, f4⟩ => ?_)
    dsimp only at f1 f2 f3 f4
    dsimp only
    rw [List.take_length] at f3
    refine Ent.ed (st := .ready) (fun h => by cases h) (by (repeat (first | exact Upd.hd | apply Upd.tl))) ?_
    show Ent e _ (JmK _ _ _ none)
    unfold JmK
    dsimp only
    (refine Ent.go ?_)
    refine Ent.tk (by (repeat (first | exact Upd.hd | apply Upd.tl))) ?_
    refine ldv ?_
    refine ldi ?_
    refine ldi ?_
    refine Ent.imp ?_ (h0 ys a c1 M1 (by omega) f2 f3 f1 f4)
    (focus ((repeat ((with_reducible apply Imp.pick); (repeat (first | exact Pick.hd | apply Pick.tl)))); (repeat (first | exact Imp.refl _ | exact Imp.nil _ | apply Imp.drop)); done))
  · refine Ent.imp (Imp.perm (.swap _ _ _)) ?_
    refine Ent.exs fun ⟨M1, k, x⟩ => Ent.g5 (Ent.pur fun ⟨f1, f2, f3, f4⟩ => ?_)
    dsimp only at f1 f2 f3 f4
    dsimp only
    refine Ent.ed (st := .done) (fun h => by cases h) (by (repeat (first | exact Upd.hd | apply Upd.tl))) ?_
    show Ent e _ (JmK _ _ _ (some .ret))
    unfold JmK
    dsimp only
    refine Ent.tk (by (repeat (first | exact Upd.hd | apply Upd.tl))) ?_
    refine ldv ?_
    refine ldi ?_
    refine ldi ?_
    refine Ent.imp ?_ (h5 k x M1 (by omega) f2 f3 f4 f1)
    (focus ((repeat ((with_reducible apply Imp.pick); (repeat (first | exact Pick.hd | apply Pick.tl)))); (repeat (first | exact Imp.refl _ | exact Imp.nil _ | apply Imp.drop)); done))
end
end Go.Proofs.YtoneapgooihajaaGreatDoor.Qa
