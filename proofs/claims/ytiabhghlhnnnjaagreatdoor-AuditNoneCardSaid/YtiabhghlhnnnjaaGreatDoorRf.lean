/-
  RANGES OVER FUNCTIONS: the loop's record as a part of memory; a call of yield runs the round that 'RecOk' tells of.
-/
import Derived.Test.YtiabhghlhnnnjaaGreatDoorRu
import Derived.RangeFuncSeq
import Derived.RangeFuncRecord
set_option maxRecDepth 100000
set_option linter.unusedVariables false
set_option linter.unusedSectionVars false
set_option linter.unusedSimpArgs false
namespace Go.Proofs.YtiabhghlhnnnjaaGreatDoor.Sl
open Go Sh
/-- the loop's record in some state -/
def lp (r : Loop) (st : LoopState) (p : Option Code) : Obj := .loop { r with state := st, pending := p }
theorem lp_eta {r : Loop} {ks : List Kd} {B : Nat → AF (Dn → WP) ks} (h : RecOk P r ks B) : lp r .ready none = .loop r := by
  have h1 := h.state; have h2 := h.pending
  cases r; simp_all [lp]
/-- behind a range over a function -/
def EdK (l : Nat) (k : Option Code → WP) : WP := fun w3 => ∃ j w4, (Instr.endLoop l).run P w3 = .ok j w4 ∧ k j w4
/-- behind a round -/
def DnK (l : Nat) (c : Bool → WP) (j : Option Code) : WP := fun W' => ∃ v W'', (Instr.endRound l j).run P W' = .ok v W'' ∧ tyR (.one .bool) c v W''
theorem putObj_other {w : World} {b i : Nat} {o : Obj} (h : i ≠ b) : (w.putObj b o).heap[i]? = w.heap[i]? := World.putObj_heap_other h
section
variable {e : Env} {ctx ctx' : List HProp}
theorem Sat.put {w : World} {b : Nat} {o o' : Obj} (h : Sat e (sepL (Sl.ob b o :: ctx)) w) : Sat e (sepL (Sl.ob b o' :: ctx)) (w.putObj b o') := by
  have hb : w.heap[b]? = some o := Has.ob .hd h
  exact h.turn (o := o) (o' := o') (fun _ k => k) (fun _ k => k) rfl rfl rfl (World.putObj_heap_same (Array.getElem?_eq_some_iff.1 hb).1) (fun i hi => putObj_other hi)
theorem Sat.upd {w : World} {b : Nat} {o o' : Obj} (hp : Upd ctx (Sl.ob b o) (Sl.ob b o') ctx') (h : Sat e (sepL ctx) w) : w.heap[b]? = some o ∧ Sat e (sepL ctx') (w.putObj b o') := by
  obtain ⟨s, h1, h2⟩ := hp.pick
  have h3 : Sat e (sepL (Sl.ob b o :: s)) w := h.imp (sepL_perm h1.perm)
  exact ⟨Has.ob .hd h3, (Sat.put h3).imp (sepL_perm h2.symm)⟩
theorem Ent.rf {f : Nat} {first cap : Array Value} {ks : List Kd} {B : Nat → AF (Dn → WP) ks} {k : Nat → Option Code → WP} (hf : callable P f = true) {args : Nat → List Value}
    (ha : ∀ q, first ++ #[.func (.yield (q + 1)) #[] #[]] ++ cap = (args q).toArray)
    (h : ∀ (q : Nat) (r : Loop), RecOk P r ks B → Ent e (Sl.ob (q + 1) (lp r .ready none) :: Sl.ob q (.deferred (some [])) :: ctx) (FnK P (.one .raw) f (args q).toArray fun _ => EdK (q + 1) (k q))) :
    Ent e ctx (RfK P (.func (.func f) first cap) ks B k) := fun w hw => by
  refine ⟨f, first, cap, rfl, hf, fun r hr hd => ?_⟩
  have h1 : Sat e (sepL (Sl.ob w.heap.size (.deferred (some [])) :: ctx)) (w.alloc (.deferred (some []))) := hw.alloc _
  have h2 := h1.alloc (.loop r)
  rw [World.size_alloc] at h2
  have := h w.heap.size r hr _ (by rw [lp_eta hr]; exact h2)
  rw [ha]
  exact CallK.mono (fun v w3 hv => by obtain ⟨x, _, hx⟩ := hv; exact hx) this
theorem Ent.ed {l : Nat} {r : Loop} {st : LoopState} {p : Option Code} {k : Option Code → WP} (hb : st ≠ .busy) (hp : Upd ctx (Sl.ob l (lp r st p)) (Sl.ob l (lp r .exhausted p)) ctx') (h : Ent e ctx' (k p)) :
    Ent e ctx (EdK l k) := fun w hw => by
  obtain ⟨h1, h2⟩ := Sat.upd hp hw
  exact ⟨_, _, run_endLoop h1 hb, h _ h2⟩
theorem Ent.tk {q : Nat} {c : WP} (hp : Upd ctx (Sl.ob q (.deferred (some []))) (Sl.ob q (.deferred none)) ctx') (h : Ent e ctx' c) : Ent e ctx (TkK P q c) := fun w hw => by
  obtain ⟨h1, h2⟩ := Sat.upd hp hw
  exact ⟨_, run_takeDeferred h1, h _ h2⟩
theorem Ent.bg {l : Nat} {r : Loop} {p : Option Code} {c : WP} (hp : Upd ctx (Sl.ob l (lp r .ready p)) (Sl.ob l (lp r .busy p)) ctx') (h : Ent e ctx' c) : Ent e ctx (BgK P l c) := fun w hw => by
  obtain ⟨h1, h2⟩ := Sat.upd hp hw
  exact ⟨_, run_beginRound h1 rfl, h _ h2⟩
theorem Ent.dn {l : Nat} {r : Loop} {st : LoopState} {p : Option Code} {c : Bool → WP} (hp : Upd ctx (Sl.ob l (lp r st p)) (Sl.ob l (lp r .ready none)) ctx') (h : Ent e ctx' (c true)) : Ent e ctx (DnK l c none) := fun w hw => by
  obtain ⟨h1, h2⟩ := Sat.upd hp hw
  exact ⟨_, _, run_endRound none h1, true, rfl, h _ h2⟩
theorem Ent.dnJ {l : Nat} {r : Loop} {st : LoopState} {p : Option Code} {j : Code} {c : Bool → WP} (hp : Upd ctx (Sl.ob l (lp r st p)) (Sl.ob l (lp r .done (some j))) ctx') (h : Ent e ctx' (c false)) : Ent e ctx (DnK l c (some j)) := fun w hw => by
  obtain ⟨h1, h2⟩ := Sat.upd hp hw
  exact ⟨_, _, run_endRound (some j) h1, false, rfl, h _ h2⟩
theorem unF_len {X : Type} : ∀ (ks : List Kd) (vs : List Value) (b : AF X ks) (g : X → WP) (w : World), unF ks vs b g w → vs.length = ks.length
  | [], [], _, _, _, _ => rfl
  | k :: ks, v :: vs, b, g, w, h => by
    obtain ⟨x, hx, h2⟩ := getK_elim h
    simp [unF_len ks vs _ g w h2]
  | [], _ :: _, _, _, _, h => h.elim
  | _ :: _, [], _, _, _, h => h.elim
theorem Ent.yield {l : Nat} {r : Loop} {st : LoopState} {p : Option Code} {ks : List Kd} {B : Nat → AF (Dn → WP) ks} {args : List Value} {c : Bool → WP} (hr : RecOk P r ks B) (hh : Has ctx (Sl.ob l (lp r st p)))
    (h : Ent e ctx (unF ks args (B l) fun b => b (DnK l c))) : Ent e ctx (OpK P (.one .bool) (callS (.func (.yield l) #[] #[]) args.toArray) c) := fun w hw => by
  have hb : w.heap[l]? = some (lp r st p) := Has.ob hh hw
  have hB := h w hw
  have hlen := unF_len _ _ _ _ _ hB
  have hrun : (callS (.func (.yield l) #[] #[]) args.toArray).run P w = .ok (.round l r.fn ((r.params.zip args.toArray).foldl (fun tmps (t, a) => tmps.setIfInBounds t a) r.tmps) r.assign r.body) w := by
    have := run_yield (P := P) (args := args.toArray) hb (by simp [hr.params, hlen])
    simpa [callS, Deferred.ofValue, invoke] using this
  show NextK P _ _ w
  unfold NextK
  rw [hrun]
  exact hr.round l args (tyR (.one .bool) c) w hB
end
end Go.Proofs.YtiabhghlhnnnjaaGreatDoor.Sl
