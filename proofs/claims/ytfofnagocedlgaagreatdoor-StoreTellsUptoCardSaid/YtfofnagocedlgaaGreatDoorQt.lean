/-
  RUNS THAT LEAVE THE WORLD AS IT IS (but for draws): for the functions that a library function is handed.
-/
import Derived.Test.YtfofnagocedlgaaGreatDoorMp
import Derived.Deep.Draws
set_option maxRecDepth 100000
set_option linter.unusedVariables false
set_option linter.unusedSectionVars false
set_option linter.unusedSimpArgs false
namespace Go.Proofs.YtfofnagocedlgaaGreatDoor.Sl
open Go Sh
def QEnt (S : World → Prop) (c : WP) : Prop := ∀ w, S w → c w
/-- what is known of a world, its draws aside -/
structure QS (S : World → Prop) (e : Env) (ctx : List HProp) : Prop where
  sat : ∀ w, S w → Sat e (sepL ctx) w
  dr : ∀ w, S w → S { w with drawn := w.drawn + 1 }
theorem qs_of {e : Env} {ctx : List HProp} {W : World} (h : Sat e (sepL ctx) W) : QS (fun w => ∃ q, w = W.drewN q) e ctx :=
  ⟨fun w ⟨q, hq⟩ => by subst hq; exact h.drawn _, fun w ⟨q, hq⟩ => ⟨q + 1, by subst hq; rfl⟩⟩
section
variable {S : World → Prop} {e : Env} {ctx : List HProp}
theorem QEnt.oR {s : Sem Next} {v : Value} {c : Value → WP} (q : QS S e ctx) (hs : Still e ctx s v) (h : QEnt S (c v)) : QEnt S (OpK P (.one .raw) s c) := fun w hw => by
  show NextK P s _ w; unfold NextK; rw [hs w (q.sat w hw)]; exact ⟨v, rfl, h w hw⟩
theorem QEnt.oI {s : Sem Next} {k : IntKind} {v : Int} {c : Int → WP} (q : QS S e ctx) (hs : Still e ctx s (.int k v)) (h : QEnt S (c v)) : QEnt S (OpK P (.one (.int k)) s c) := fun w hw => by
  show NextK P s _ w; unfold NextK; rw [hs w (q.sat w hw)]; exact ⟨v, rfl, h w hw⟩
theorem QEnt.oB {s : Sem Next} {v : Bool} {c : Bool → WP} (q : QS S e ctx) (hs : Still e ctx s (.bool v)) (h : QEnt S (c v)) : QEnt S (OpK P (.one .bool) s c) := fun w hw => by
  show NextK P s _ w; unfold NextK; rw [hs w (q.sat w hw)]; exact ⟨v, rfl, h w hw⟩
theorem QEnt.oS {s : Sem Next} {v : ByteArray} {c : ByteArray → WP} (q : QS S e ctx) (hs : Still e ctx s (.string v)) (h : QEnt S (c v)) : QEnt S (OpK P (.one .str) s c) := fun w hw => by
  show NextK P s _ w; unfold NextK; rw [hs w (q.sat w hw)]; exact ⟨v, rfl, h w hw⟩
theorem QEnt.pB {s : Sem Next} {v : Bool} {c : Bool → WP} (hs : Pu s (.bool v)) (h : QEnt S (c v)) : QEnt S (OpK P (.one .bool) s c) := fun w hw => by
  show NextK P s _ w; unfold NextK; rw [hs w]; exact ⟨v, rfl, h w hw⟩
theorem QEnt.pR {s : Sem Next} {v : Value} {c : Value → WP} (hs : Pu s v) (h : QEnt S (c v)) : QEnt S (OpK P (.one .raw) s c) := fun w hw => by
  show NextK P s _ w; unfold NextK; rw [hs w]; exact ⟨v, rfl, h w hw⟩
theorem QEnt.pI {s : Sem Next} {k : IntKind} {v : Int} {c : Int → WP} (hs : Pu s (.int k v)) (h : QEnt S (c v)) : QEnt S (OpK P (.one (.int k)) s c) := fun w hw => by
  show NextK P s _ w; unfold NextK; rw [hs w]; exact ⟨v, rfl, h w hw⟩
theorem QEnt.sR {s : Sem Next} {v : Value} {c : Value → WP} (q : QS S e ctx) (hs : Still e ctx s v) (h : QEnt S (c v)) : QEnt S (StK P S (.one .raw) s c) := fun w hw => ⟨v, fun w' h' => hs w' (q.sat w' h'), v, rfl, h w hw⟩
theorem QEnt.sI {s : Sem Next} {k : IntKind} {v : Int} {c : Int → WP} (q : QS S e ctx) (hs : Still e ctx s (.int k v)) (h : QEnt S (c v)) : QEnt S (StK P S (.one (.int k)) s c) := fun w hw => ⟨_, fun w' h' => hs w' (q.sat w' h'), v, rfl, h w hw⟩
theorem QEnt.sB {s : Sem Next} {v : Bool} {c : Bool → WP} (q : QS S e ctx) (hs : Still e ctx s (.bool v)) (h : QEnt S (c v)) : QEnt S (StK P S (.one .bool) s c) := fun w hw => ⟨_, fun w' h' => hs w' (q.sat w' h'), v, rfl, h w hw⟩
theorem QEnt.sS {s : Sem Next} {v : ByteArray} {c : ByteArray → WP} (q : QS S e ctx) (hs : Still e ctx s (.string v)) (h : QEnt S (c v)) : QEnt S (StK P S (.one .str) s c) := fun w hw => ⟨_, fun w' h' => hs w' (q.sat w' h'), v, rfl, h w hw⟩
theorem QEnt.qR {s : Sem Next} {v : Value} {c : Value → WP} (hs : Pu s v) (h : QEnt S (c v)) : QEnt S (PuK P (.one .raw) s c) := fun w hw => ⟨v, hs, v, rfl, h w hw⟩
theorem QEnt.qI {s : Sem Next} {k : IntKind} {v : Int} {c : Int → WP} (hs : Pu s (.int k v)) (h : QEnt S (c v)) : QEnt S (PuK P (.one (.int k)) s c) := fun w hw => ⟨_, hs, v, rfl, h w hw⟩
theorem QEnt.qB {s : Sem Next} {v : Bool} {c : Bool → WP} (hs : Pu s (.bool v)) (h : QEnt S (c v)) : QEnt S (PuK P (.one .bool) s c) := fun w hw => ⟨_, hs, v, rfl, h w hw⟩
theorem QEnt.qS {s : Sem Next} {v : ByteArray} {c : ByteArray → WP} (hs : Pu s (.string v)) (h : QEnt S (c v)) : QEnt S (PuK P (.one .str) s c) := fun w hw => ⟨_, hs, v, rfl, h w hw⟩
theorem QEnt.nil {a : Addr} {c : WP} (h : QEnt S c) : QEnt S (NilK (.pointer (some a)) c) := fun w hw => ⟨rfl, h w hw⟩
theorem QEnt.and {c : WP} (h : QEnt S c) : QEnt S (andK S c) := fun w hw => ⟨hw, h w hw⟩
theorem QEnt.draw {f : WP → WP} (q : QS S e ctx) (h : QEnt S (f S)) : QEnt S (DrawK f) := fun w hw => ⟨S, q.dr w hw, h _ (q.dr w hw)⟩
theorem QEnt.cT {b : Bool} {x y : WP} (hb : b = true) (h : QEnt S x) : QEnt S (condK b x y) := by subst hb; exact h
theorem QEnt.cF {b : Bool} {x y : WP} (hb : b = false) (h : QEnt S y) : QEnt S (condK b x y) := by subst hb; exact h
theorem QEnt.fn {sh F : WP} (ok : ∀ w, sh w → F w) (h : QEnt S sh) : QEnt S F := fun w hw => ok w (h w hw)
theorem QEnt.ar {k : IntKind} {n : Int} {f : Int → WP} (hn : inR k n) (h : QEnt S (f n)) : QEnt S (ArK k n f) := by
  unfold ArK; rw [wrap_in hn]; exact h
/-- what the library asks of a function that it is handed -/
theorem quiet_int {W : World} {f : FuncId} {args : Array Value} {v : Int} (h : ∀ K : Int → WP, QEnt (fun w => ∃ q, w = W.drewN q) (K v) → QEnt (fun w => ∃ q, w = W.drewN q) (FnK P (.one (.int .i64)) f args K)) :
    Calls P f args W fun e w' => e = .returned (.int .i64 v) ∧ ∃ q, w' = W.drewN q := by
  have := h (fun n w => n = v ∧ ∃ q, w = W.drewN q) (fun w hw => ⟨rfl, hw⟩) W ⟨0, rfl⟩
  exact Calls.mono this fun e w' ⟨x, he, n, hx, hn, hq⟩ => ⟨by rw [he, hx, hn]; rfl, hq⟩
theorem quiet_bool {W : World} {f : FuncId} {args : Array Value} {v : Bool} (h : ∀ K : Bool → WP, QEnt (fun w => ∃ q, w = W.drewN q) (K v) → QEnt (fun w => ∃ q, w = W.drewN q) (FnK P (.one .bool) f args K)) :
    Calls P f args W fun e w' => e = .returned (.bool v) ∧ ∃ q, w' = W.drewN q := by
  have := h (fun n w => n = v ∧ ∃ q, w = W.drewN q) (fun w hw => ⟨rfl, hw⟩) W ⟨0, rfl⟩
  exact Calls.mono this fun e w' ⟨x, he, n, hx, hn, hq⟩ => ⟨by rw [he, hx, hn]; rfl, hq⟩
end
end Go.Proofs.YtfofnagocedlgaaGreatDoor.Sl
