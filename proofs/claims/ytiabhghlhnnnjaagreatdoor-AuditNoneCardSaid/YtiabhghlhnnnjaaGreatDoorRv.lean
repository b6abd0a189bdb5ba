/-
  MORE RULES: elements read out of what may be read; elements of one's own slice written.
-/
import Derived.Test.YtiabhghlhnnnjaaGreatDoorRu
set_option maxRecDepth 100000
set_option linter.unusedVariables false
set_option linter.unusedSectionVars false
set_option linter.unusedSimpArgs false
namespace Go.Proofs.YtiabhghlhnnnjaaGreatDoor.Sl
open Go Sh
section
variable {e : Env} {ctx ctx' R : List HProp}
theorem Ent.wiAh {t x n cp u by_ sz : Nat} {a : Option Addr} {j : IntKind} {i : Int} {X : Type} {f : X → List Value} {xs : List X} {y : X} {c : Value → WP} (h : Ent e ctx (c (.agg (f y).toArray))) (hr : Rd R a ((xs.map f).flatten) := by assumption) (hR : Imp ctx R := by (focus (repeat (first | exact Imp.refl _ | exact Imp.nil _ | apply Imp.drop)))) (hx : xs[i.toNat]? = some y := by assumption)
    (ht : dd t = some (.sl x) := by exact rfl) (hs : szof x = some (sz, by_) := by exact rfl) (hu : ag u = some sz := by exact rfl) (h0 : 0 ≤ i := by omega) (h1 : i < n := by omega) (hf : ∀ y, (f y).length = sz := by intro y; exact rfl) (hz : 0 < sz := by decide) : Ent e ctx (iR t (.slice a n cp) j i u c) :=
  Ent.wiAr (hr.mono hR) h ht hs hu h0 h1 hf hz hx
theorem Ent.rR {s : Sem Next} {v : Value} {c : Value → WP} (hs : Still e ctx s v) (h : Ent e ctx (c v)) : Ent e ctx (RdK P (.one .raw) s c) := fun w hw => ⟨v, hs w hw, v, rfl, h w hw⟩
theorem Ent.rI {s : Sem Next} {k : IntKind} {v : Int} {c : Int → WP} (hs : Still e ctx s (.int k v)) (h : Ent e ctx (c v)) : Ent e ctx (RdK P (.one (.int k)) s c) := fun w hw => ⟨_, hs w hw, v, rfl, h w hw⟩
theorem Ent.rB {s : Sem Next} {v : Bool} {c : Bool → WP} (hs : Still e ctx s (.bool v)) (h : Ent e ctx (c v)) : Ent e ctx (RdK P (.one .bool) s c) := fun w hw => ⟨_, hs w hw, v, rfl, h w hw⟩
theorem Ent.rS {s : Sem Next} {v : ByteArray} {c : ByteArray → WP} (hs : Still e ctx s (.string v)) (h : Ent e ctx (c v)) : Ent e ctx (RdK P (.one .str) s c) := fun w hw => ⟨_, hs w hw, v, rfl, h w hw⟩
theorem st_ixAg {t x m by_ : Nat} {k : IntKind} {i : Int} {l : List Value} {v : Value} (ht : dd t = some (.arr m x)) (hs : szof x = some (1, by_)) (hx : sc x = true) (h0 : 0 ≤ i) (h1 : i < m) (hv : l[i.toNat]? = some v) : Pu (vS (Instr.index t (.agg l.toArray) (.int k i))) v := Still.of_run fun w => by
  obtain ⟨i', h2, h3, _⟩ := szof_spec hs
  obtain ⟨_, _, _, _, _, h4⟩ := sc_spec hx
  have h1' : i < (m : Int) := h1
  simp only [Instr.index, asIntOf, Sem.run_bind, Sem.run_pure, Result.andThen_ok, run_underlying (dd_arr ht), h0, h1', and_self, if_true, run_sizeOf' h2, h3, part, h4, Bool.false_eq_true, if_false, Nat.mul_one, List.getElem?_toArray, hv]
theorem SlO.open2 {a : Option Addr} {n c sz : Nat} {l : List Value} {k : WP} (h : ∀ b r, n ≤ c → c * sz ≤ (l ++ r).length → a = some ⟨b, 0, none⟩ → Ent e (pt b (l ++ r) :: ctx) k) (h0 : a = none → n = 0 → l = [] → Ent e ctx k) : Ent e (SlO a n c sz l :: ctx) k := fun w hw => by
  obtain ⟨g1, g2, hd, l1, l2, ⟨hl, hA⟩, hr⟩ := hw.heap
  rcases hA with ⟨ha, hn0, _⟩ | ⟨b, r, ha, hc, hcr, hp⟩
  · exact h0 ha hn0 (List.eq_nil_of_length_eq_zero (by rw [hl, hn0, Nat.zero_mul])) w ⟨hw.os, hw.tape, hw.output, sepL_mono l2 hr⟩
  · exact h b r hc hcr ha w ⟨hw.os, hw.tape, hw.output, g1, g2, hd, l1, l2, hp, hr⟩
theorem Ent.wiWo {t y n cp u by_ : Nat} {a : Option Addr} {j : IntKind} {i : Int} {l : List Value} {x : Value} {c : WP} (h : Ent e (SlO a n cp 1 (l.set i.toNat x) :: ctx') c) (hp : Pick ctx (SlO a n cp 1 l) ctx' := by (repeat (first | exact Pick.hd | apply Pick.tl))) (ht : dd t = some (.sl y) := by exact rfl) (hs : szof y = some (1, by_) := by exact rfl)
    (hu : sc u = true := by exact rfl) (hv : one x = true := by exact rfl) (h0 : 0 ≤ i := by omega) (h1 : i < n := by omega) : Ent e ctx (iW t (.slice a n cp) j i u x c) := Ent.pick hp <| Ent.slO fun k1 k2 k3 k4 => SlO.open2 (fun b r hc hcr ha => by
    subst ha
    refine Ent.opR (st_ix ht hs h0 h1).still ?_
    have hlt : i.toNat < l.length := by omega
    refine Ent.store (l := l ++ r) Upd.hd hu hv (by simp; omega) ?_
    refine h.imp fun y hy => sepL_cons (fun g hg => ?_) (fun _ z => z) hy
    have e1 : (l ++ r).set (0 + i.toNat * 1) x = l.set i.toNat x ++ r := by
      rw [Nat.zero_add, Nat.mul_one, List.set_append_left _ _ hlt]
    rw [e1] at hg
    refine ⟨by simpa using k1, .inr ⟨b, r, rfl, hc, by simpa using hcr, hg⟩⟩) (fun ha hn hl => by omega)
end
end Go.Proofs.YtiabhghlhnnnjaaGreatDoor.Sl
