/-
  THE SECOND LAYER's RULES: one for each operation.
-/
import Derived.Test.YtiabhghlhnnnjaaGreatDoorSl
import Derived.Laws.Small
import Derived.IntWalk
set_option maxRecDepth 100000
set_option linter.unusedVariables false
set_option linter.unusedSimpArgs false
namespace Go.Proofs.YtiabhghlhnnnjaaGreatDoor.Sl
open Go Sh

/-! ## the frame of a proof -/
section
variable {e : Env} {ctx ctx' : List HProp} {c : WP}
theorem Ent.condT {b : Bool} {x y : WP} (hb : b = true) (h : Ent e ctx x) : Ent e ctx (condK b x y) := by subst hb; exact h
theorem Ent.condF {b : Bool} {x y : WP} (hb : b = false) (h : Ent e ctx y) : Ent e ctx (condK b x y) := by subst hb; exact h
theorem Ent.cond {b : Bool} {x y : WP} (h : b = true → Ent e ctx x) (k : b = false → Ent e ctx y) : Ent e ctx (condK b x y) := by
  cases b
  · exact k rfl
  · exact h rfl
def inR (k : IntKind) (n : Int) : Prop := k.min ≤ n ∧ n ≤ k.max
theorem wrap_in {k : IntKind} {n : Int} (h : inR k n) : k.wrap n = n := by
  obtain ⟨h1, h2⟩ := h
  cases k <;> simp [IntKind.min, IntKind.max, IntKind.signed, IntKind.bits] at h1 h2 <;> simp [IntKind.wrap, IntKind.signed, IntKind.bits] <;> omega
theorem Ent.ar {k : IntKind} {n : Int} {f : Int → WP} (hn : inR k n) (h : Ent e ctx (f n)) : Ent e ctx (ArK k n f) := by
  unfold ArK; rw [wrap_in hn]; exact h
theorem Ent.arw {k : IntKind} {n : Int} {f : Int → WP} (h : Ent e ctx (f (k.wrap n))) : Ent e ctx (ArK k n f) := h
theorem Ent.nil {a : Addr} (h : Ent e ctx c) : Ent e ctx (NilK (.pointer (some a)) c) := fun w hw => ⟨rfl, h w hw⟩
theorem Ent.nilF {f : FuncId} {a b : Array Value} (h : Ent e ctx c) : Ent e ctx (NilK (.func (.func f) a b) c) := fun w hw => ⟨rfl, h w hw⟩
theorem Ent.join {ts : List (Nat × Kd)} {m : AS ts → WP} {k : AS ts} (h : Ent e ctx (m k)) : Ent e ctx (joinK ts m k) := h
theorem Ent.join0 {m : WP → WP} {k : WP} (J : List HProp) (hk : Ent e J k) (hm : ∀ k' : WP, Ent e J k' → Ent e ctx (m k')) : Ent e ctx (joinK [] m k) := hm k hk
theorem Ent.join1 {i : Nat} {kd : Kd} {m : (kd.T → WP) → WP} {k : kd.T → WP} (J : kd.T → List HProp) (hk : ∀ x, Ent e (J x) (k x))
    (hm : ∀ k' : kd.T → WP, (∀ x, Ent e (J x) (k' x)) → Ent e ctx (m k')) : Ent e ctx (joinK [(i, kd)] m k) := hm k hk
theorem Ent.join2 {i i2 : Nat} {kd kd2 : Kd} {m : (kd.T → kd2.T → WP) → WP} {k : kd.T → kd2.T → WP} (J : kd.T → kd2.T → List HProp) (hk : ∀ x y, Ent e (J x y) (k x y))
    (hm : ∀ k' : kd.T → kd2.T → WP, (∀ x y, Ent e (J x y) (k' x y)) → Ent e ctx (m k')) : Ent e ctx (joinK [(i, kd), (i2, kd2)] m k) := hm k hk
theorem Ent.join3 {i i2 i3 : Nat} {kd kd2 kd3 : Kd} {m : (kd.T → kd2.T → kd3.T → WP) → WP} {k : kd.T → kd2.T → kd3.T → WP} (J : kd.T → kd2.T → kd3.T → List HProp) (hk : ∀ x y z, Ent e (J x y z) (k x y z))
    (hm : ∀ k' : kd.T → kd2.T → kd3.T → WP, (∀ x y z, Ent e (J x y z) (k' x y z)) → Ent e ctx (m k')) : Ent e ctx (joinK [(i, kd), (i2, kd2), (i3, kd3)] m k) := hm k hk
theorem Ent.and {S : WP} (hS : ∀ w, Sat e (sepL ctx) w → S w) (h : Ent e ctx c) : Ent e ctx (andK S c) := fun w hw => ⟨hS w hw, h w hw⟩
theorem Ent.andI {R : List HProp} (hS : Imp ctx R) (h : Ent e ctx c) : Ent e ctx (andK (Sat e (sepL R)) c) := fun w hw => ⟨hw.imp hS, h w hw⟩
theorem Ent.draw {f : WP → WP} (R : List HProp) (hR : Imp ctx R) (h : Ent e ctx (f (Sat e (sepL R)))) : Ent e ctx (DrawK f) := fun w hw =>
  ⟨Sat e (sepL R), (hw.imp hR).drawn _, h _ (hw.drawn _)⟩
theorem Ent.draw0 {f : WP → WP} (h : Ent e ctx (f (Sat e (sepL ctx)))) : Ent e ctx (DrawK f) := Ent.draw ctx (Imp.refl _) h
/-- a loop: 'I n ..' holds where a round begins, n more rounds ahead at most -/
theorem Ent.loop0  {body : (WP) → WP} (I : Nat → List HProp) (n : Nat) (h0 : Imp ctx (I n))
    (hb : ∀ n (K : WP), (∀ m, m < n → Ent e (I m) (K)) → Ent e (I n) (body K)) :
    Ent e ctx (loopK [] (fun j => j) body) := fun _ hw =>
  ⟨fun n => Sat e (sepL (I n)), ⟨n, hw.imp h0⟩, fun n w h => hb n _ (fun m hm _ h => ⟨⟨m, hm⟩, h⟩) w h⟩
theorem Ent.loop1 {i0 : Nat} {k0 : Kd} {x0 : k0.T} {body : (k0.T → WP) → k0.T → WP} (I : Nat → k0.T → List HProp) (n : Nat) (h0 : Imp ctx (I n x0))
    (hb : ∀ n (K : k0.T → WP), (∀ m, m < n → ∀ y0, Ent e (I m y0) (K y0)) → ∀ y0, Ent e (I n y0) (body K y0)) :
    Ent e ctx (loopK [(i0, k0)] (fun j => j x0) body) := fun _ hw =>
  ⟨fun n y0 => Sat e (sepL (I n y0)), ⟨n, hw.imp h0⟩, fun n y0 w h => hb n _ (fun m hm y0 _ h => ⟨⟨m, hm⟩, h⟩) y0 w h⟩
theorem Ent.loop2 {i0 : Nat} {k0 : Kd} {x0 : k0.T} {i1 : Nat} {k1 : Kd} {x1 : k1.T} {body : (k0.T → k1.T → WP) → k0.T → k1.T → WP} (I : Nat → k0.T → k1.T → List HProp) (n : Nat) (h0 : Imp ctx (I n x0 x1))
    (hb : ∀ n (K : k0.T → k1.T → WP), (∀ m, m < n → ∀ y0 y1, Ent e (I m y0 y1) (K y0 y1)) → ∀ y0 y1, Ent e (I n y0 y1) (body K y0 y1)) :
    Ent e ctx (loopK [(i0, k0), (i1, k1)] (fun j => j x0 x1) body) := fun _ hw =>
  ⟨fun n y0 y1 => Sat e (sepL (I n y0 y1)), ⟨n, hw.imp h0⟩, fun n y0 y1 w h => hb n _ (fun m hm y0 y1 _ h => ⟨⟨m, hm⟩, h⟩) y0 y1 w h⟩
theorem Ent.loop3 {i0 : Nat} {k0 : Kd} {x0 : k0.T} {i1 : Nat} {k1 : Kd} {x1 : k1.T} {i2 : Nat} {k2 : Kd} {x2 : k2.T} {body : (k0.T → k1.T → k2.T → WP) → k0.T → k1.T → k2.T → WP} (I : Nat → k0.T → k1.T → k2.T → List HProp) (n : Nat) (h0 : Imp ctx (I n x0 x1 x2))
    (hb : ∀ n (K : k0.T → k1.T → k2.T → WP), (∀ m, m < n → ∀ y0 y1 y2, Ent e (I m y0 y1 y2) (K y0 y1 y2)) → ∀ y0 y1 y2, Ent e (I n y0 y1 y2) (body K y0 y1 y2)) :
    Ent e ctx (loopK [(i0, k0), (i1, k1), (i2, k2)] (fun j => j x0 x1 x2) body) := fun _ hw =>
  ⟨fun n y0 y1 y2 => Sat e (sepL (I n y0 y1 y2)), ⟨n, hw.imp h0⟩, fun n y0 y1 y2 w h => hb n _ (fun m hm y0 y1 y2 _ h => ⟨⟨m, hm⟩, h⟩) y0 y1 y2 w h⟩
theorem Ent.loop4 {i0 : Nat} {k0 : Kd} {x0 : k0.T} {i1 : Nat} {k1 : Kd} {x1 : k1.T} {i2 : Nat} {k2 : Kd} {x2 : k2.T} {i3 : Nat} {k3 : Kd} {x3 : k3.T} {body : (k0.T → k1.T → k2.T → k3.T → WP) → k0.T → k1.T → k2.T → k3.T → WP} (I : Nat → k0.T → k1.T → k2.T → k3.T → List HProp) (n : Nat) (h0 : Imp ctx (I n x0 x1 x2 x3))
    (hb : ∀ n (K : k0.T → k1.T → k2.T → k3.T → WP), (∀ m, m < n → ∀ y0 y1 y2 y3, Ent e (I m y0 y1 y2 y3) (K y0 y1 y2 y3)) → ∀ y0 y1 y2 y3, Ent e (I n y0 y1 y2 y3) (body K y0 y1 y2 y3)) :
    Ent e ctx (loopK [(i0, k0), (i1, k1), (i2, k2), (i3, k3)] (fun j => j x0 x1 x2 x3) body) := fun _ hw =>
  ⟨fun n y0 y1 y2 y3 => Sat e (sepL (I n y0 y1 y2 y3)), ⟨n, hw.imp h0⟩, fun n y0 y1 y2 y3 w h => hb n _ (fun m hm y0 y1 y2 y3 _ h => ⟨⟨m, hm⟩, h⟩) y0 y1 y2 y3 w h⟩
theorem Ent.loop5 {i0 : Nat} {k0 : Kd} {x0 : k0.T} {i1 : Nat} {k1 : Kd} {x1 : k1.T} {i2 : Nat} {k2 : Kd} {x2 : k2.T} {i3 : Nat} {k3 : Kd} {x3 : k3.T} {i4 : Nat} {k4 : Kd} {x4 : k4.T} {body : (k0.T → k1.T → k2.T → k3.T → k4.T → WP) → k0.T → k1.T → k2.T → k3.T → k4.T → WP} (I : Nat → k0.T → k1.T → k2.T → k3.T → k4.T → List HProp) (n : Nat) (h0 : Imp ctx (I n x0 x1 x2 x3 x4))
    (hb : ∀ n (K : k0.T → k1.T → k2.T → k3.T → k4.T → WP), (∀ m, m < n → ∀ y0 y1 y2 y3 y4, Ent e (I m y0 y1 y2 y3 y4) (K y0 y1 y2 y3 y4)) → ∀ y0 y1 y2 y3 y4, Ent e (I n y0 y1 y2 y3 y4) (body K y0 y1 y2 y3 y4)) :
    Ent e ctx (loopK [(i0, k0), (i1, k1), (i2, k2), (i3, k3), (i4, k4)] (fun j => j x0 x1 x2 x3 x4) body) := fun _ hw =>
  ⟨fun n y0 y1 y2 y3 y4 => Sat e (sepL (I n y0 y1 y2 y3 y4)), ⟨n, hw.imp h0⟩, fun n y0 y1 y2 y3 y4 w h => hb n _ (fun m hm y0 y1 y2 y3 y4 _ h => ⟨⟨m, hm⟩, h⟩) y0 y1 y2 y3 y4 w h⟩
theorem Ent.loop6 {i0 : Nat} {k0 : Kd} {x0 : k0.T} {i1 : Nat} {k1 : Kd} {x1 : k1.T} {i2 : Nat} {k2 : Kd} {x2 : k2.T} {i3 : Nat} {k3 : Kd} {x3 : k3.T} {i4 : Nat} {k4 : Kd} {x4 : k4.T} {i5 : Nat} {k5 : Kd} {x5 : k5.T} {body : (k0.T → k1.T → k2.T → k3.T → k4.T → k5.T → WP) → k0.T → k1.T → k2.T → k3.T → k4.T → k5.T → WP} (I : Nat → k0.T → k1.T → k2.T → k3.T → k4.T → k5.T → List HProp) (n : Nat) (h0 : Imp ctx (I n x0 x1 x2 x3 x4 x5))
    (hb : ∀ n (K : k0.T → k1.T → k2.T → k3.T → k4.T → k5.T → WP), (∀ m, m < n → ∀ y0 y1 y2 y3 y4 y5, Ent e (I m y0 y1 y2 y3 y4 y5) (K y0 y1 y2 y3 y4 y5)) → ∀ y0 y1 y2 y3 y4 y5, Ent e (I n y0 y1 y2 y3 y4 y5) (body K y0 y1 y2 y3 y4 y5)) :
    Ent e ctx (loopK [(i0, k0), (i1, k1), (i2, k2), (i3, k3), (i4, k4), (i5, k5)] (fun j => j x0 x1 x2 x3 x4 x5) body) := fun _ hw =>
  ⟨fun n y0 y1 y2 y3 y4 y5 => Sat e (sepL (I n y0 y1 y2 y3 y4 y5)), ⟨n, hw.imp h0⟩, fun n y0 y1 y2 y3 y4 y5 w h => hb n _ (fun m hm y0 y1 y2 y3 y4 y5 _ h => ⟨⟨m, hm⟩, h⟩) y0 y1 y2 y3 y4 y5 w h⟩
theorem Ent.loop7 {i0 : Nat} {k0 : Kd} {x0 : k0.T} {i1 : Nat} {k1 : Kd} {x1 : k1.T} {i2 : Nat} {k2 : Kd} {x2 : k2.T} {i3 : Nat} {k3 : Kd} {x3 : k3.T} {i4 : Nat} {k4 : Kd} {x4 : k4.T} {i5 : Nat} {k5 : Kd} {x5 : k5.T} {i6 : Nat} {k6 : Kd} {x6 : k6.T} {body : (k0.T → k1.T → k2.T → k3.T → k4.T → k5.T → k6.T → WP) → k0.T → k1.T → k2.T → k3.T → k4.T → k5.T → k6.T → WP} (I : Nat → k0.T → k1.T → k2.T → k3.T → k4.T → k5.T → k6.T → List HProp) (n : Nat) (h0 : Imp ctx (I n x0 x1 x2 x3 x4 x5 x6))
    (hb : ∀ n (K : k0.T → k1.T → k2.T → k3.T → k4.T → k5.T → k6.T → WP), (∀ m, m < n → ∀ y0 y1 y2 y3 y4 y5 y6, Ent e (I m y0 y1 y2 y3 y4 y5 y6) (K y0 y1 y2 y3 y4 y5 y6)) → ∀ y0 y1 y2 y3 y4 y5 y6, Ent e (I n y0 y1 y2 y3 y4 y5 y6) (body K y0 y1 y2 y3 y4 y5 y6)) :
    Ent e ctx (loopK [(i0, k0), (i1, k1), (i2, k2), (i3, k3), (i4, k4), (i5, k5), (i6, k6)] (fun j => j x0 x1 x2 x3 x4 x5 x6) body) := fun _ hw =>
  ⟨fun n y0 y1 y2 y3 y4 y5 y6 => Sat e (sepL (I n y0 y1 y2 y3 y4 y5 y6)), ⟨n, hw.imp h0⟩, fun n y0 y1 y2 y3 y4 y5 y6 w h => hb n _ (fun m hm y0 y1 y2 y3 y4 y5 y6 _ h => ⟨⟨m, hm⟩, h⟩) y0 y1 y2 y3 y4 y5 y6 w h⟩
theorem Ent.loop8 {i0 : Nat} {k0 : Kd} {x0 : k0.T} {i1 : Nat} {k1 : Kd} {x1 : k1.T} {i2 : Nat} {k2 : Kd} {x2 : k2.T} {i3 : Nat} {k3 : Kd} {x3 : k3.T} {i4 : Nat} {k4 : Kd} {x4 : k4.T} {i5 : Nat} {k5 : Kd} {x5 : k5.T} {i6 : Nat} {k6 : Kd} {x6 : k6.T} {i7 : Nat} {k7 : Kd} {x7 : k7.T} {body : (k0.T → k1.T → k2.T → k3.T → k4.T → k5.T → k6.T → k7.T → WP) → k0.T → k1.T → k2.T → k3.T → k4.T → k5.T → k6.T → k7.T → WP} (I : Nat → k0.T → k1.T → k2.T → k3.T → k4.T → k5.T → k6.T → k7.T → List HProp) (n : Nat) (h0 : Imp ctx (I n x0 x1 x2 x3 x4 x5 x6 x7))
    (hb : ∀ n (K : k0.T → k1.T → k2.T → k3.T → k4.T → k5.T → k6.T → k7.T → WP), (∀ m, m < n → ∀ y0 y1 y2 y3 y4 y5 y6 y7, Ent e (I m y0 y1 y2 y3 y4 y5 y6 y7) (K y0 y1 y2 y3 y4 y5 y6 y7)) → ∀ y0 y1 y2 y3 y4 y5 y6 y7, Ent e (I n y0 y1 y2 y3 y4 y5 y6 y7) (body K y0 y1 y2 y3 y4 y5 y6 y7)) :
    Ent e ctx (loopK [(i0, k0), (i1, k1), (i2, k2), (i3, k3), (i4, k4), (i5, k5), (i6, k6), (i7, k7)] (fun j => j x0 x1 x2 x3 x4 x5 x6 x7) body) := fun _ hw =>
  ⟨fun n y0 y1 y2 y3 y4 y5 y6 y7 => Sat e (sepL (I n y0 y1 y2 y3 y4 y5 y6 y7)), ⟨n, hw.imp h0⟩, fun n y0 y1 y2 y3 y4 y5 y6 y7 w h => hb n _ (fun m hm y0 y1 y2 y3 y4 y5 y6 y7 _ h => ⟨⟨m, hm⟩, h⟩) y0 y1 y2 y3 y4 y5 y6 y7 w h⟩
end
end Go.Proofs.YtiabhghlhnnnjaaGreatDoor.Sl
