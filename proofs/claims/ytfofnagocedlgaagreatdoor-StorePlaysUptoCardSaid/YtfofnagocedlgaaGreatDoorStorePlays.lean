/- StorePlays: ROWS OF CALLS ARE ANSWERED AS THE DOCUMENT SAYS, AND LEAVE WHAT IT SAYS (any acts, the first 80): within the bulk. -/
import Derived.Test.YtfofnagocedlgaaGreatDoorCards
import Derived.Test.YtfofnagocedlgaaGreatDoorTie
import Derived.Deep.DeepHandedRow
import Derived.Lib.LaidTab
import Derived.Test.YtfofnagocedlgaaGreatDoorKj
import Derived.Test.YtfofnagocedlgaaGreatDoorKl
set_option linter.unusedVariables false
set_option linter.unusedSimpArgs false
set_option maxRecDepth 100000
set_option maxHeartbeats 0
namespace Go.Proofs.YtfofnagocedlgaaGreatDoor.storePlays
open Go Sh Sl Tx
open Go.ChangeShapes Go.WideShapes Go.ChangeAt Go.RowKit
section
attribute [local irreducible] condK ArK NilK OpK FnK StK joinK loopK DrawK andK PuK NxK EnK vS uS bS callS invokeS
variable {e : Env} {ctx rest : List HProp}
theorem EB_ez : EB ez := ⟨by show 0 ≤ _; omega, by show 0 ≤ _; omega, by show 0 ≤ _; omega, by show 0 ≤ _; omega, by show 0 ≤ _; omega⟩
theorem own_ez {l : List HProp} : Imp l (OwnE ez l) := Imp.slN (sz := 2) (Imp.slN (sz := 2) (Imp.slN (sz := 1) (Imp.refl _)))
def PI (rb bytes most N : Nat) (v : Value) : HProp := exs fun (q : Nat × Hp × List (Option Et) × List Int × List Int × Nat) =>
  sepL [pur (v = ptr q.1 ∧ q.2.2.2.2.2 ≤ N), SRep q.2.1 q.1 q.2.2.1 q.2.2.2.1 q.2.2.2.2.1 bytes most q.2.2.2.2.2, RS q.2.1 rb q.2.2.1 q.2.2.2.1 q.2.2.2.2.1 bytes most, Sl.ro q.2.1]
variable {b rb bytes most N n : Nat} {M : Hp} {X : List (Option Et)} {tr kp : List Int} {v : Value}
theorem PI.open {p : WP} (h : ∀ b M X tr kp n, v = ptr b → n ≤ N → Ent e (SRep M b X tr kp bytes most n :: RS M rb X tr kp bytes most :: Sl.ro M :: rest) p) : Ent e (PI rb bytes most N v :: rest) p :=
  Ent.exs fun q => Ent.g4 (Ent.pur fun ⟨h1, h2⟩ => h _ _ _ _ _ _ h1 h2)
theorem PI.shut (h2 : n ≤ N) : Imp (SRep M b X tr kp bytes most n :: RS M rb X tr kp bytes most :: Sl.ro M :: rest) (PI rb bytes most N (ptr b) :: rest) :=
  Imp.exs (b, M, X, tr, kp, n) (Imp.g4 (Imp.pur ⟨rfl, h2⟩ (Imp.refl _)))
/-- what a Put leaves -/
def PutR (M M' : Hp) (x : Et) (bytes most : Nat) (s s' : St3) (r : Int) : Prop := Hp.le M M' ∧
  ((r = 7 ∧ (size x > bytes ∨ most = 0) ∧ s' = gone3 (pdP x) s) ∨
   (r = 0 ∧ size x ≤ bytes ∧ 0 < most ∧ ∃ y s2, dE y = dE x ∧ RdEM M' y ∧ s2 = evS most bytes (size x) 65 (gone3 (pdP x) s) ∧ s' = ⟨s2.X.set (free s2.X) (some y), (free s2.X : Int) :: s2.tr, s2.kp⟩))
theorem put_m {K : Int → WP} {x : Et} (hr : RdE rest x) (hb : EB x) (hn : n < 4503599627370496)
    (h : ∀ r M' s' n', n' ≤ n + 1 → PutR M M' x bytes most ⟨X, tr, kp⟩ s' r → Ent e (SRep M' b s'.X s'.tr s'.kp bytes most n' :: Sl.ro M' :: rest) (K r)) :
    Ent e (SRep M b X tr kp bytes most n :: Sl.ro M :: rest) (store_Store_Put (ptr b) (.agg (ec x).toArray) K) :=
  put_spec hr hb hn (fun h7 => h 7 M _ n (by omega) ⟨Hp.le_refl _, .inl ⟨rfl, h7, rfl⟩⟩)
    fun M' y hM hd hy h1 h2 s2 hs _ => h 0 M' ⟨s2.X.set (free s2.X) (some y), (free s2.X : Int) :: s2.tr, s2.kp⟩ (n + 1) (Nat.le_refl _) ⟨hM, .inr ⟨rfl, h1, h2, y, s2, hd, hy, hs, rfl⟩⟩
theorem PutR.dE {M M' : Hp} {x z : Et} {s s' : St3} {r : Int} (h : PutR M M' z bytes most s s' r) (hd : Tx.dE z = Tx.dE x) : PutR M M' x bytes most s s' r := by
  have h1 : pdP z = pdP x := funext fun w => by
    obtain ⟨h1, _, _, h4, _⟩ := dE_iff.1 hd
    unfold pdP
    rw [h1, h4]
  have h2 := size_of hd
  obtain ⟨hM, h⟩ := h
  rw [h1, h2] at h
  refine ⟨hM, ?_⟩
  rcases h with h | ⟨g1, g2, g3, y, s2, g4, g5⟩
  · exact .inl h
  · exact .inr ⟨g1, g2, g3, y, s2, g4.trans hd, g5⟩
theorem rput_m {K : Int → WP} {x : Et} {M0 : Hp} {s' : St3} {r : Int} (hr : RdE rest x) (hb : EB x) (hP : PutR M0 M x bytes most ⟨X, tr, kp⟩ s' r)
    (h : ∀ M', Hp.le M M' → Ent e (RS M' rb s'.X s'.tr s'.kp bytes most :: Sl.ro M' :: rest) (K r)) :
    Ent e (RS M rb X tr kp bytes most :: Sl.ro M :: rest) (ref21_Store_Put (ptr rb) (.agg (ec x).toArray) K) := by
  obtain ⟨_, ⟨rfl, h1, rfl⟩ | ⟨rfl, h1, h2, y, s2, h3, h4, h5, rfl⟩⟩ := hP
  · exact rput_spec (y0 := x) hr hb (fun _ _ => absurd h1 (by omega)) (fun M' hM _ => h M' hM) fun M' hM _ _ => absurd h1 (by omega)
  · exact rput_spec (y0 := y) hr hb (fun _ _ => ⟨h3, h4⟩) (fun M' hM hh => absurd hh (by omega)) fun M' hM _ _ s3 hs3 => by
      have := h M' hM
      rw [h5] at this
      rw [hs3]
      exact this
/-- what is one's own is spoilt -/
theorem fc_set {l : List Tx.Fd} {i : Nat} {f : Tx.Fd} {v : Bs} (h : l[i]? = some f) : (fc l).set (i * 2 + 1) (.string (ba v)) = fc (l.set i (f.1, v)) := by
  induction l generalizing i with
  | nil => simp at h
  | cons g r ih =>
    cases i with
    | zero =>
      simp only [List.getElem?_cons_zero, Option.some.injEq] at h
      subst h
      simp [fc]
    | succ i =>
      simp only [List.getElem?_cons_succ] at h
      have := ih h
      simp only [fc, List.map_cons, List.flatten_cons, List.set_cons_succ] at this ⊢
      rw [show (i + 1) * 2 + 1 = (i * 2 + 1) + 1 + 1 by omega]
      simp only [List.cons_append, List.nil_append, List.set_cons_succ, this]
theorem spec {K : Bool → WP} {by_ en : Int} {a : Option Addr} {c : Nat} {xs : List Tx.Act} (hx : Rd ctx a ((xs.map acC).flatten))
    (hxs : ∀ y ∈ xs, (RdE ctx y.x ∧ Rd ctx y.a (fc y.l)) ∧ EB y.x ∧ fsz y.l ≤ 268435456) (h : Ent e ctx (K true)) :
    Ent e ctx (law21_StorePlays by_ en (.slice a xs.length c) K) := by
  (refine Ent.fn law21_StorePlays_ok ?_; unfold law21_StorePlays_sh)
  refine Ent.imp (ctx' := Sl.ro (fun _ => none) :: ctx) (fun hp k => ⟨fun _ => none, hp, fun _ => .inl rfl, (fun _ _ hh => by cases hh), Hp.le_refl _, (fun _ _ hh => by cases hh), k⟩) ?_
  refine awake_spec fun M0 l0 => ?_
  refine Ent.wF ?_
  refine snew_spec (fun hh => ?_) fun b bytes most hb hm hb2 hm2 => ?_
  · refine rnew_s_spec (fun _ => ?_) fun _ bb mm e1 e2 e3 e4 => ?_
    · refine Ent.join ?_
      (refine Ent.go ?_)
      exact h.drop
    · exfalso
      exact of_decide_eq_false hh ⟨by omega, by omega, by omega, by omega⟩
  refine Ent.imp (Imp.perm (.swap _ _ _)) ?_
  refine rnew_s_spec (fun hh => absurd ⟨by omega, by omega, by omega, by omega⟩ (of_decide_eq_false hh)) fun rb bb mm e1 e2 e3 e4 => ?_
  obtain rfl : bb = bytes := by omega
  obtain rfl : mm = most := by omega
  refine Ent.join ?_
  refine Ent.wF ?_
  refine Ent.opB (by apply Pu.still; exact st_nilP rfl (.inr rfl)) ?_
  refine Ent.opB (by apply Pu.still; exact st_nilP rfl (.inr rfl)) ?_
  refine Ent.woB ?_
  refine Ent.wF ?_
  refine Ent.opB (by apply Pu.still; exact st_nilP rfl (.inr rfl)) ?_
  refine Ent.wF ?_
  refine Ent.wlen ?_
  refine Ent.rngL1 (k0 := .raw) xs.length (fun k (v : Value) => pur (k ≤ 80) :: PI rb bb mm (3 * k) v :: ctx) rfl ?_ ?_
  · refine Imp.pur (by omega) ?_
    refine Imp.trans ?_ (PI.shut (n := 0) (M := M0) (X := List.replicate 64 none) (tr := []) (kp := []) (by omega))
    show Imp (RS M0 rb _ _ _ bb mm :: Sl.ro M0 :: SRep M0 b _ _ _ bb mm 0 :: ctx) _
    (focus ((repeat ((with_reducible apply Imp.pick); (repeat (first | exact Pick.hd | apply Pick.tl)))); (repeat (first | exact Imp.refl _ | exact Imp.nil _ | apply Imp.drop)); done))
  intro k hk K' hK v
  refine Ent.pur fun hk8 => ?_
  by_cases hl : k < xs.length
  rotate_left
  · refine Ent.wF ?_
    exact h.drop
  obtain ⟨y, hxk⟩ : ∃ y, xs[(k : Int).toNat]? = some y := ⟨_, List.getElem?_eq_getElem hl⟩
  obtain ⟨⟨hy1, hy2⟩, hy3, hy4⟩ := hxs y (List.mem_of_getElem? hxk)
  refine Ent.wT ?_
  refine Ent.wiAh (f := acC) ?_
  refine Ent.alloc' fun ab => ?_
  refine Ent.wstoA (l' := acC y) ?_ (vs := acC y) (hl := rfl) (hu := by (repeat (first | exact Upd.hd | apply Upd.tl)))
  by_cases hk4 : k = 80
  · refine Ent.wT ?_ (by simp; omega)
    exact h.drop.drop
  refine Ent.wF ?_ (by simp; omega)
  refine Ent.join1 (kd := .raw) (fun v => PI rb bb mm (3 * (k + 1)) v :: ctx) ?_ ?_
  · intro v
    refine PI.open fun b M X tr kp n hv hn => ?_
    subst hv
    refine Ent.opB (by apply Pu.still; exact st_nilP rfl (.inr rfl)) ?_
    refine Ent.wF ?_
    refine same_law_spec fun M' hM => ?_
    refine Ent.wF ?_
    refine Ent.war ?_
    refine Ent.imp ?_ (hK hl _)
    exact Imp.pur (by omega) (PI.shut hn)
  intro j4 hj4
  have fin : ∀ {b M X tr kp n}, n ≤ 3 * (k + 1) → Ent e (SRep M b X tr kp bb mm n :: RS M rb X tr kp bb mm :: Sl.ro M :: ctx) (j4 (ptr b)) := fun {b M X tr kp n} hn => by
    refine Ent.imp (PI.shut hn) ?_
    exact hj4 _
  clear hj4
  refine Ent.imp (ctx' := PI rb bb mm (3 * k) v :: pt ab (acC y) :: ctx) (by (focus ((repeat ((with_reducible apply Imp.pick); (repeat (first | exact Pick.hd | apply Pick.tl)))); (repeat (first | exact Imp.refl _ | exact Imp.nil _ | apply Imp.drop)); done))) ?_
  refine PI.open fun b M X tr kp n hv hn => ?_
  subst hv
  have hwl := fsz_len y.x.wl
  have hwb := hy3.w
  refine Ent.wfI ?_
  refine Ent.condE (fun hw => ?_) fun hw => ?_
  · -- Put
    refine Ent.wfA (cs := ec y.x) ?_
    refine own_spec (hy1.mono (by (focus (repeat (first | exact Imp.refl _ | exact Imp.nil _ | apply Imp.drop))))) hy3 fun z hz => ?_
    refine Ent.alloc' fun ob => ?_
    refine Ent.wstoA (l' := ec z) ?_ (vs := ec z) (hl := rfl) (hu := by (repeat (first | exact Upd.hd | apply Upd.tl)))
    refine Ent.draw [pt ob (ec z), pt ab (acC y)] (by (focus ((repeat ((with_reducible apply Imp.pick); (repeat (first | exact Pick.hd | apply Pick.tl)))); (repeat (first | exact Imp.refl _ | exact Imp.nil _ | apply Imp.drop)); done))) ?_
    refine Ent.stR (v := .agg (ec z).toArray) (st_loadA (n := 9) (cs := ec z) .hd rfl rfl rfl) ?_
    refine Ent.wgA (cs := ec y.x) ?_
    refine Ent.imp (ctx' := OwnE z (pt ob (ec z) :: pt ab (acC y) :: SRep M b X tr kp bb mm n :: RS M rb X tr kp bb mm :: Sl.ro M :: ctx)) (by (focus ((repeat ((with_reducible apply Imp.pick); (repeat (first | exact Pick.hd | apply Pick.tl)))); (repeat (first | exact Imp.refl _ | exact Imp.nil _ | apply Imp.drop)); done))) ?_
    refine OwnE.rd fun hrz => ?_
    refine Ent.imp (ctx' := SRep M b X tr kp bb mm n :: Sl.ro M :: OwnE z (pt ob (ec z) :: pt ab (acC y) :: RS M rb X tr kp bb mm :: ctx)) (by (focus ((repeat ((with_reducible apply Imp.pick); (repeat (first | exact Pick.hd | apply Pick.tl)))); (repeat (first | exact Imp.refl _ | exact Imp.nil _ | apply Imp.drop)); done))) ?_
    refine put_m (x := z) (hrz _ (by (repeat (first | exact Has.hd | apply Has.tl))) (by (repeat (first | exact Has.hd | apply Has.tl))) (by (repeat (first | exact Has.hd | apply Has.tl)))) (EB.of hz hy3) (by omega) fun r M1 s1 n1 hn1 hP => ?_
    refine Ent.wand ?_
    have hP' := hP.dE hz
    have hM1 := hP.1
    refine Ent.imp (ctx' := RS M1 rb X tr kp bb mm :: Sl.ro M1 :: OwnE z (pt ob (ec z) :: pt ab (acC y) :: SRep M1 b s1.X s1.tr s1.kp bb mm n1 :: ctx)) (Imp.trans (b := RS M rb X tr kp bb mm :: Sl.ro M1 :: OwnE z (pt ob (ec z) :: pt ab (acC y) :: SRep M1 b s1.X s1.tr s1.kp bb mm n1 :: ctx)) (by (focus ((repeat ((with_reducible apply Imp.pick); (repeat (first | exact Pick.hd | apply Pick.tl)))); (repeat (first | exact Imp.refl _ | exact Imp.nil _ | apply Imp.drop)); done))) (RS.mono hM1)) ?_
    refine rput_m (x := y.x) (hy1.mono (by (focus (repeat (first | exact Imp.refl _ | exact Imp.nil _ | apply Imp.drop))))) hy3 hP' fun M2 hM2 => ?_
    refine Ent.wand ?_
    refine Ent.wF ?_ (by simp)
    have hfin : ∀ {G : List HProp}, Imp G (SRep M1 b s1.X s1.tr s1.kp bb mm n1 :: RS M2 rb s1.X s1.tr s1.kp bb mm :: Sl.ro M2 :: ctx) → Ent e G (j4 (ptr b)) := fun {G} hG => by
      refine Ent.imp (hG.trans (SRep.mono hM2)) (fin (by omega))
    have hzb := (EB.of hz hy3).b
    -- the entry's memory is spoilt
    (refine Ent.go ?_)
    refine Ent.rngL0 z.bl.length (fun j => (exs fun (q : List Int) => sepL [SlO z.ba_ z.bl.length z.bk 1 (q.map (.int .u8 ·))]) :: SlO z.fa z.fl.length z.fk 2 (fc z.fl) :: pt ob (ec z) :: SRep M1 b s1.X s1.tr s1.kp bb mm n1 :: RS M2 rb s1.X s1.tr s1.kp bb mm :: Sl.ro M2 :: ctx) rfl ?_ ?_
    · refine Imp.trans (b := SlO z.ba_ z.bl.length z.bk 1 (u8 z.bl) :: SlO z.fa z.fl.length z.fk 2 (fc z.fl) :: pt ob (ec z) :: SRep M1 b s1.X s1.tr s1.kp bb mm n1 :: RS M2 rb s1.X s1.tr s1.kp bb mm :: Sl.ro M2 :: ctx) (by (focus ((repeat ((with_reducible apply Imp.pick); (repeat (first | exact Pick.hd | apply Pick.tl)))); (repeat (first | exact Imp.refl _ | exact Imp.nil _ | apply Imp.drop)); done))) ?_
      refine Imp.exs (z.bl.map fun c => (c.toNat : Int)) (Imp.g1 ?_)
      rw [List.map_map]
      exact Imp.refl _
    intro j hj K2 hK2
    refine Ent.exs fun q => Ent.g1 ?_
    by_cases hjl : j < z.bl.length
    · refine Ent.slO fun k1 _ _ _ => ?_
      rw [List.length_map, Nat.mul_one] at k1
      obtain ⟨v, hv⟩ : ∃ v, q[(j : Int).toNat]? = some v := ⟨_, List.getElem?_eq_getElem (by rw [k1]; exact hjl)⟩
      refine Ent.wT ?_
      (refine Ent.go ?_)
      refine Ent.opI (st_xor).still ?_
      obtain ⟨wv, hwv⟩ : ∃ w, w = IntKind.u8.wrap (((BitVec.ofInt IntKind.u8.bits v ^^^ BitVec.ofInt IntKind.u8.bits 255).toNat : Nat) : Int) := ⟨_, rfl⟩
      rw [← hwv]
      refine Ent.wiWo ?_
      refine Ent.war ?_
      refine Ent.imp ?_ (hK2 hjl)
      refine Imp.exs (q.set j wv) (Imp.g1 ?_)
      rw [List.map_set, Int.toNat_natCast]
      exact Imp.refl _
    clear hK2
    refine Ent.wF ?_
    (refine Ent.go ?_)
    have hzf : fsz z.fl ≤ 268435456 := (EB.of hz hy3).f
    refine Ent.rngL0 z.fl.length (fun j => (exs fun (q : List Tx.Fd) => sepL [pur (q.length = z.fl.length ∧ ∀ f ∈ q, f.2.length ≤ 268435456 + j), SlO z.fa z.fl.length z.fk 2 (fc q)]) :: pt ob (ec z) :: SRep M1 b s1.X s1.tr s1.kp bb mm n1 :: RS M2 rb s1.X s1.tr s1.kp bb mm :: Sl.ro M2 :: ctx) rfl ?_ ?_
    · refine Imp.trans (b := SlO z.fa z.fl.length z.fk 2 (fc z.fl) :: pt ob (ec z) :: SRep M1 b s1.X s1.tr s1.kp bb mm n1 :: RS M2 rb s1.X s1.tr s1.kp bb mm :: Sl.ro M2 :: ctx) (by (focus ((repeat ((with_reducible apply Imp.pick); (repeat (first | exact Pick.hd | apply Pick.tl)))); (repeat (first | exact Imp.refl _ | exact Imp.nil _ | apply Imp.drop)); done))) ?_
      exact Imp.exs z.fl (Imp.g2 (Imp.pur ⟨rfl, fun f hf => by have := fsz_mem hf; omega⟩ (Imp.refl _)))
    intro j hj K2 hK2
    refine Ent.exs fun q => Ent.g2 (Ent.pur fun ⟨hq1, hq2⟩ => ?_)
    by_cases hjl : j < z.fl.length
    · obtain ⟨f, hf⟩ : ∃ f, q[j]? = some f := ⟨_, List.getElem?_eq_getElem (by omega)⟩
      have hfl := fsz_len z.fl
      refine Ent.wT ?_
      refine Ent.rdS fun r1 _ => ?_
      (refine Ent.go ?_)
      refine fdAt (r1 _ .hd) hf hjl (.inr ⟨rfl, rfl⟩) ?_
      have hf2 := hq2 f (List.mem_of_getElem? hf)
      refine addB (a := f.2) (b := [120]) (by simp; omega) ?_
      refine Ent.wfWo ?_
      refine Ent.war ?_
      refine Ent.imp ?_ (hK2 hjl)
      refine Imp.exs (q.set j (f.1, f.2 ++ [120])) (Imp.g2 (Imp.pur ⟨by simpa using hq1, fun g hg => ?_⟩ ?_))
      · rcases List.mem_or_eq_of_mem_set hg with hg | hg
        · have := hq2 g hg; omega
        · rw [hg]; simp; omega
      · rw [fc_set hf]
        exact Imp.refl _
    · refine Ent.wF ?_
      exact hfin (by (focus ((repeat ((with_reducible apply Imp.pick); (repeat (first | exact Pick.hd | apply Pick.tl)))); (repeat (first | exact Imp.refl _ | exact Imp.nil _ | apply Imp.drop)); done)))
  by_cases h12 : y.w = 1 ∨ y.w = 2
  · refine Ent.join1 (kd := .bool) (fun t => pur (t = true) :: SRep M b X tr kp bb mm n :: RS M rb X tr kp bb mm :: Sl.ro M :: pt ab (acC y) :: ctx) ?_ ?_
    rotate_left
    · intro j9 hj9
      rcases h12 with h1 | h1
      · rw [h1]
        refine Ent.wT ?_
        exact (hj9 true).imp (Imp.pur rfl (Imp.refl _))
      · rw [h1]
        refine Ent.wF ?_
        exact (hj9 true).imp (Imp.pur rfl (Imp.refl _))
    intro t
    refine Ent.pur fun ht => ?_
    subst ht
    refine Ent.wT ?_
    refine Ent.alloc' fun xb => ?_
    refine Ent.alloc' fun yb => ?_
    refine Ent.join2 (kd := .bool) (kd2 := .bool) (fun t u => (exs fun (q : Et × Et × List Int × List Int × Nat) => sepL [pur (t = u ∧ dE q.1 = dE q.2.1 ∧ EB q.1 ∧ EB q.2.1 ∧ q.2.2.2.2 ≤ n + 2), sepL (OwnE q.1 [pt xb (ec q.1)]), sepL (OwnE q.2.1 [pt yb (ec q.2.1)]), SRep M b X q.2.2.1 q.2.2.2.1 bb mm q.2.2.2.2, RS M rb X q.2.2.1 q.2.2.2.1 bb mm]) :: Sl.ro M :: ctx) ?_ ?_
    rotate_left
    · intro j10 hj10
      have hto : ∀ (p q : Et) tr2 kp2 n2 (t : Bool) {G : List HProp}, dE p = dE q → EB p → EB q → n2 ≤ n + 2 → Imp G (OwnE p (pt xb (ec p) :: OwnE q (pt yb (ec q) :: SRep M b X tr2 kp2 bb mm n2 :: RS M rb X tr2 kp2 bb mm :: Sl.ro M :: ctx))) → Ent e G (j10 t t) := fun p q tr2 kp2 n2 t {G} h1 h2 h3 h4 hG => by
        refine Ent.imp (hG.trans ?_) (hj10 t t)
        exact Imp.exs (p, q, tr2, kp2, n2) (Imp.g5 (Imp.pur ⟨rfl, h1, h2, h3, h4⟩ (Imp.g4 (Imp.cons (Imp.cons (Imp.cons (Imp.cons (Imp.g4 (Imp.refl _)))))))))
      clear hj10
      have own2 : ∀ {l : List HProp}, Imp l (OwnE ez (OwnE ez l)) := own_ez.trans own_ez
      refine Ent.wfI ?_
      refine Ent.condE (fun hw1 => ?_) fun hw1 => ?_
      · refine Ent.wfS ?_
        refine Ent.wfR ?_
        refine Ent.imp (ctx' := SRep M b X tr kp bb mm n :: Sl.ro M :: RS M rb X tr kp bb mm :: pt xb (ec ez) :: pt yb (ec ez) :: pt ab (acC y) :: ctx) (by show Imp (pt yb (ec ez) :: pt xb (ec ez) :: _) _; (focus ((repeat ((with_reducible apply Imp.pick); (repeat (first | exact Pick.hd | apply Pick.tl)))); (repeat (first | exact Imp.refl _ | exact Imp.nil _ | apply Imp.drop)); done))) ?_
        refine get_s_spec (url := y.url) (l := y.l) (by omega) (hy2.mono (by (focus (repeat (first | exact Imp.refl _ | exact Imp.nil _ | apply Imp.drop))))) hy4 (fun hf => ?_) fun i x ya hf hx hya hbx => ?_
        · refine Ent.wstoA (l' := ec ez) ?_ (vs := ec ez) (hl := rfl) (hu := by (repeat (first | exact Upd.hd | apply Upd.tl)))
          refine Ent.wfS ?_
          refine Ent.wfR ?_
          refine Ent.imp (ctx' := RS M rb X tr kp bb mm :: Sl.ro M :: SRep M b X tr kp bb mm n :: pt xb (ec ez) :: pt yb (ec ez) :: pt ab (acC y) :: ctx) (by (focus ((repeat ((with_reducible apply Imp.pick); (repeat (first | exact Pick.hd | apply Pick.tl)))); (repeat (first | exact Imp.refl _ | exact Imp.nil _ | apply Imp.drop)); done))) ?_
          refine rget_spec (url := y.url) (l := y.l) (hy2.mono (by (focus (repeat (first | exact Imp.refl _ | exact Imp.nil _ | apply Imp.drop))))) hy4 (fun _ => ?_) fun i x ya hf2 _ _ _ => by rw [hf] at hf2; cases hf2
          refine Ent.wstoA (l' := ec ez) ?_ (vs := ec ez) (hl := rfl) (hu := by (repeat (first | exact Upd.hd | apply Upd.tl)))
          refine hto ez ez tr kp n false rfl EB_ez EB_ez (by omega) ?_
          refine own2.trans ?_
          (focus ((repeat ((with_reducible apply Imp.pick); (repeat (first | exact Pick.hd | apply Pick.tl)))); (repeat (first | exact Imp.refl _ | exact Imp.nil _ | apply Imp.drop)); done))
        · refine Ent.wstoA (l' := ec ya) ?_ (vs := ec ya) (hl := rfl) (hu := by (repeat (first | exact Upd.hd | apply Upd.tl)))
          refine Ent.wfS ?_
          refine Ent.wfR ?_
          refine Ent.imp (ctx' := RS M rb X tr kp bb mm :: Sl.ro M :: OwnE ya (SRep M b X (Lr.toT tr kp (mm * 2 / 3) i).1 (Lr.toT tr kp (mm * 2 / 3) i).2 bb mm (n + 2) :: pt xb (ec ya) :: pt yb (ec ez) :: pt ab (acC y) :: ctx)) (by (focus ((repeat ((with_reducible apply Imp.pick); (repeat (first | exact Pick.hd | apply Pick.tl)))); (repeat (first | exact Imp.refl _ | exact Imp.nil _ | apply Imp.drop)); done))) ?_
          refine rget_spec (url := y.url) (l := y.l) (hy2.mono (by (focus (repeat (first | exact Imp.refl _ | exact Imp.nil _ | apply Imp.drop))))) hy4 (fun hf2 => by rw [hf] at hf2; cases hf2) fun i2 x2 yb2 hf2 hx2 hya2 hbx2 => ?_
          rw [hf] at hf2
          obtain rfl : i = i2 := Option.some.inj hf2
          rw [hx] at hx2
          obtain rfl : x = x2 := Option.some.inj (Option.some.inj hx2)
          refine Ent.wstoA (l' := ec yb2) ?_ (vs := ec yb2) (hl := rfl) (hu := by (repeat (first | exact Upd.hd | apply Upd.tl)))
          refine hto ya yb2 (Lr.toT tr kp (mm * 2 / 3) i).1 (Lr.toT tr kp (mm * 2 / 3) i).2 (n + 2) true (hya.trans hya2.symm) (EB.of hya hbx) (EB.of hya2 hbx) (by omega) ?_
          (focus ((repeat ((with_reducible apply Imp.pick); (repeat (first | exact Pick.hd | apply Pick.tl)))); (repeat (first | exact Imp.refl _ | exact Imp.nil _ | apply Imp.drop)); done))
      · refine Ent.wfS ?_
        refine Ent.wfR ?_
        refine Ent.imp (ctx' := SRep M b X tr kp bb mm n :: Sl.ro M :: RS M rb X tr kp bb mm :: pt xb (ec ez) :: pt yb (ec ez) :: pt ab (acC y) :: ctx) (by show Imp (pt yb (ec ez) :: pt xb (ec ez) :: _) _; (focus ((repeat ((with_reducible apply Imp.pick); (repeat (first | exact Pick.hd | apply Pick.tl)))); (repeat (first | exact Imp.refl _ | exact Imp.nil _ | apply Imp.drop)); done))) ?_
        refine look_spec (url := y.url) (l := y.l) (hy2.mono (by (focus (repeat (first | exact Imp.refl _ | exact Imp.nil _ | apply Imp.drop))))) hy4 (fun hf => ?_) fun i x ya hf hx hya hbx => ?_
        · refine Ent.wstoA (l' := ec ez) ?_ (vs := ec ez) (hl := rfl) (hu := by (repeat (first | exact Upd.hd | apply Upd.tl)))
          refine Ent.wfS ?_
          refine Ent.wfR ?_
          refine Ent.imp (ctx' := RS M rb X tr kp bb mm :: Sl.ro M :: SRep M b X tr kp bb mm n :: pt xb (ec ez) :: pt yb (ec ez) :: pt ab (acC y) :: ctx) (by (focus ((repeat ((with_reducible apply Imp.pick); (repeat (first | exact Pick.hd | apply Pick.tl)))); (repeat (first | exact Imp.refl _ | exact Imp.nil _ | apply Imp.drop)); done))) ?_
          refine rlook_spec (url := y.url) (l := y.l) (hy2.mono (by (focus (repeat (first | exact Imp.refl _ | exact Imp.nil _ | apply Imp.drop))))) hy4 (fun _ => ?_) fun i x ya hf2 _ _ _ => by rw [hf] at hf2; cases hf2
          refine Ent.wstoA (l' := ec ez) ?_ (vs := ec ez) (hl := rfl) (hu := by (repeat (first | exact Upd.hd | apply Upd.tl)))
          refine hto ez ez tr kp n false rfl EB_ez EB_ez (by omega) ?_
          refine own2.trans ?_
          (focus ((repeat ((with_reducible apply Imp.pick); (repeat (first | exact Pick.hd | apply Pick.tl)))); (repeat (first | exact Imp.refl _ | exact Imp.nil _ | apply Imp.drop)); done))
        · refine Ent.wstoA (l' := ec ya) ?_ (vs := ec ya) (hl := rfl) (hu := by (repeat (first | exact Upd.hd | apply Upd.tl)))
          refine Ent.wfS ?_
          refine Ent.wfR ?_
          refine Ent.imp (ctx' := RS M rb X tr kp bb mm :: Sl.ro M :: OwnE ya (SRep M b X tr kp bb mm n :: pt xb (ec ya) :: pt yb (ec ez) :: pt ab (acC y) :: ctx)) (by (focus ((repeat ((with_reducible apply Imp.pick); (repeat (first | exact Pick.hd | apply Pick.tl)))); (repeat (first | exact Imp.refl _ | exact Imp.nil _ | apply Imp.drop)); done))) ?_
          refine rlook_spec (url := y.url) (l := y.l) (hy2.mono (by (focus (repeat (first | exact Imp.refl _ | exact Imp.nil _ | apply Imp.drop))))) hy4 (fun hf2 => by rw [hf] at hf2; cases hf2) fun i2 x2 yb2 hf2 hx2 hya2 hbx2 => ?_
          rw [hf] at hf2
          obtain rfl : i = i2 := Option.some.inj hf2
          rw [hx] at hx2
          obtain rfl : x = x2 := Option.some.inj (Option.some.inj hx2)
          refine Ent.wstoA (l' := ec yb2) ?_ (vs := ec yb2) (hl := rfl) (hu := by (repeat (first | exact Upd.hd | apply Upd.tl)))
          refine hto ya yb2 tr kp n true (hya.trans hya2.symm) (EB.of hya hbx) (EB.of hya2 hbx) (by omega) ?_
          (focus ((repeat ((with_reducible apply Imp.pick); (repeat (first | exact Pick.hd | apply Pick.tl)))); (repeat (first | exact Imp.refl _ | exact Imp.nil _ | apply Imp.drop)); done))
    intro t u
    refine Ent.exs fun ⟨p, q, tr2, kp2, n2⟩ => Ent.g5 (Ent.pur fun ⟨f1, f2, f3, f4, f5⟩ => ?_)
    dsimp only at f1 f2 f3 f4 f5
    dsimp only
    subst f1
    refine Ent.g4 ?_
    show Ent e (OwnE p (pt xb (ec p) :: sepL (OwnE q [pt yb (ec q)]) :: SRep M b X tr2 kp2 bb mm n2 :: RS M rb X tr2 kp2 bb mm :: Sl.ro M :: ctx)) _
    refine OwnE.rd fun hrp => ?_
    refine Ent.imp (ctx' := sepL (OwnE q [pt yb (ec q)]) :: OwnE p (pt xb (ec p) :: SRep M b X tr2 kp2 bb mm n2 :: RS M rb X tr2 kp2 bb mm :: Sl.ro M :: ctx)) (by (focus ((repeat ((with_reducible apply Imp.pick); (repeat (first | exact Pick.hd | apply Pick.tl)))); (repeat (first | exact Imp.refl _ | exact Imp.nil _ | apply Imp.drop)); done))) ?_
    refine Ent.g4 ?_
    show Ent e (OwnE q (pt yb (ec q) :: OwnE p (pt xb (ec p) :: SRep M b X tr2 kp2 bb mm n2 :: RS M rb X tr2 kp2 bb mm :: Sl.ro M :: ctx))) _
    refine OwnE.rd fun hrq => ?_
    refine Ent.join ?_
    refine Ent.woB ?_
    refine Ent.wF ?_ (by simp)
    refine Ent.wlA (cs := ec p) ?_
    refine Ent.wlA (cs := ec q) ?_
    refine same_e_spec (x := p) (y := q) (hrp _ (by (repeat (first | exact Has.hd | apply Has.tl))) (by (repeat (first | exact Has.hd | apply Has.tl))) (by (repeat (first | exact Has.hd | apply Has.tl)))) (hrq _ (by (repeat (first | exact Has.hd | apply Has.tl))) (by (repeat (first | exact Has.hd | apply Has.tl))) (by (repeat (first | exact Has.hd | apply Has.tl)))) f3 f4 ?_
    rw [decide_eq_true f2]
    refine Ent.wF ?_
    have hzb := f3.b
    have hfin : ∀ {G : List HProp}, Imp G (SRep M b X tr2 kp2 bb mm n2 :: RS M rb X tr2 kp2 bb mm :: Sl.ro M :: ctx) → Ent e G (j4 (ptr b)) := fun {G} hG => by
      refine Ent.imp hG (fin (by omega))
    (refine Ent.go ?_)
    refine Ent.rngL0 p.bl.length (fun j => (exs fun (q : List Int) => sepL [SlO p.ba_ p.bl.length p.bk 1 (q.map (.int .u8 ·))]) :: pt xb (ec p) :: SRep M b X tr2 kp2 bb mm n2 :: RS M rb X tr2 kp2 bb mm :: Sl.ro M :: ctx) rfl ?_ ?_
    · refine Imp.trans (b := SlO p.ba_ p.bl.length p.bk 1 (u8 p.bl) :: pt xb (ec p) :: SRep M b X tr2 kp2 bb mm n2 :: RS M rb X tr2 kp2 bb mm :: Sl.ro M :: ctx) (by (focus ((repeat ((with_reducible apply Imp.pick); (repeat (first | exact Pick.hd | apply Pick.tl)))); (repeat (first | exact Imp.refl _ | exact Imp.nil _ | apply Imp.drop)); done))) ?_
      refine Imp.exs (p.bl.map fun c => (c.toNat : Int)) (Imp.g1 ?_)
      rw [List.map_map]
      exact Imp.refl _
    intro j hj K2 hK2
    refine Ent.exs fun q => Ent.g1 ?_
    by_cases hjl : j < p.bl.length
    · refine Ent.slO fun k1 _ _ _ => ?_
      rw [List.length_map, Nat.mul_one] at k1
      obtain ⟨v, hv⟩ : ∃ v, q[(j : Int).toNat]? = some v := ⟨_, List.getElem?_eq_getElem (by rw [k1]; exact hjl)⟩
      refine Ent.wT ?_
      (refine Ent.go ?_)
      refine Ent.opI (st_xor).still ?_
      obtain ⟨wv, hwv⟩ : ∃ w, w = IntKind.u8.wrap (((BitVec.ofInt IntKind.u8.bits v ^^^ BitVec.ofInt IntKind.u8.bits 255).toNat : Nat) : Int) := ⟨_, rfl⟩
      rw [← hwv]
      refine Ent.wiWo ?_
      refine Ent.war ?_
      refine Ent.imp ?_ (hK2 hjl)
      refine Imp.exs (q.set j wv) (Imp.g1 ?_)
      rw [List.map_set, Int.toNat_natCast]
      exact Imp.refl _
    clear hK2
    refine Ent.wF ?_
    exact hfin (by (focus ((repeat ((with_reducible apply Imp.pick); (repeat (first | exact Pick.hd | apply Pick.tl)))); (repeat (first | exact Imp.refl _ | exact Imp.nil _ | apply Imp.drop)); done)))
  have hn1 : y.w ≠ 1 := fun hh => h12 (.inl hh)
  have hn2 : y.w ≠ 2 := fun hh => h12 (.inr hh)
  refine Ent.join ?_
  refine Ent.wF ?_
  refine Ent.wF ?_
  refine Ent.condE (fun hw3 => ?_) fun hw3 => ?_
  · -- Drop
    refine Ent.draw [pt ab (acC y)] (by (focus ((repeat ((with_reducible apply Imp.pick); (repeat (first | exact Pick.hd | apply Pick.tl)))); (repeat (first | exact Imp.refl _ | exact Imp.nil _ | apply Imp.drop)); done))) ?_
    refine Ent.wgS ?_
    refine Ent.wgS ?_
    refine Ent.imp (ctx' := SRep M b X tr kp bb mm n :: Sl.ro M :: RS M rb X tr kp bb mm :: pt ab (acC y) :: ctx) (by (focus ((repeat ((with_reducible apply Imp.pick); (repeat (first | exact Pick.hd | apply Pick.tl)))); (repeat (first | exact Imp.refl _ | exact Imp.nil _ | apply Imp.drop)); done))) ?_
    refine drop_spec (url := y.url) ?_
    refine Ent.wand ?_
    refine Ent.imp (ctx' := RS M rb X tr kp bb mm :: Sl.ro M :: SRep M b (gX (fun x => decide (x.url = y.url)) X 64) (gL (fun x => decide (x.url = y.url)) X 64 tr) (gL (fun x => decide (x.url = y.url)) X 64 kp) bb mm n :: pt ab (acC y) :: ctx) (by (focus ((repeat ((with_reducible apply Imp.pick); (repeat (first | exact Pick.hd | apply Pick.tl)))); (repeat (first | exact Imp.refl _ | exact Imp.nil _ | apply Imp.drop)); done))) ?_
    refine rdrop_spec (url := y.url) fun M' hM => ?_
    refine Ent.wand ?_
    refine Ent.wF ?_ (by simp)
    refine Ent.imp (Imp.trans (b := SRep M b (gX (fun x => decide (x.url = y.url)) X 64) (gL (fun x => decide (x.url = y.url)) X 64 tr) (gL (fun x => decide (x.url = y.url)) X 64 kp) bb mm n :: RS M' rb (gX (fun x => decide (x.url = y.url)) X 64) (gL (fun x => decide (x.url = y.url)) X 64 tr) (gL (fun x => decide (x.url = y.url)) X 64 kp) bb mm :: Sl.ro M' :: ctx) (by (focus ((repeat ((with_reducible apply Imp.pick); (repeat (first | exact Pick.hd | apply Pick.tl)))); (repeat (first | exact Imp.refl _ | exact Imp.nil _ | apply Imp.drop)); done))) (SRep.mono hM)) (fin (by omega))
  refine Ent.condE (fun hw4 => ?_) fun hw4 => ?_
  · -- Copy
    refine copy_s_spec fun b' => ?_
    refine Ent.wfS ?_
    refine Ent.imp (ctx' := SRep M b X tr kp bb mm n :: Sl.ro M :: SRep M b' X tr kp bb mm n :: RS M rb X tr kp bb mm :: pt ab (acC y) :: ctx) (by (focus ((repeat ((with_reducible apply Imp.pick); (repeat (first | exact Pick.hd | apply Pick.tl)))); (repeat (first | exact Imp.refl _ | exact Imp.nil _ | apply Imp.drop)); done))) ?_
    refine drop_spec (url := y.url) ?_
    refine e_spec (url := [115, 112, 111, 105, 108, 116]) (n := 5) (by decide) fun z hz => ?_
    refine OwnE.rd fun hrz => ?_
    refine Ent.imp (ctx' := SRep M b (gX (fun x => decide (x.url = y.url)) X 64) (gL (fun x => decide (x.url = y.url)) X 64 tr) (gL (fun x => decide (x.url = y.url)) X 64 kp) bb mm n :: Sl.ro M :: OwnE z (SRep M b' X tr kp bb mm n :: RS M rb X tr kp bb mm :: ctx)) (by (focus ((repeat ((with_reducible apply Imp.pick); (repeat (first | exact Pick.hd | apply Pick.tl)))); (repeat (first | exact Imp.refl _ | exact Imp.nil _ | apply Imp.drop)); done))) ?_
    refine put_m (x := z) (hrz _ (by (repeat (first | exact Has.hd | apply Has.tl))) (by (repeat (first | exact Has.hd | apply Has.tl))) (by (repeat (first | exact Has.hd | apply Has.tl)))) (dU_EB hz (by decide) (by decide)) (by omega) fun r M1 s1 n1 hn1 hP => ?_
    refine Ent.imp (Imp.trans (b := SRep M b' X tr kp bb mm n :: RS M rb X tr kp bb mm :: Sl.ro M1 :: ctx) (by (focus ((repeat ((with_reducible apply Imp.pick); (repeat (first | exact Pick.hd | apply Pick.tl)))); (repeat (first | exact Imp.refl _ | exact Imp.nil _ | apply Imp.drop)); done))) ((SRep.mono hP.1).trans (Imp.cons (RS.mono hP.1)))) (fin (by omega))
  exact Ent.imp (by (focus ((repeat ((with_reducible apply Imp.pick); (repeat (first | exact Pick.hd | apply Pick.tl)))); (repeat (first | exact Imp.refl _ | exact Imp.nil _ | apply Imp.drop)); done))) (fin (b := b) (M := M) (X := X) (tr := tr) (kp := kp) (n := n) (by omega))
end
theorem walk {H : Type} {enc : TypeId × Value → H} {W : World} (base : Nat) (args : Array Value) (ds : List (DataW H)) (hval : ∀ (j : Nat) t v, Tryz.f6.params[j]? = some t → args[j]? = some v → Value.okWide Tryz.prog W .any base t v)
    (hA : ∃ p, DataW.TrodAll enc P W 0 (fun _ => true) true Tryz.f6.params.toList args.toList ds p) (hk : Rows.uptoBulkAll ds ≤ 1048576) :
    Calls P 6 args W fun e W' => e = .returned (.bool true) ∧ Below W.heap.size W W' := by
  obtain ⟨p, hA⟩ := hA
  have hp : Tryz.f6.params.toList = [3, 3, 33] := rfl
  rw [hp] at hA
  obtain ⟨v0, vs0, d0, ds0, q0, hv0, rfl, t0, hA⟩ := Lift.tr_cons hA
  obtain ⟨v1, vs1, d1, ds1, q1, hv1, rfl, t1, hA⟩ := Lift.tr_cons hA
  obtain ⟨v2, vs2, d2, ds2, q2, hv2, rfl, t2, hA⟩ := Lift.tr_cons hA
  obtain ⟨rfl, rfl⟩ := Lift.tr_nil hA
  simp only [Rows.uptoBulkAll] at hk
  obtain ⟨m, h0, r0, r1⟩ := Lift.tr_int (k := .i64) rfl t0
  obtain ⟨n, h1, r2, r3⟩ := Lift.tr_int (k := .i64) rfl t1
  obtain ⟨a, c, xs, h2, hr, hxs⟩ := tr_acts rfl t2 (by omega)
  obtain ⟨l', rfl⟩ : ∃ l : List Value, args = l.toArray := ⟨args.toList, by simp⟩
  simp only [List.toList_toArray] at hv0
  subst hv0 hv1 hv2
  obtain rfl := Lift.val_int rfl (hval 0 _ _ rfl rfl) h0
  obtain rfl := Lift.val_int rfl (hval 1 _ _ rfl rfl) h1
  obtain rfl := Lift.val_slice rfl (hval 2 _ _ rfl rfl) h2
  exact Lift.calls_of fun K h => spec hr hxs h
theorem own : ownKnob Tryz.prog.godebug = none := by kernel_rfl
theorem contract (H : Type) (enc : TypeId × Value → H) (W : World) (base : Nat) (args : Array Value) (ds gs : List (DataW H)) (before : List MemPlace) (hval : ∀ (j : Nat) t v, Tryz.f6.params[j]? = some t → args[j]? = some v → Value.okWide Tryz.prog W .any base t v)
    (hW : DataW.Whole enc Tryz.prog Tryz.f6.params.toList Rows.storePlaysSpec.vars false W args.toList ds gs before) (hk : Rows.uptoBulkAll (ds ++ gs) ≤ 1048576) :
    Calls Tryz.prog 6 args W fun e W' => ∃ v, e = .returned v ∧ Rows.storePlaysSpec.post enc Tryz.prog Tryz.f6 false true false false W args v W' := by
  have hgs : gs = [] := by
    obtain ⟨p, q, _, hV, _⟩ := hW
    cases gs <;> simp_all [DataW.TrodVars, Rows.storePlaysSpec]
  subst hgs
  rw [List.append_nil] at hk
  have hA : ∃ p, DataW.TrodAll enc P W 0 (fun _ => true) true Tryz.f6.params.toList args.toList ds p := by
    obtain ⟨p, q, hA, _⟩ := hW
    exact ⟨p, hA⟩
  refine (walk base args ds hval hA hk).mono fun e W' ⟨he, hb⟩ => ?_
  exact ⟨_, he, Lift.law_post' (by kernel_rfl) rfl rfl rfl (fun ds h => by first | (rcases ds with _ | ⟨d1, _ | ⟨d2, _ | ⟨d3, _ | ⟨d4, ds⟩⟩⟩⟩ <;> first | rfl | (exfalso; simp [Tryz.f6] at h; done))) (by kernel_rfl) hW hb⟩
noncomputable def flat : Nat → DataW Unit → List Value
  | 0, _ => []
  | n + 1, .lit (.int k i) => [.int k i]
  | n + 1, .agg l => l.flatMap (flat n)
  | _, _ => []
noncomputable def lay (name : String) (d : DataW Unit) (h : Array Obj) : Array Obj := h.modify ((Tryz.prog.globalNamed name).getD 0) fun
  | .cells _ t frozen => .cells (flat 3 d).toArray t frozen
  | o => o
/-- the settled world, utf8's two tables laid -/
noncomputable def laidWorld (os : Os) : World :=
  { World.holding Tryz.prog os ⟨#[], #[], []⟩ with heap := lay "unicode/utf8.first" Rows.laid_unicode_utf8_first (lay "unicode/utf8.acceptRanges" Rows.laid_unicode_utf8_acceptRanges (World.holding Tryz.prog os ⟨#[], #[], []⟩).heap) }
theorem laid_met (os : Os) : laidMet Tryz.prog Rows.storePlaysRow.laid ((laidWorld os).forCall (fun _ _ => 0) ⟨#[], #[.int .i64 0, .int .i64 0, .slice none 0 0], []⟩).memory :=
  laidMet_of_run' 8 (by kernel_rfl) (by kernel_rfl)
theorem reads (os : Os) {H : Type} (enc : TypeId × Value → H) : ∃ places, DataW.whole enc Tryz.prog ((laidWorld os).forCall (fun _ _ => 0) ⟨#[], #[.int .i64 0, .int .i64 0, .slice none 0 0], []⟩).memory Tryz.f6.params.toList Rows.storePlaysSpec.vars false #[.int .i64 0, .int .i64 0, .slice none 0 0].toList 8 = some ([.lit (.int .i64 0), .lit (.int .i64 0), .nil], [], places) :=
  ⟨[], by kernel_rfl⟩
set_option maxRecDepth 100000 in
theorem lifted (os : Os) (started : os.Started) (H : Type) (enc : TypeId × Value → H) (F : Stop.Interp) :
    ReturnsInHanded {} Tryz.checked os 6 .any ((Rows.OpenSpec.upto Rows.storePlaysSpec).preRow enc Tryz.prog Tryz.f6 Rows.storePlaysUptoRow.domain false Rows.storePlaysUptoRow.laid) (((Rows.OpenSpec.upto Rows.storePlaysSpec).at F).post enc Tryz.prog Tryz.f6 false true false false) := by
  obtain ⟨places, hx⟩ := reads os enc
  refine returnsInHanded_of_row (C := Tryz.checked) (s := Rows.OpenSpec.upto Rows.storePlaysSpec) own started (by kernel_rfl) Tryz.func6
    (witness_row_at (enc := enc) (C := Tryz.checked) false (laidWorld os) #[.int .i64 0, .int .i64 0, .slice none 0 0] rfl (by kernel_rfl) (by kernel_rfl) (by kernel_rfl)
      (OpenSpec.preRow_of_cond 8 hx (by kernel_rfl) (fun k hk => by cases hk; kernel_rfl) (by kernel_rfl) (laid_met os))) ?_
  intro W base args ds gs before hval hW _ hcond _ hL _ _
  exact contract H enc W base args ds gs before hval hW (of_decide_eq_true (hcond _ rfl))
theorem over : Rows.StorePlaysUptoSaid :=
  OpenClaim.holds_of_cond 6 Tryz.f6 rfl rfl rfl rfl rfl rfl rfl ⟨rfl, rfl, rfl, rfl, rfl⟩ rfl rfl rfl rfl rfl (by kernel_rfl) Tryz.func6 (by kernel_rfl)
    (of_decide_eq_true (by kernel_rfl)) (by unfold Func.isWrapper; first | (rw [if_pos (by decide +kernel)]; kernel_rfl) | (rw [if_neg (by decide +kernel)]; exact ⟨rfl, rfl⟩))
    (fun os started H enc _ F => by rw [OpenClaim.pre_eq_preRow]; exact lifted os started H enc F)
theorem plain (f : FuncId) (fn : Func) (hf : Tryz.pinned.checked.prog.funcNamed "tollhouse/tollhouselaw21.StorePlays" = some f) (hfn : Tryz.pinned.checked.prog.funcs[f]? = some fn) :
    true = Tryz.pinned.checked.prog.looks [] ∧ ∀ (j : Nat) t, fn.params[j]? = some t → Tryz.pinned.checked.prog.wantsStandIn t = false := by
  obtain rfl : f = 6 := Option.some.inj ((show Tryz.prog.funcNamed "tollhouse/tollhouselaw21.StorePlays" = some 6 by kernel_rfl).symm.trans hf) |>.symm
  obtain rfl : fn = Tryz.f6 := (Option.some.inj (Tryz.func6.symm.trans hfn)).symm
  refine ⟨by kernel_rfl, fun j t ht => ?_⟩
  have := List.all_eq_true.1 (show (Tryz.f6.params.toList.all fun t => !Tryz.prog.wantsStandIn t) = true by kernel_rfl) t (by simpa using Array.mem_of_getElem? ht)
  exact (by simpa using this : Tryz.prog.wantsStandIn t = false)
theorem proved : Rows.StorePlaysUptoCardSaid :=
  Claim7.holds_tied_plain_at .later [] _ _ _ _ over (fun _ h => by cases h) (by kernel_rfl) (fun _ h => by cases h) storePlaysUpto_row_tie rfl ⟨rfl, rfl⟩ (by kernel_rfl) rfl plain (by kernel_rfl)

end Go.Proofs.YtfofnagocedlgaaGreatDoor.storePlays
