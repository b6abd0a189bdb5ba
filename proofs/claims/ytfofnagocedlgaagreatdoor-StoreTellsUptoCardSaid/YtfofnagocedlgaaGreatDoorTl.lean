/-
  TEXT (layer 2): List, the program's and the document's.
-/
import Derived.Test.YtfofnagocedlgaaGreatDoorTz
set_option maxRecDepth 100000
set_option linter.unusedVariables false
set_option linter.unusedSectionVars false
set_option linter.unusedSimpArgs false
set_option maxHeartbeats 0
namespace Go.Proofs.YtfofnagocedlgaaGreatDoor.Tx
open Go Sh Sl
attribute [local irreducible] condK ArK NilK OpK FnK StK joinK loopK DrawK andK PuK NxK EnK vS uS bS callS invokeS
/-- the cells of texts -/
def ss (l : List Bs) : List Value := l.map fun x => .string (ba x)
@[simp] theorem ss_len (l : List Bs) : (ss l).length = l.length := by simp [ss]
@[simp] theorem ss_nil : ss [] = [] := rfl
theorem ss_app (l r : List Bs) : ss (l ++ r) = ss l ++ ss r := by simp [ss]
abbrev l0 : Ls := ⟨false, false, [], []⟩
theorem ba_nil {l : Bs} : (ba l = ⟨#[]⟩) ↔ l = [] := by
  constructor
  · intro h; simpa [ba] using h
  · intro h; subst h; rfl
theorem drop_snoc {l : Bs} {p fr : Nat} {c : UInt8} (h : l[p]? = some c) (hf : fr ≤ p) : (l.take (p + 1)).drop fr = (l.take p).drop fr ++ [c] := by
  have hlt := (List.getElem?_eq_some_iff.1 h).1
  rw [List.take_add_one, h]
  show (List.take p l ++ [c]).drop fr = _
  rw [List.drop_append_of_le_length (by simp; omega)]
theorem take_more {l : Bs} {p w fr : Nat} (hf : fr ≤ p) (hp : p ≤ l.length) : (l.take (p + w)).drop fr = (l.take p).drop fr ++ (l.drop p).take w := by
  rw [List.take_add]
  rw [List.drop_append_of_le_length (by simp; omega)]
section
variable {e : Env} {ctx ctx' rest : List HProp}
theorem end_spec {K : Value → WP} {bs bf bl : Nat} {l : Bs} {fr to : Nat} {out : List Bs} {a : Option Addr} {c : Nat} (hl : l.length ≤ 1099511627776) (h1 : fr ≤ to) (h2 : to ≤ l.length) (ho : out.length ≤ l.length)
    (h : ∀ a2 c2, Ent e (pt bs [.string (ba l)] :: pt bf [.int .i64 ((to : Int) + 1)] :: pt bl [.slice a2 (emit ((l.take to).drop fr) out).length c2] :: SlO a2 (emit ((l.take to).drop fr) out).length c2 1 (ss (emit ((l.take to).drop fr) out)) :: rest) (K (.tuple #[]))) :
    Ent e (pt bs [.string (ba l)] :: pt bf [.int .i64 fr] :: pt bl [.slice a out.length c] :: SlO a out.length c 1 (ss out) :: rest) (text_List_c1 to (.pointer (some ⟨bs, 0, none⟩)) (.pointer (some ⟨bf, 0, none⟩)) (.pointer (some ⟨bl, 0, none⟩)) K) := by
  (refine Ent.fn text_List_c1_ok ?_; unfold text_List_c1_sh)
  (refine Ent.go ?_)
  refine Ent.opS (st_slSB (by omega) (by omega) (by omega)).still ?_
  rw [Int.toNat_natCast, Int.toNat_natCast]
  obtain ⟨cur, hcur⟩ : ∃ cur, cur = (l.take to).drop fr := ⟨_, rfl⟩
  rw [← hcur] at h ⊢
  have hcl : cur.length ≤ l.length := by rw [hcur]; simp; omega
  refine trim_spec (by omega) ?_
  (refine Ent.go ?_)
  by_cases ht : trim cur = []
  · have e1 : emit cur out = out := by unfold emit; rw [if_pos ht]
    rw [e1] at h
    refine Ent.wF ?_ (by rw [decide_eq_true (ba_nil.2 ht)]; rfl)
    (refine Ent.go ?_)
    exact Ent.imp (by (focus ((repeat ((with_reducible apply Imp.pick); (repeat (first | exact Pick.hd | apply Pick.tl)))); (repeat (first | exact Imp.refl _ | exact Imp.nil _ | apply Imp.drop)); done))) (h a c)
  · have e1 : emit cur out = out ++ [trim cur] := by unfold emit; rw [if_neg ht]
    rw [e1] at h
    refine Ent.wT ?_ (by rw [decide_eq_false (fun hh => ht (ba_nil.1 hh))]; rfl)
    (refine Ent.go ?_)
    refine Ent.app1 (fun a2 c2 => ?_)
    (refine Ent.go ?_)
    refine Ent.imp ?_ (h a2 c2)
    have e2 : (out ++ [trim cur]).length = out.length + 1 := by simp
    rw [e2, ss_app]
    (focus ((repeat ((with_reducible apply Imp.pick); (repeat (first | exact Pick.hd | apply Pick.tl)))); (repeat (first | exact Imp.refl _ | exact Imp.nil _ | apply Imp.drop)); done))
theorem list_spec {K : Value → WP} {l : Bs} (hl : l.length ≤ 1099511627776) (h : ∀ a c, Ent e (SlO a (lst l).length c 1 (ss (lst l)) :: rest) (K (.slice a (lst l).length c))) : Ent e rest (text_List (ba l) K) := by
  (refine Ent.fn text_List_ok ?_; unfold text_List_sh)
  refine Ent.box' fun bs => ?_
  refine Ent.alloc' fun bl => ?_
  refine Ent.alloc' fun bf => ?_
  (refine Ent.go ?_)
  refine Ent.srange fun it => ?_
  have hsz : (ba l).size = l.length := by simp [ba, ByteArray.size]
  have hout : ∀ p, (l.take p |>.foldl stp l0).out.length ≤ l.length := fun p => by
    have := fold_tot (l.take p) l0
    have h3 : (l.take p).length ≤ l.length := by simp; omega
    simp [tot] at this
    omega
  refine Ent.loop2 (k0 := .bool) (k1 := .bool) (fun N q m => exs (fun (y : Nat × Nat × List Bs × Option Addr × Nat) => sepL [pur ((l.take y.1).foldl stp l0 = ⟨q, m, (l.take y.1).drop y.2.1, y.2.2.1⟩ ∧ y.2.1 ≤ y.1 ∧ y.1 ≤ l.length ∧ N = l.length - y.1), Sl.ob it (.stringIter (ba l) y.1), pt bf [.int .i64 y.2.1], pt bl [.slice y.2.2.2.1 y.2.2.1.length y.2.2.2.2], SlO y.2.2.2.1 y.2.2.1.length y.2.2.2.2 1 (ss y.2.2.1)]) :: pt bs [.string (ba l)] :: rest) l.length ?_ ?_
  · refine Imp.exs (0, 0, [], none, 0) (Imp.g5 (Imp.pur ⟨by simp, Nat.le_refl _, Nat.zero_le _, rfl⟩ ?_))
    refine Imp.trans (Imp.slN (sz := 1) (Imp.refl _)) ?_
    show Imp _ (Sl.ob it (.stringIter (ba l) 0) :: pt bf [.int .i64 0] :: pt bl [.slice none 0 0] :: SlO none 0 0 1 [] :: pt bs [.string (ba l)] :: rest)
    (focus ((repeat ((with_reducible apply Imp.pick); (repeat (first | exact Pick.hd | apply Pick.tl)))); (repeat (first | exact Imp.refl _ | exact Imp.nil _ | apply Imp.drop)); done))
  intro N K' hK q m
  refine Ent.exs fun ⟨p, fr, out, a, c⟩ => Ent.g5 (Ent.pur fun ⟨f1, f2, f3, f4⟩ => ?_)
  dsimp only at f1 f2 f3 f4
  dsimp only
  subst f4
  have hol : out.length ≤ l.length := by have := hout p; rw [f1] at this; exact this
  refine Ent.snext (by (repeat (first | exact Pick.hd | apply Pick.tl))) (fun hp => ?_) (fun hp => ?_)
  · have hpl : p = l.length := by omega
    subst hpl
    (refine Ent.go ?_)
    refine Ent.callF (by rfl) ?_
    refine Ent.imp (ctx' := pt bs [.string (ba l)] :: pt bf [.int .i64 fr] :: pt bl [.slice a out.length c] :: SlO a out.length c 1 (ss out) :: Sl.ob it (.stringIter (ba l) l.length) :: rest) (by (focus ((repeat ((with_reducible apply Imp.pick); (repeat (first | exact Pick.hd | apply Pick.tl)))); (repeat (first | exact Imp.refl _ | exact Imp.nil _ | apply Imp.drop)); done))) ?_
    refine end_spec hl f2 (Nat.le_refl _) hol fun a2 c2 => ?_
    (refine Ent.go ?_)
    have e1 : emit ((l.take l.length).drop fr) out = lst l := by
      rw [List.take_of_length_le (Nat.le_refl _)] at f1 ⊢
      unfold lst
      dsimp only
      rw [f1]
    rw [e1]
    exact Ent.imp (by (focus ((repeat ((with_reducible apply Imp.pick); (repeat (first | exact Pick.hd | apply Pick.tl)))); (repeat (first | exact Imp.refl _ | exact Imp.nil _ | apply Imp.drop)); done))) (h a2 c2)
  · rw [hsz] at hp
    have next : ∀ (w : Nat) (q' m' : Bool) (fr' : Nat) (out' : List Bs) (a' : Option Addr) (c' : Nat), 1 ≤ w → p + w ≤ l.length → (l.take (p + w)).foldl stp l0 = ⟨q', m', (l.take (p + w)).drop fr', out'⟩ → fr' ≤ p + w →
        Ent e (Sl.ob it (.stringIter (ba l) (p + w)) :: pt bf [.int .i64 fr'] :: pt bl [.slice a' out'.length c'] :: SlO a' out'.length c' 1 (ss out') :: pt bs [.string (ba l)] :: rest) (K' q' m') := by
      intro w q' m' fr' out' a' c' hw hpw hf hfr
      refine Ent.imp ?_ (hK (l.length - (p + w)) (by omega) _ _)
      exact Imp.exs (p + w, fr', out', a', c') (Imp.g5 (Imp.pur ⟨hf, hfr, hpw, rfl⟩ (Imp.refl _)))
    rcases dec l p hp with ⟨x, hx, hx1, hd⟩ | ⟨r, w, hd, hr1, hr2, hw1, hw2, hhi⟩
    · rw [hd]
      dsimp only
      have hfold : (l.take (p + 1)).foldl stp l0 = stp ⟨q, m, (l.take p).drop fr, out⟩ x := by
        rw [List.take_add_one, hx]
        show List.foldl stp l0 (List.take p l ++ [x]) = _
        rw [List.foldl_append, f1]; rfl
      have hcur := drop_snoc hx f2
      cases m with
      | true =>
        (refine Ent.go ?_)
        exact next 1 q false fr out a c (by omega) (by omega) (by rw [hfold, hcur]; rfl) (by omega)
      | false =>
        refine Ent.wF ?_
        refine Ent.join ?_
        have h92 : ((x.toNat : Int) == 92) = decide (x.toNat = 92) := by
          by_cases hh : x.toNat = 92 <;> simp [hh]
          omega
        have hcase : ∀ v : Bool, (q && decide (x.toNat = 92)) = v → Ent e (Sl.ob it (.stringIter (ba l) (p + 1)) :: pt bf [.int .i64 fr] :: pt bl [.slice a out.length c] :: SlO a out.length c 1 (ss out) :: pt bs [.string (ba l)] :: rest)
            (condK v (K' q true) (condK ((x.toNat : Int) == 34) (K' (!q) false) (condK ((x.toNat : Int) == 44) (condK (!q) (oR (callS (.func (.func 93) #[] #[.pointer (some ⟨bs, 0, none⟩), .pointer (some ⟨bf, 0, none⟩), .pointer (some ⟨bl, 0, none⟩)]) #[(.int .i64 (p : Int))]) fun _ => K' q false) (K' q false)) (K' q false)))) := by
          intro v hv
          cases v with
          | true =>
            refine Ent.wT ?_
            refine next 1 q true fr out a c (by omega) (by omega) ?_ (by omega)
            rw [hfold, hcur]
            unfold stp
            simp only [Bool.false_eq_true, if_false, hv, if_true]
          | false =>
            refine Ent.wF ?_
            refine Ent.condE (fun h34 => ?_) fun h34 => ?_
            · refine next 1 (!q) false fr out a c (by omega) (by omega) ?_ (by omega)
              rw [hfold, hcur]
              unfold stp
              have : x.toNat = 34 := by omega
              simp only [Bool.false_eq_true, if_false, hv]
              rw [if_pos this]
            · have n34 : ¬ x.toNat = 34 := by omega
              refine Ent.condE (fun h44 => ?_) fun h44 => ?_
              · have y44 : x.toNat = 44 := by omega
                cases q with
                | true =>
                  refine Ent.wF ?_
                  refine next 1 true false fr out a c (by omega) (by omega) ?_ (by omega)
                  rw [hfold, hcur]
                  unfold stp
                  simp only [Bool.false_eq_true, if_false, hv, n34, Bool.true_eq_false, and_false]
                | false =>
                  refine Ent.wT ?_
                  refine Ent.callF (by rfl) ?_
                  refine Ent.imp (ctx' := pt bs [.string (ba l)] :: pt bf [.int .i64 fr] :: pt bl [.slice a out.length c] :: SlO a out.length c 1 (ss out) :: Sl.ob it (.stringIter (ba l) (p + 1)) :: rest) (by (focus ((repeat ((with_reducible apply Imp.pick); (repeat (first | exact Pick.hd | apply Pick.tl)))); (repeat (first | exact Imp.refl _ | exact Imp.nil _ | apply Imp.drop)); done))) ?_
                  refine end_spec hl f2 f3 hol fun a2 c2 => ?_
                  refine Ent.imp ?_ (next 1 false false (p + 1) (emit ((l.take p).drop fr) out) a2 c2 (by omega) (by omega) ?_ (Nat.le_refl _))
                  · show Imp _ (Sl.ob it (.stringIter (ba l) (p + 1)) :: pt bf [.int .i64 ((p : Int) + 1)] :: _)
                    (focus ((repeat ((with_reducible apply Imp.pick); (repeat (first | exact Pick.hd | apply Pick.tl)))); (repeat (first | exact Imp.refl _ | exact Imp.nil _ | apply Imp.drop)); done))
                  · rw [hfold]
                    have : (l.take (p + 1)).drop (p + 1) = [] := List.drop_eq_nil_of_le (by simp; omega)
                    rw [this]
                    unfold stp
                    simp only [Bool.false_eq_true, if_false, hv, n34]
                    rw [if_pos ⟨y44, trivial⟩]
              · have n44 : ¬ x.toNat = 44 := by omega
                refine next 1 q false fr out a c (by omega) (by omega) ?_ (by omega)
                rw [hfold, hcur]
                unfold stp
                simp only [Bool.false_eq_true, if_false, hv, n34, n44, false_and]
        cases q with
        | true =>
          refine Ent.wT ?_
          rw [h92]
          exact hcase _ rfl
        | false =>
          refine Ent.wF ?_
          exact hcase false rfl
    · rw [hd]
      dsimp only
      have hne : (l.drop p).take w ≠ [] := by
        intro hh
        have := congrArg List.length hh
        simp at this
        omega
      have hfold : (l.take (p + w)).foldl stp l0 = ⟨q, false, (l.take (p + w)).drop fr, out⟩ := by
        rw [take_more f2 f3, List.take_add, List.foldl_append, f1, fold_high _ _ hhi hne]
      have n92 : ((r : Int) == 92) = false := beq_eq_false_iff_ne.2 (by omega)
      have n34 : ((r : Int) == 34) = false := beq_eq_false_iff_ne.2 (by omega)
      have n44 : ((r : Int) == 44) = false := beq_eq_false_iff_ne.2 (by omega)
      have fin := next w q false fr out a c hw1 hw2 hfold (by omega)
      rw [n92, n34, n44]
      cases m <;> cases q <;> first | ((refine Ent.go ?_); exact fin) | (refine Ent.wF ?_; refine Ent.join ?_; (refine Ent.go ?_); exact fin)
end
end Go.Proofs.YtfofnagocedlgaaGreatDoor.Tx
