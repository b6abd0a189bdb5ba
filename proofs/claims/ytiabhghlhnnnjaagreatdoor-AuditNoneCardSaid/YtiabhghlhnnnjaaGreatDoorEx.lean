/-
  THE EVALUATOR IS SOUND (second part: what a value stands for, what a state stands for).
-/
import Derived.Test.YtiabhghlhnnnjaaGreatDoorEw
import Derived.Test.YtiabhghlhnnnjaaGreatDoorOp3
set_option linter.unusedVariables false
set_option maxRecDepth 100000
noncomputable section
namespace Go.Proofs.YtiabhghlhnnnjaaGreatDoor.Ev
open Go Sh Sl
/-- where an own object lies: block; place of its first cell; of a grown row: how many elements there is room for, how many cells each has -/
structure Lc where
  b : Nat
  o : Nat
  c : Nat
  z : Nat
/-- where the objects lie; which of them are not yet born and what they are to be -/
structure Lo where
  f : Nat → Option Lc
  u : Nat → Option EO
instance : CoeFun Lo (fun _ => Nat → Option Lc) := ⟨Lo.f⟩
def Lo.sub (L M : Lo) : Prop := ∀ i p, L i = some p → M i = some p
def Lo.le (L M : Lo) : Prop := Lo.sub L M ∧ M.u = L.u
theorem Lo.sub_refl (L : Lo) : Lo.sub L L := fun _ _ h => h
theorem Lo.sub_trans {L M N : Lo} (h : Lo.sub L M) (k : Lo.sub M N) : Lo.sub L N := fun i p x => k i p (h i p x)
theorem Lo.le_refl (L : Lo) : Lo.le L L := ⟨fun _ _ h => h, rfl⟩
theorem Lo.le_trans {L M N : Lo} (h : Lo.le L M) (k : Lo.le M N) : Lo.le L N := ⟨fun i p x => k.1 i p (h.1 i p x), k.2.trans h.2⟩
def Lo.up (L : Lo) (i : Nat) (p : Lc) : Lo := ⟨fun j => if j = i then some p else L j, L.u⟩
theorem Lo.up_same (L : Lo) (i : Nat) (p : Lc) : L.up i p i = some p := by simp [Lo.up]
theorem Lo.up_other (L : Lo) {i j : Nat} (p : Lc) (h : j ≠ i) : L.up i p j = L j := by simp [Lo.up, h]
theorem Lo.le_up {L : Lo} {i : Nat} (p : Lc) (h : L i = none) : Lo.le L (L.up i p) := ⟨fun j q hq => by
  have : j ≠ i := fun e => by rw [e, h] at hq; cases hq
  rw [Lo.up_other L p this]; exact hq, rfl⟩
/-- the same places, others not yet born -/
def Lo.wu (L : Lo) (u : Nat → Option EO) : Lo := ⟨L.f, u⟩
/-- the bytes of a string -/
def bts (l : List Nat) : List UInt8 := l.map UInt8.ofNat
def okB (l : List Nat) : Prop := ∀ x ∈ l, x < 256
def Lc.adr (p : Lc) (off : Nat) : Addr := ⟨p.b, p.o + off, none⟩
def Lc.cap (p : Lc) (off : Nat) : Nat := p.c - off / p.z
mutual
/-- what a value stands for -/
inductive Real (L : Lo) : EV → Value → Prop
  | int (k : IntKind) (n : Int) : Real L (.int k n) (.int k n)
  | bool (b : Bool) : Real L (.bool b) (.bool b)
  | str (l : List Nat) (h : okB l) : Real L (.str l) (.string (ba (bts l)))
  | nilp : Real L .nilp (.pointer none)
  | ptr {i off : Nat} {p : Lc} (h : L i = some p) : Real L (.ptr i off) (.pointer (some (p.adr off)))
  | nils : Real L .nils (.slice none 0 0)
  | slice {i off n c : Nat} {p : Lc} (h : L i = some p) : Real L (.slice i off n c true) (.slice (some (p.adr off)) n c)
  | slicx {i off n c : Nat} {p : Lc} (h : L i = some p) (hz : p.z = c) (hn : n ≤ p.cap off) : Real L (.slice i off n c false) (.slice (some (p.adr off)) n (p.cap off))
  | nilm : Real L .nilm (.map none)
  | map {i : Nat} {p : Lc} (h : L i = some p) : Real L (.map i) (.map (some p.b))
  | fn {f : FuncId} {a b : List EV} {x y : List Value} (ha : Reals L a x) (hb : Reals L b y) : Real L (.fn f a b) (.func (.func f) x.toArray y.toArray)
  | nilf : Real L .nilf .nilFunc
  | iface {t : TypeId} {v : EV} {x : Value} (h : Real L v x) : Real L (.iface t v) (.iface t x)
  | nili : Real L .nili .nilIface
  | agg {l : List EV} {x : List Value} (h : Reals L l x) : Real L (.agg l) (.agg x.toArray)
  | tup {l : List EV} {x : List Value} (h : Reals L l x) : Real L (.tup l) (.tuple x.toArray)
  | undef : Real L .undef undef
  | flt (b : Nat) : Real L (.flt b) (.float .f64 b)
  | cpx (a b : Nat) : Real L (.cpx a b) (.complex .f64 a b)
  | yld {i : Nat} {p : Lc} (h : L i = some p) : Real L (.yld i) (.func (.yield p.b) #[] #[])
inductive Reals (L : Lo) : List EV → List Value → Prop
  | nil : Reals L [] []
  | cons {v : EV} {x : Value} {l : List EV} {r : List Value} (h : Real L v x) (t : Reals L l r) : Reals L (v :: l) (x :: r)
end
mutual
theorem Real.sub {L M : Lo} (h : Lo.sub L M) : ∀ {v : EV} {x : Value}, Real L v x → Real M v x
  | _, _, .int k n => .int k n
  | _, _, .bool b => .bool b
  | _, _, .str l h => .str l h
  | _, _, .nilp => .nilp
  | _, _, .ptr e => .ptr (h _ _ e)
  | _, _, .nils => .nils
  | _, _, .slice e => .slice (h _ _ e)
  | _, _, .slicx e z n => .slicx (h _ _ e) z n
  | _, _, .nilm => .nilm
  | _, _, .map e => .map (h _ _ e)
  | _, _, .fn a b => .fn (a.sub h) (b.sub h)
  | _, _, .nilf => .nilf
  | _, _, .iface e => .iface (e.sub h)
  | _, _, .nili => .nili
  | _, _, .agg e => .agg (e.sub h)
  | _, _, .tup e => .tup (e.sub h)
  | _, _, .undef => .undef
  | _, _, .flt b => .flt b
  | _, _, .cpx a b => .cpx a b
  | _, _, .yld e => .yld (h _ _ e)
theorem Reals.sub {L M : Lo} (h : Lo.sub L M) : ∀ {l : List EV} {x : List Value}, Reals L l x → Reals M l x
  | _, _, .nil => .nil
  | _, _, .cons a t => .cons (a.sub h) (t.sub h)
end
theorem Real.le {L M : Lo} (h : Lo.le L M) {v : EV} {x : Value} (k : Real L v x) : Real M v x := k.sub h.1
theorem Reals.le {L M : Lo} (h : Lo.le L M) {l : List EV} {x : List Value} (k : Reals L l x) : Reals M l x := k.sub h.1
mutual
theorem Real.det {L : Lo} : ∀ {v : EV} {x y : Value}, Real L v x → Real L v y → x = y
  | _, _, _, .int k n, .int _ _ => rfl
  | _, _, _, .bool b, .bool _ => rfl
  | _, _, _, .str l h, .str _ _ => rfl
  | _, _, _, .nilp, .nilp => rfl
  | _, _, _, .ptr e, .ptr f => by rw [e] at f; cases f; rfl
  | _, _, _, .nils, .nils => rfl
  | _, _, _, .slice e, .slice f => by rw [e] at f; cases f; rfl
  | _, _, _, .slicx e _ _, .slicx f _ _ => by rw [e] at f; cases f; rfl
  | _, _, _, .nilm, .nilm => rfl
  | _, _, _, .map e, .map f => by rw [e] at f; cases f; rfl
  | _, _, _, .fn a b, .fn c d => by rw [a.det c, b.det d]
  | _, _, _, .nilf, .nilf => rfl
  | _, _, _, .iface e, .iface f => by rw [e.det f]
  | _, _, _, .nili, .nili => rfl
  | _, _, _, .agg e, .agg f => by rw [e.det f]
  | _, _, _, .tup e, .tup f => by rw [e.det f]
  | _, _, _, .undef, .undef => rfl
  | _, _, _, .flt b, .flt _ => rfl
  | _, _, _, .cpx a b, .cpx _ _ => rfl
  | _, _, _, .yld e, .yld f => by rw [e] at f; cases f; rfl
theorem Reals.det {L : Lo} : ∀ {l : List EV} {x y : List Value}, Reals L l x → Reals L l y → x = y
  | _, _, _, .nil, .nil => rfl
  | _, _, _, .cons a t, .cons b u => by rw [a.det b, t.det u]
end
theorem Reals.length {L : Lo} : ∀ {l : List EV} {x : List Value}, Reals L l x → x.length = l.length
  | _, _, .nil => rfl
  | _, _, .cons _ t => by simp [t.length]
theorem Reals.append {L : Lo} : ∀ {l m : List EV} {x y : List Value}, Reals L l x → Reals L m y → Reals L (l ++ m) (x ++ y)
  | _, _, _, _, .nil, h => h
  | _, _, _, _, .cons a t, h => .cons a (t.append h)
theorem Reals.take {L : Lo} : ∀ {l : List EV} {x : List Value} (n : Nat), Reals L l x → Reals L (l.take n) (x.take n)
  | _, _, 0, _ => by simp only [List.take_zero]; exact .nil
  | _, _, n + 1, .nil => .nil
  | _, _, n + 1, .cons a t => .cons a (t.take n)
theorem Reals.drop {L : Lo} : ∀ {l : List EV} {x : List Value} (n : Nat), Reals L l x → Reals L (l.drop n) (x.drop n)
  | _, _, 0, h => h
  | _, _, n + 1, .nil => .nil
  | _, _, n + 1, .cons a t => t.drop n
theorem Reals.get {L : Lo} : ∀ {l : List EV} {x : List Value} {n : Nat} {v : EV}, Reals L l x → l[n]? = some v → ∃ y, x[n]? = some y ∧ Real L v y
  | _, _, _, _, .nil, h => by simp at h
  | _, _, 0, _, .cons a t, h => by simp at h; subst h; exact ⟨_, rfl, a⟩
  | _, _, n + 1, _, .cons a t, h => t.get (n := n) (by simpa using h)
theorem Reals.one {L : Lo} {v : EV} {x : Value} (h : Real L v x) : Reals L [v] [x] := .cons h .nil
theorem Reals.rep {L : Lo} {l : List EV} {x : List Value} (h : Reals L l x) : ∀ n, Reals L (Ev.rep l n) (List.replicate n x).flatten
  | 0 => .nil
  | n + 1 => by
    show Reals L (app l (Ev.rep l n)) _
    rw [app_eq, List.replicate_succ, List.flatten_cons]
    exact h.append (h.rep n)
/-! states -/
/-- entries of a map -/
inductive RealEs (L : Lo) : List (EV × EV × Nat) → List MapEntry → Prop
  | nil : RealEs L [] []
  | cons {k v : EV} {n : Nat} {x y : Value} {l : List (EV × EV × Nat)} {r : List MapEntry} (hk : Real L k x) (hv : Real L v y) (t : RealEs L l r) : RealEs L ((k, v, n) :: l) (⟨x, y, n⟩ :: r)
theorem RealEs.sub {L M : Lo} (h : Lo.sub L M) : ∀ {l : List (EV × EV × Nat)} {r : List MapEntry}, RealEs L l r → RealEs M l r
  | _, _, .nil => .nil
  | _, _, .cons a b t => .cons (a.sub h) (b.sub h) (t.sub h)
theorem RealEs.le {L M : Lo} (h : Lo.le L M) {l : List (EV × EV × Nat)} {r : List MapEntry} (k : RealEs L l r) : RealEs M l r := k.sub h.1
/-- a frame's temporaries: 'D': those that are not yet there -/
def AgrE (L : Lo) (D : Nat → Prop) (n : Nat) (fr : Fr) (tmps : Array Value) : Prop := ∀ t v, t < n → ¬ D t → fr.get t = some v → ∃ x, tmps[t]? = some x ∧ Real L v x
theorem AgrE.sub {L M : Lo} {D : Nat → Prop} {n : Nat} {fr : Fr} {tmps : Array Value} (hl : Lo.sub L M) (h : AgrE L D n fr tmps) : AgrE M D n fr tmps := fun t v h1 h2 h3 => by
  obtain ⟨x, h4, h5⟩ := h t v h1 h2 h3
  exact ⟨x, h4, h5.sub hl⟩
theorem AgrE.le {L M : Lo} {D : Nat → Prop} {n : Nat} {fr : Fr} {tmps : Array Value} (hl : Lo.le L M) (h : AgrE L D n fr tmps) : AgrE M D n fr tmps := h.sub hl.1
def exC (e : Ex) : Option Code := match e with
  | .nor => none
  | .exit i => some (.exit i)
  | .goto l => some (.goto l)
  | .ret => some .ret
def lsN (s : LoopState) : Nat := match s with
  | .ready => 0
  | .busy => 1
  | .done => 2
  | .exhausted => 3
/-- an object of memory -/
def pobj (L : Lo) (p : Lc) : EO → HProp
  | .row l n true => fun h => ∃ vs, Reals L l vs ∧ l.length = n ∧ p.o = 0 ∧ pt p.b vs h
  | .row l n false => fun h => ∃ vs r, Reals L l vs ∧ l.length = n ∧ p.o = 0 ∧ p.z ≠ 0 ∧ n ≤ p.c * p.z ∧ p.c * p.z ≤ (vs ++ r).length ∧ pt p.b (vs ++ r) h
  | .fix l n => fun h => ∃ vs, Reals L l vs ∧ l.length = n ∧ p.o = 0 ∧ rdc p.b 0 vs h
  | .map es cl => fun h => ∃ r, RealEs L es r ∧ ob p.b (.map r.toArray cl) h
  | .sit l pos => fun h => okB l ∧ ob p.b (.stringIter (ba (bts l)) pos) h ∧ p.o = 0
  | .mit none a seen d => fun h => ob p.b (.mapIter none a seen.reverse.toArray d) h ∧ p.o = 0
  | .mit (some m) a seen d => fun h => ∃ q, L m = some q ∧ ob p.b (.mapIter (some q.b) a seen.reverse.toArray d) h ∧ p.o = 0
  | .dead => fun _ => True
  | .dfr => fun h => ob p.b (.deferred (some [])) h
  | .lop st pend n ps asg body fr => fun h => ∃ r : Loop, ob p.b (.loop r) h ∧ lsN r.state = st ∧ r.pending = pend.bind exC ∧ r.params = ps.toArray ∧ r.assign = asg ∧ r.body = body ∧ r.tmps.size = n ∧ (fr.get n = some .undef ∧ ∀ t ∈ ps, t < n) ∧ AgrE L (fun _ => False) n fr r.tmps
theorem pobj_sub {L M : Lo} (hl : Lo.sub L M) (p : Lc) (o : EO) (h : Hp) (k : pobj L p o h) : pobj M p o h := by
  match o, k with
  | .row l n true, ⟨vs, a, b⟩ => exact ⟨vs, a.sub hl, b⟩
  | .row l n false, ⟨vs, r, a, b⟩ => exact ⟨vs, r, a.sub hl, b⟩
  | .fix l n, ⟨vs, a, b⟩ => exact ⟨vs, a.sub hl, b⟩
  | .map es cl, ⟨r, a, b⟩ => exact ⟨r, a.sub hl, b⟩
  | .sit l pos, k => exact k
  | .mit none a seen d, k => exact k
  | .mit (some m) a seen d, ⟨q, a1, b⟩ => exact ⟨q, hl _ _ a1, b⟩
  | .dead, k => trivial
  | .dfr, k => exact k
  | .lop .., ⟨r, a, b, c, d, e, f, g, m, k⟩ => exact ⟨r, a, b, c, d, e, f, g, m, k.sub hl⟩
theorem pobj_le {L M : Lo} (hl : Lo.le L M) (p : Lc) (o : EO) (h : Hp) (k : pobj L p o h) : pobj M p o h := pobj_sub hl.1 p o h k
/-- the object of a number, if it is born -/
def prt (L : Lo) (s : St) (i : Nat) : HProp := match L i, s.obj i with
  | some p, some o => pobj L p o
  | _, _ => fun _ => True
def prts (L : Lo) (s : St) : List HProp := (List.range s.num).map (prt L s)
def rest (L : Lo) (s : St) (i : Nat) : List HProp := ((List.range s.num).erase i).map (prt L s)
theorem prt_some {L : Lo} {s : St} {i : Nat} {p : Lc} {o : EO} (h1 : L i = some p) (h2 : s.obj i = some o) : prt L s i = pobj L p o := by unfold prt; rw [h1, h2]
theorem prts_perm (L : Lo) (s : St) {i : Nat} (h : i < s.num) : (prts L s).Perm (prt L s i :: rest L s i) := by
  have := List.perm_cons_erase (List.mem_range.2 h)
  exact this.map (prt L s)
theorem erase_ne {n i j : Nat} (h : j ∈ (List.range n).erase i) : j ≠ i := fun e => by
  subst e
  exact (List.nodup_range.not_mem_erase) h
theorem St.obj_mk (n : Nat) (h : Tr EO) (i : Nat) : St.obj ⟨n, h⟩ i = h.get i := rfl
theorem St.put_other (s : St) (o : EO) {i j : Nat} (h : j ≠ i) : (s.put i o).obj j = s.obj j := by
  cases s; exact Tr.get_set_other o _ _ _ h
theorem St.put_same {s : St} {o o' : EO} {i : Nat} (h : (s.put i o).obj i = some o') : o' = o := by
  cases s; exact Tr.get_set_same o o' _ _ h
theorem St.put_num (s : St) (i : Nat) (o : EO) : (s.put i o).num = s.num := by cases s; rfl
theorem St.new_num (s : St) (o : EO) : (s.new o).num = s.num + 1 := by cases s; rfl
theorem St.new_other (s : St) (o : EO) {j : Nat} (h : j ≠ s.num) : (s.new o).obj j = s.obj j := by
  cases s; exact Tr.get_set_other o _ _ _ h
theorem St.new_same {s : St} {o o' : EO} (h : (s.new o).obj s.num = some o') : o' = o := by
  cases s; exact Tr.get_set_same o o' _ _ h
theorem rest_congr {L : Lo} {s s' : St} {i : Nat} (hn : s'.num = s.num) (h : ∀ j, j ≠ i → s'.obj j = s.obj j) : rest L s' i = rest L s i := by
  unfold rest
  rw [hn]
  refine List.map_congr_left fun j hj => ?_
  unfold prt
  rw [h j (erase_ne hj)]
theorem sepL_le {l : List Nat} {A B : Nat → HProp} (h : ∀ i ∈ l, ∀ x, A i x → B i x) : ∀ y, sepL (l.map A) y → sepL (l.map B) y := by
  induction l with
  | nil => exact fun _ _ => trivial
  | cons i l ih => exact fun y k => sepL_cons (h i List.mem_cons_self) (ih fun j hj => h j (List.mem_cons_of_mem _ hj)) k
theorem prt_le {L M : Lo} (hl : Lo.le L M) {s : St} {i : Nat} (hi : M i = L i) (h : Hp) (k : prt L s i h) : prt M s i h := by
  unfold prt at k ⊢
  rw [hi]
  cases e : L i with
  | none => trivial
  | some p =>
    rw [e] at k
    cases e2 : s.obj i with
    | none => trivial
    | some o => rw [e2] at k; exact pobj_le hl p o h k
/-- the state 's' stands for the world 'w', its objects at the places 'L', beside 'R' -/
def LoS (L : Lo) (s : St) : Prop := (∀ i p, L i = some p → i < s.num) ∧ ∀ i o, L.u i = some o → L i = none ∧ i < s.num ∧ ∀ o', s.obj i = some o' → o' = o
structure Rep (e : Env) (R : HProp) (L : Lo) (s : St) (w : World) : Prop where
  sat : Sat e (sepL (R :: prts L s)) w
  dom : LoS L s
theorem LoS.put {L : Lo} {s : St} (h : LoS L s) {i : Nat} (hi : L.u i = none) (o : EO) : LoS L (s.put i o) :=
  ⟨fun j q hq => by rw [St.put_num]; exact h.1 j q hq, fun j b hb => by
    obtain ⟨h1, h2, h3⟩ := h.2 j b hb
    refine ⟨h1, by rw [St.put_num]; exact h2, ?_⟩
    rw [St.put_other s o (fun e => by rw [e, hi] at hb; cases hb)]; exact h3⟩
theorem LoS.new {L : Lo} {s : St} (h : LoS L s) (o : EO) : LoS L (s.new o) :=
  ⟨fun j q hq => by rw [St.new_num]; have := h.1 j q hq; omega, fun j b hb => by
    obtain ⟨h1, h2, h3⟩ := h.2 j b hb
    refine ⟨h1, by rw [St.new_num]; omega, ?_⟩
    rw [St.new_other s o (Nat.ne_of_lt h2)]; exact h3⟩
theorem LoS.none {L : Lo} {s : St} (h : LoS L s) : L s.num = none ∧ L.u s.num = none := by
  constructor
  · cases e1 : L s.num with
    | none => rfl
    | some p => exact absurd (h.1 _ p e1) (Nat.lt_irrefl _)
  · cases e1 : L.u s.num with
    | none => rfl
    | some p => exact absurd (h.2 _ p e1).2.1 (Nat.lt_irrefl _)
theorem LoS.own {L : Lo} {s : St} (h : LoS L s) {i : Nat} {p : Lc} (hi : L i = some p) : L.u i = .none := by
  cases e1 : L.u i with
  | none => rfl
  | some b => rw [(h.2 i b e1).1] at hi; cases hi
theorem LoS.up {L : Lo} {s : St} (h : LoS L s) {i : Nat} (p : Lc) (hi : i < s.num) (hu : L.u i = .none) : LoS (L.up i p) s :=
  ⟨fun j q hq => by
    by_cases e1 : j = i
    · rw [e1]; exact hi
    · rw [Lo.up_other L p e1] at hq; exact h.1 j q hq, fun j b hb => by
    have hb' : L.u j = some b := hb
    have hne : j ≠ i := fun e1 => by rw [e1, hu] at hb'; cases hb'
    obtain ⟨h1, h2, h3⟩ := h.2 j b hb'
    exact ⟨by rw [Lo.up_other L p hne]; exact h1, h2, h3⟩⟩
section
variable {e : Env} {R : HProp} {L M : Lo} {s s' : St} {w : World}
theorem sepL_swap1 {A B : HProp} {l l' : List HProp} (h : Hp) (p : l.Perm (B :: l')) (k : sepL (A :: l) h) : sepL (B :: A :: l') h :=
  sepL_perm (((p.cons A).trans (.swap B A l'))) h k
/-- an object is taken out -/
theorem Rep.take {i : Nat} {p : Lc} {o : EO} (h : Rep e R L s w) (h1 : L i = some p) (h2 : s.obj i = some o) : Sat e (sepL (pobj L p o :: R :: rest L s i)) w := by
  refine h.sat.imp fun x k => sepL_swap1 x ?_ k
  have := prts_perm L s (h.dom.1 i p h1)
  rw [prt_some h1 h2] at this
  exact this
/-- it is laid back, turned -/
theorem Rep.back {i : Nat} {p : Lc} {o : EO} (h : Rep e R L s w) {w' : World} (h1 : L i = some p) (h2 : Sat e (sepL (pobj L p o :: R :: rest L s i)) w') : Rep e R L (s.put i o) w' := by
  refine ⟨h2.imp fun x k => ?_, h.dom.put (h.dom.own h1) o⟩
  have hi := h.dom.1 i p h1
  have hp := prts_perm L (s.put i o) (i := i) (by rw [St.put_num]; exact hi)
  rw [rest_congr (St.put_num s i o) (fun j hj => St.put_other s o hj)] at hp
  refine sepL_perm ((List.Perm.swap _ _ _).trans (hp.symm.cons R)) x (sepL_cons (fun y ky => ?_) (fun _ z => z) k)
  unfold prt
  rw [h1]
  cases e2 : (s.put i o).obj i with
  | none => trivial
  | some o' => rw [St.put_same e2]; exact ky
/-- one that is no more -/
theorem Rep.dead {i : Nat} {p : Lc} {w' : World} (h : Rep e R L s w) (hp : L i = some p) (h2 : Sat e (sepL (R :: rest L s i)) w') : Rep e R L (s.put i .dead) w' := by
  refine ⟨h2.imp fun x k => ?_, h.dom.put (h.dom.own hp) .dead⟩
  have hi := h.dom.1 i p hp
  have hp := prts_perm L (s.put i .dead) (i := i) (by rw [St.put_num]; exact hi)
  rw [rest_congr (St.put_num s i .dead) (fun j hj => St.put_other s .dead hj)] at hp
  refine sepL_perm ((List.Perm.swap _ _ _).trans (hp.symm.cons R)) x ?_
  refine ⟨fun _ => none, x, fun _ => .inl rfl, (fun _ _ e => by cases e), Hp.le_refl x, ?_, k⟩
  unfold prt
  cases e1 : L i with
  | none => trivial
  | some p =>
    cases e2 : (s.put i .dead).obj i with
    | none => trivial
    | some o' => rw [St.put_same e2]; trivial
theorem Rep.drop {i : Nat} {p : Lc} {o : EO} (h : Rep e R L s w) (h1 : L i = some p) (h2 : s.obj i = some o) : Sat e (sepL (R :: rest L s i)) w := (h.take h1 h2).imp fun _ => sepL_drop
/-- a number for what is not yet born -/
theorem Rep.unborn (o : EO) (h : Rep e R L s w) : Rep e R L (s.new o) w := by
  have hn : L s.num = none := by
    cases e1 : L s.num with
    | none => rfl
    | some p => exact absurd (h.dom.1 _ p e1) (Nat.lt_irrefl _)
  refine ⟨h.sat.imp fun x k => ?_, h.dom.new o⟩
  have e0 : prts L (s.new o) = prts L s ++ [prt L (s.new o) s.num] := by
    unfold prts
    rw [St.new_num, List.range_succ, List.map_append]
    congr 1
    refine List.map_congr_left fun j hj => ?_
    have : j ≠ s.num := Nat.ne_of_lt (List.mem_range.1 hj)
    unfold prt
    rw [St.new_other s o this]
  have e1 : prt L (s.new o) s.num = fun _ => True := by unfold prt; rw [hn]
  rw [e0, e1]
  refine (sepL_append (R :: prts L s) [fun _ => True] x).2 ⟨x, fun _ => none, fun _ => .inr rfl, Hp.le_refl x, (fun _ _ e => by cases e), k, ?_⟩
  exact ⟨fun _ => none, fun _ => none, fun _ => .inl rfl, (fun _ _ e => by cases e), (fun _ _ e => by cases e), trivial, trivial⟩
/-- it is born -/
theorem Rep.born {i : Nat} {p : Lc} {o : EO} (h1 : L i = none ∧ L.u i = none) (hi : i < s.num) (h2 : ∀ o', s.obj i = some o' → o' = o) (hd : LoS L s)
    (h : Sat e (sepL (pobj (L.up i p) p o :: R :: prts L s)) w) : Rep e R (L.up i p) s w := by
  have hle := Lo.le_up p h1.1
  refine ⟨h.imp fun x k => ?_, hd.up p hi h1.2⟩
  · have hp := prts_perm L s hi
    have hq := prts_perm (L.up i p) s hi
    have k2 : sepL (pobj (L.up i p) p o :: R :: rest L s i) x := by
      refine sepL_cons (fun _ a => a) (fun y ky => ?_) k
      exact sepL_drop (sepL_swap1 y hp ky)
    refine sepL_perm ((List.Perm.swap _ _ _).trans (hq.symm.cons R)) x (sepL_cons (fun y ky => ?_) (fun y ky => sepL_cons (fun _ a => a) (fun z kz => ?_) ky) k2)
    · unfold prt
      rw [Lo.up_same]
      cases e2 : s.obj i with
      | none => trivial
      | some o' => rw [h2 o' e2]; exact ky
    · exact sepL_le (fun j hj y ky => prt_le hle (Lo.up_other L p (erase_ne hj)) y ky) z kz
end
end Go.Proofs.YtiabhghlhnnnjaaGreatDoor.Ev
