/-
  AN EVALUATOR OF CLOSED RUNS: values whose addresses are numbers of own objects; a run of a function's code on them. What it answers is what any run answers (Ew: the proof).
  Made for the kernel: what hangs on the text alone is turned once into closed closures ('Bo', 'Bl', 'Bc'), whose normal forms the kernel keeps; small bodies; recursors by hand.
-/
import Derived.Test.YtiabhghlhnnnjaaGreatDoorOp2
set_option linter.unusedVariables false
set_option maxRecDepth 100000
noncomputable section
namespace Go.Proofs.YtiabhghlhnnnjaaGreatDoor.Ev
open Go Sh Sl
/-- a value: an address is the number of an own object and a place in it -/
inductive EV where
  | int (k : IntKind) (n : Int) | bool (b : Bool) | str (s : List Nat)
  | nilp | ptr (i off : Nat)
  | nils | slice (i off n c : Nat) (x : Bool)
  | nilm | map (i : Nat)
  | fn (f : FuncId) (first cap : List EV) | nilf
  | iface (t : TypeId) (v : EV) | nili
  | agg (l : List EV) | tup (l : List EV) | undef
  | flt (b : Nat) | cpx (a b : Nat) | yld (i : Nat)
def cnd {α : Type} (b : Bool) (x y : α) : α := @Bool.rec (fun _ => α) y x b
def bnot (b : Bool) : Bool := @Bool.rec (fun _ => Bool) true false b
def band (a b : Bool) : Bool := @Bool.rec (fun _ => Bool) false b a
def blt (a b : Nat) : Bool := Nat.ble (Nat.succ a) b
/-- a tree of numbered things -/
inductive Tr (α : Type) where
  | lf (v : Option α) | nd (l r : Tr α)
def Tr.get {α : Type} (t : Tr α) : Nat → Option α :=
  @Tr.rec α (fun _ => Nat → Option α) (fun v n => cnd (Nat.beq n 0) v none)
    (fun _ _ gl gr n => @Bool.rec (fun _ => Option α) (gr (Nat.div n 2)) (gl (Nat.div n 2)) (Nat.beq (Nat.mod n 2) 0)) t
def Tr.set {α : Type} (a : α) (t : Tr α) : Nat → Tr α :=
  @Tr.rec α (fun _ => Nat → Tr α) (fun v n => cnd (Nat.beq n 0) (.lf (some a)) (.lf v))
    (fun l r sl sr n => @Bool.rec (fun _ => Tr α) (.nd l (sr (Nat.div n 2))) (.nd (sl (Nat.div n 2)) r) (Nat.beq (Nat.mod n 2) 0)) t
def Tr.emp {α : Type} (d : Nat) : Tr α := @Nat.rec (fun _ => Tr α) (.lf none) (fun _ t => .nd t t) d
abbrev Fr := Tr EV
/-- how code is left -/
inductive Ex where
  | nor | exit (i : Nat) | goto (l : Nat) | ret
/-- an own object: a row of cells ('x': no more cells are behind these), cells that nobody writes, a map's entries, an iterator, one that is no more, a block of deferred calls, a loop's record (state: 0 ready, 1 busy, 2 done, 3 over) -/
inductive EO where
  | row (l : List EV) (n : Nat) (x : Bool)
  | fix (l : List EV) (n : Nat)
  | map (es : List (EV × EV × Nat)) (clock : Nat)
  | sit (s : List Nat) (pos : Nat)
  | mit (m : Option Nat) (since : Nat) (seen : List Nat) (last : Nat)
  | dead | dfr
  | lop (st : Nat) (pend : Option Ex) (n : Nat) (ps : List Nat) (asg body : Code) (fr : Fr)
structure St where
  n : Nat
  h : Tr EO
def St.num (s : St) : Nat := @St.rec (fun _ => Nat) (fun n _ => n) s
def St.obj (s : St) (i : Nat) : Option EO := @St.rec (fun _ => Option EO) (fun _ h => h.get i) s
def St.put (s : St) (i : Nat) (o : EO) : St := @St.rec (fun _ => St) (fun n h => ⟨n, h.set o i⟩) s
def St.new (s : St) (o : EO) : St := @St.rec (fun _ => St) (fun n h => ⟨Nat.succ n, h.set o n⟩) s
/-- an answer, or where it stands still -/
inductive Rs (α : Type) where
  | ok (a : α) | no (why : Nat) (at_ : List Nat)
def bd {α β : Type} (x : Rs α) (f : α → Rs β) : Rs β := @Rs.rec α (fun _ => Rs β) f (fun w l => .no w l) x
def bo {α β : Type} (w : Nat) (x : Option α) (f : α → Rs β) : Rs β := @Option.rec α (fun _ => Rs β) (.no w []) f x
def ob2 {α β : Type} (x : Option α) (f : α → Option β) : Option β := @Option.rec α (fun _ => Option β) none f x
def p2 {α β γ : Type} (f : α → β → γ) (p : α × β) : γ := @Prod.rec α β (fun _ => γ) f p
abbrev R := Rs (EV × St)
/-! lists -/
def nth {α : Type} (l : List α) : Nat → Option α := @List.rec α (fun _ => Nat → Option α) (fun _ => none) (fun x _ ih n => cnd (Nat.beq n 0) (some x) (ih (Nat.sub n 1))) l
def drp {α : Type} (l : List α) : Nat → List α := @List.rec α (fun _ => Nat → List α) (fun _ => []) (fun x r ih n => cnd (Nat.beq n 0) (x :: r) (ih (Nat.sub n 1))) l
def tke {α : Type} (l : List α) : Nat → List α := @List.rec α (fun _ => Nat → List α) (fun _ => []) (fun x _ ih n => cnd (Nat.beq n 0) [] (x :: ih (Nat.sub n 1))) l
def len {α : Type} (l : List α) : Nat := @List.rec α (fun _ => Nat) 0 (fun _ _ n => Nat.succ n) l
def app {α : Type} (l r : List α) : List α := @List.rec α (fun _ => List α) r (fun x _ t => x :: t) l
def setN {α : Type} (v : α) (l : List α) : Nat → List α := @List.rec α (fun _ => Nat → List α) (fun _ => []) (fun x r ih n => cnd (Nat.beq n 0) (v :: r) (x :: ih (Nat.sub n 1))) l
/-- cells put in at a place (there is room) -/
def spl {α : Type} (vs l : List α) : Nat → List α := @List.rec α (fun _ => Nat → List α) (fun _ => vs) (fun x r ih n => cnd (Nat.beq n 0) (app vs (drp (x :: r) (len vs))) (x :: ih (Nat.sub n 1))) l
def rep {α : Type} (l : List α) (n : Nat) : List α := @Nat.rec (fun _ => List α) [] (fun _ t => app l t) n
/-! the text's values -/
mutual
def ofV : Value → Option EV
  | .bool b => some (.bool b)
  | .int k n => some (.int k n)
  | .string s => some (.str (s.data.toList.map UInt8.toNat))
  | .float .f64 b => some (.flt b)
  | .complex .f64 a b => some (.cpx a b)
  | .pointer none => some .nilp
  | .slice none 0 0 => some .nils
  | .map none => some .nilm
  | .func (.func f) ⟨[]⟩ ⟨[]⟩ => some (.fn f [] [])
  | .nilFunc => some .nilf
  | .nilIface => some .nili
  | .iface t v => (ofV v).map (.iface t)
  | .agg ⟨l⟩ => (ofVs l).map .agg
  | .tuple ⟨l⟩ => (ofVs l).map .tup
  | _ => none
def ofVs : List Value → Option (List EV)
  | [] => some []
  | v :: l => match ofV v, ofVs l with
    | some x, some r => some (x :: r)
    | _, _ => none
end
inductive Oq where
  | tmp (t : Nat) | val (v : EV) | bad
/-- 'gi': the objects of the package's variables -/
def oqC (gi : Nat → Option Nat) : Operand → Oq
  | .tmp t => .tmp t
  | .const v => match ofV v with
    | some x => .val x
    | none => .bad
  | .global g => match gi g with
    | some i => .val (.ptr i 0)
    | none => .bad
  | .func f => .val (.fn f [] [])
def Oq.get (q : Oq) (fr : Fr) : Option EV := @Oq.rec (fun _ => Option EV) (fun t => fr.get t) (fun v => some v) none q
def getL (l : List Oq) (fr : Fr) : Option (List EV) := @List.rec Oq (fun _ => Option (List EV)) (some []) (fun q _ t => ob2 (q.get fr) fun v => ob2 t fun r => some (v :: r)) l
/-! seeing a value -/
def EV.ptr? (v : EV) : Option (Nat × Nat) := @EV.rec (fun _ => Option (Nat × Nat)) (fun _ => Unit) (fun _ _ => none) (fun _ => none) (fun _ => none) none (fun i o => some (i, o)) none (fun _ _ _ _ _ => none) none (fun _ => none) (fun _ _ _ _ _ => none) none (fun _ _ _ => none) none (fun _ _ => none) (fun _ _ => none) none (fun _ => none) (fun _ _ => none) (fun _ => none) () (fun _ _ _ _ => ()) v
def EV.bool? (v : EV) : Option Bool := @EV.rec (fun _ => Option Bool) (fun _ => Unit) (fun _ _ => none) (fun b => some b) (fun _ => none) none (fun _ _ => none) none (fun _ _ _ _ _ => none) none (fun _ => none) (fun _ _ _ _ _ => none) none (fun _ _ _ => none) none (fun _ _ => none) (fun _ _ => none) none (fun _ => none) (fun _ _ => none) (fun _ => none) () (fun _ _ _ _ => ()) v
def EV.agg? (v : EV) : Option (List EV) := @EV.rec (fun _ => Option (List EV)) (fun _ => Unit) (fun _ _ => none) (fun _ => none) (fun _ => none) none (fun _ _ => none) none (fun _ _ _ _ _ => none) none (fun _ => none) (fun _ _ _ _ _ => none) none (fun _ _ _ => none) none (fun l _ => some l) (fun _ _ => none) none (fun _ => none) (fun _ _ => none) (fun _ => none) () (fun _ _ _ _ => ()) v
def EV.tup? (v : EV) : Option (List EV) := @EV.rec (fun _ => Option (List EV)) (fun _ => Unit) (fun _ _ => none) (fun _ => none) (fun _ => none) none (fun _ _ => none) none (fun _ _ _ _ _ => none) none (fun _ => none) (fun _ _ _ _ _ => none) none (fun _ _ _ => none) none (fun _ _ => none) (fun l _ => some l) none (fun _ => none) (fun _ _ => none) (fun _ => none) () (fun _ _ _ _ => ()) v
def inat (n : Int) : Option Nat := @Int.rec (fun _ => Option Nat) some (fun _ => none) n
def EV.int? (v : EV) : Option (IntKind × Int) := @EV.rec (fun _ => Option (IntKind × Int)) (fun _ => Unit) (fun k n => some (k, n)) (fun _ => none) (fun _ => none) none (fun _ _ => none) none (fun _ _ _ _ _ => none) none (fun _ => none) (fun _ _ _ _ _ => none) none (fun _ _ _ => none) none (fun _ _ => none) (fun _ _ => none) none (fun _ => none) (fun _ _ => none) (fun _ => none) () (fun _ _ _ _ => ()) v
def EV.nat? (v : EV) : Option Nat := @EV.rec (fun _ => Option Nat) (fun _ => Unit) (fun _ n => inat n) (fun _ => none) (fun _ => none) none (fun _ _ => none) none (fun _ _ _ _ _ => none) none (fun _ => none) (fun _ _ _ _ _ => none) none (fun _ _ _ => none) none (fun _ _ => none) (fun _ _ => none) none (fun _ => none) (fun _ _ => none) (fun _ => none) () (fun _ _ _ _ => ()) v
def EV.map? (v : EV) : Option Nat := @EV.rec (fun _ => Option Nat) (fun _ => Unit) (fun _ _ => none) (fun _ => none) (fun _ => none) none (fun _ _ => none) none (fun _ _ _ _ _ => none) none (fun i => some i) (fun _ _ _ _ _ => none) none (fun _ _ _ => none) none (fun _ _ => none) (fun _ _ => none) none (fun _ => none) (fun _ _ => none) (fun _ => none) () (fun _ _ _ _ => ()) v
def EV.str? (v : EV) : Option (List Nat) := @EV.rec (fun _ => Option (List Nat)) (fun _ => Unit) (fun _ _ => none) (fun _ => none) (fun l => some l) none (fun _ _ => none) none (fun _ _ _ _ _ => none) none (fun _ => none) (fun _ _ _ _ _ => none) none (fun _ _ _ => none) none (fun _ _ => none) (fun _ _ => none) none (fun _ => none) (fun _ _ => none) (fun _ => none) () (fun _ _ _ _ => ()) v
structure Sli where
  i : Nat
  off : Nat
  n : Nat
  c : Nat
  x : Bool
def EV.sl? (v : EV) : Option Sli := @EV.rec (fun _ => Option Sli) (fun _ => Unit) (fun _ _ => none) (fun _ => none) (fun _ => none) none (fun _ _ => none) none (fun i o n c x => some ⟨i, o, n, c, x⟩) none (fun _ => none) (fun _ _ _ _ _ => none) none (fun _ _ _ => none) none (fun _ _ => none) (fun _ _ => none) none (fun _ => none) (fun _ _ => none) (fun _ => none) () (fun _ _ _ _ => ()) v
def EV.fn? (v : EV) : Option (FuncId × List EV × List EV) := @EV.rec (fun _ => Option (FuncId × List EV × List EV)) (fun _ => Unit) (fun _ _ => none) (fun _ => none) (fun _ => none) none (fun _ _ => none) none (fun _ _ _ _ _ => none) none (fun _ => none) (fun f a b _ _ => some (f, a, b)) none (fun _ _ _ => none) none (fun _ _ => none) (fun _ _ => none) none (fun _ => none) (fun _ _ => none) (fun _ => none) () (fun _ _ _ _ => ()) v
def EV.if? (v : EV) : Option (TypeId × EV) := @EV.rec (fun _ => Option (TypeId × EV)) (fun _ => Unit) (fun _ _ => none) (fun _ => none) (fun _ => none) none (fun _ _ => none) none (fun _ _ _ _ _ => none) none (fun _ => none) (fun _ _ _ _ _ => none) none (fun t v _ => some (t, v)) none (fun _ _ => none) (fun _ _ => none) none (fun _ => none) (fun _ _ => none) (fun _ => none) () (fun _ _ _ _ => ()) v
def EV.isNils (v : EV) : Bool := @EV.rec (fun _ => Bool) (fun _ => Unit) (fun _ _ => false) (fun _ => false) (fun _ => false) false (fun _ _ => false) (true) (fun _ _ _ _ _ => false) false (fun _ => false) (fun _ _ _ _ _ => false) false (fun _ _ _ => false) false (fun _ _ => false) (fun _ _ => false) false (fun _ => false) (fun _ _ => false) (fun _ => false) () (fun _ _ _ _ => ()) v
def cellsE (v : EV) : List EV := @EV.rec (fun _ => List EV → List EV) (fun _ => Unit) (fun _ _ d => d) (fun _ d => d) (fun _ d => d) (fun d => d) (fun _ _ d => d) (fun d => d) (fun _ _ _ _ _ d => d) (fun d => d) (fun _ d => d) (fun _ _ _ _ _ d => d) (fun d => d) (fun _ _ _ d => d) (fun d => d) (fun l _ d => l) (fun _ _ d => d) (fun d => d) (fun _ d => d) (fun _ _ d => d) (fun _ d => d) () (fun _ _ _ _ => ()) v [v]
def notTup (v : EV) : Bool := (@EV.rec (fun _ => Bool) (fun _ => Unit) (fun _ _ => true) (fun _ => true) (fun _ => true) (true) (fun _ _ => true) (true) (fun _ _ _ _ _ => true) (true) (fun _ => true) (fun _ _ _ _ _ => true) (true) (fun _ _ _ => true) (true) (fun _ _ => true) (fun _ _ => false) (true) (fun _ => true) (fun _ _ => true) (fun _ => true) () (fun _ _ _ _ => ()) v)
def u8o (n : Int) : Option Nat := @Int.rec (fun _ => Option Nat) (fun n => cnd (blt n 256) (some n) none) (fun _ => none) n
def EV.u8? (v : EV) : Option Nat := ob2 v.int? (p2 fun k n => @IntKind.rec (fun _ => Option Nat) none none none none (u8o n) none none none k)
def EO.row? (o : EO) : Option (List EV × Nat) := @EO.rec (fun _ => Option (List EV × Nat)) (fun l n _ => some (l, n)) (fun l n => some (l, n)) (fun _ _ => none) (fun _ _ => none) (fun _ _ _ _ => none) none none (fun _ _ _ _ _ _ _ => none) o
def EO.map? (o : EO) : Option (List (EV × EV × Nat) × Nat) := @EO.rec (fun _ => Option (List (EV × EV × Nat) × Nat)) (fun _ _ _ => none) (fun _ _ => none) (fun es c => some (es, c)) (fun _ _ => none) (fun _ _ _ _ => none) none none (fun _ _ _ _ _ _ _ => none) o
def EO.wr? (o : EO) : Option (List EV × Nat × Bool) := @EO.rec (fun _ => Option (List EV × Nat × Bool)) (fun l n x => some (l, n, x)) (fun _ _ => none) (fun _ _ => none) (fun _ _ => none) (fun _ _ _ _ => none) none none (fun _ _ _ _ _ _ _ => none) o
def St.row (s : St) (i : Nat) : Option (List EV × Nat) := ob2 (s.obj i) EO.row?
def St.mp (s : St) (i : Nat) : Option (List (EV × EV × Nat) × Nat) := ob2 (s.obj i) EO.map?
/-- cells of a row -/
def cutE (s : St) (i off n : Nat) : Option (List EV) := ob2 (s.row i) (p2 fun l m => cnd (Nat.ble (Nat.add off n) m) (some (tke (drp l off) n)) none)
/-- all of them single cells -/
def scl (v : EV) : Bool := (@EV.rec (fun _ => Bool) (fun _ => Unit) (fun _ _ => true) (fun _ => true) (fun _ => true) (true) (fun _ _ => true) (true) (fun _ _ _ _ _ => true) (true) (fun _ => true) (fun _ _ _ _ _ => true) (true) (fun _ _ _ => true) (true) (fun _ _ => false) (fun _ _ => false) (false) (fun _ => true) (fun _ _ => true) (fun _ => true) () (fun _ _ _ _ => ()) v)
def sclL (l : List EV) : Bool := @List.rec EV (fun _ => Bool) true (fun v _ t => cnd (scl v) t false) l
def put1 (v : List EV) (off : Nat) (s : St) (i : Nat) (l : List EV) (n : Nat) (x : Bool) : Option St := cnd (band (sclL v) (Nat.ble (Nat.add off (len v)) n)) (some (s.put i (.row (spl v l off) n x))) none
def storeE (s : St) (i off : Nat) (v : List EV) : Option St := ob2 (s.obj i) fun o => ob2 o.wr? (p2 fun l => p2 (put1 v off s i l))
def isAg (x : TI) : Bool := match x.d with
  | .struct _ | .arr _ _ => true
  | _ => false
/-- a value out of cells: 'g': an aggregate of that many -/
def one1 : List EV → Option EV
  | [v] => some v
  | _ => none
def rdE (g : Bool) (n : Nat) (cs : List EV) : Option EV := cnd g (cnd (Nat.beq (len cs) n) (some (.agg cs)) none) (one1 cs)
def loadE (g : Bool) (n : Nat) (s : St) (i off : Nat) : Option EV :=
  cnd g (ob2 (cutE s i off n) fun cs => some (.agg cs)) (ob2 (s.row i) (p2 fun l _ => nth l off))
/-- a type's zero -/
def zvl (t : TypeId) : Option EV := ob2 (P.info? t) fun i => ob2 i.zero ofV
def zroE (t : TypeId) : Option (List EV) := (zro t).bind ofVs
def ordN (o : Ordering) : Nat := @Ordering.rec (fun _ => Nat) 0 1 2 o
/-! sums -/
def iadd (a b : Int) : Int := @Int.rec (fun _ => Int → Int) (fun a b => @Int.rec (fun _ => Int) (fun b => .ofNat (Nat.add a b)) (fun b => Int.subNatNat a (Nat.succ b)) b)
  (fun a b => @Int.rec (fun _ => Int) (fun b => Int.subNatNat b (Nat.succ a)) (fun b => .negSucc (Nat.succ (Nat.add a b))) b) a b
def ineg (a : Int) : Int := @Int.rec (fun _ => Int) (fun n => Int.negOfNat n) (fun n => .ofNat (Nat.succ n)) a
/-- into the kind: 'm' the half of its room -/
def wrS (m : Nat) (a : Int) : Int := @Int.rec (fun _ => Int) (fun n => cnd (Nat.ble m n) (Int.subNatNat (Nat.mod (Nat.add n m) (Nat.mul 2 m)) m) (.ofNat n))
  (fun n => cnd (Nat.ble m n) (Int.subNatNat (Nat.sub (Nat.sub (Nat.mul 2 m) 1) (Nat.mod (Nat.sub n m) (Nat.mul 2 m))) m) (.negSucc n)) a
def wrU (m : Nat) (a : Int) : Int := @Int.rec (fun _ => Int) (fun n => .ofNat (Nat.mod n m)) (fun n => .ofNat (Nat.sub (Nat.sub m 1) (Nat.mod n m))) a
def wrapE (k : IntKind) (n : Int) : Int := @IntKind.rec (fun _ => Int → Int) (wrS 128) (wrS 32768) (wrS 2147483648) (wrS 9223372036854775808) (wrU 256) (wrU 65536) (wrU 4294967296) (wrU 18446744073709551616) k n
def ieq (a b : Int) : Bool := @Int.rec (fun _ => Int → Bool) (fun a b => @Int.rec (fun _ => Bool) (Nat.beq a) (fun _ => false) b) (fun a b => @Int.rec (fun _ => Bool) (fun _ => false) (Nat.beq a) b) a b
def ile (a b : Int) : Bool := @Int.rec (fun _ => Int → Bool) (fun a b => @Int.rec (fun _ => Bool) (Nat.ble a) (fun _ => false) b) (fun a b => @Int.rec (fun _ => Bool) (fun _ => true) (fun b => Nat.ble b a) b) a b
def eqS : List Nat → List Nat → Bool
  | [], [] => true
  | a :: l, b :: r => match Nat.beq a b with
    | true => eqS l r
    | false => false
  | _, _ => false
def isNil (v : EV) : Option Bool := @EV.rec (fun _ => Option Bool) (fun _ => Unit) (fun _ _ => none) (fun _ => none) (fun _ => none) (some true) (fun _ _ => some false) (some true) (fun _ _ _ _ _ => some false) (some true) (fun _ => some false) (fun _ _ _ _ _ => some false) (some true) (fun _ _ _ => some false) (some true) (fun _ _ => none) (fun _ _ => none) none (fun _ => none) (fun _ _ => none) (fun _ => some false) () (fun _ _ _ _ => ()) v
def kn (k : IntKind) : Nat := @IntKind.rec (fun _ => Nat) 0 1 2 3 4 5 6 7 k
def kEq (a b : IntKind) : Bool := Nat.beq (kn a) (kn b)
def eqBo : EV → EV → Option Bool
  | .bool a, .bool b => some (a == b)
  | _, _ => none
def eqP : EV → EV → Option Bool
  | .nilp, .nilp => some true
  | .nilp, .ptr _ _ | .ptr _ _, .nilp => some false
  | .ptr i o, .ptr j p => cnd (Nat.beq i j) (some (Nat.beq o p)) none
  | _, _ => none
def eqSl : EV → EV → Option Bool
  | .nils, .nils => some true
  | .nils, .slice .. | .slice .., .nils => some false
  | _, _ => none
def eqM : EV → EV → Option Bool
  | .nilm, .nilm => some true
  | .nilm, .map _ | .map _, .nilm => some false
  | _, _ => none
/-- 'c': one of them is written -/
def eqI (c : Bool) : EV → EV → Option Bool
  | .nili, .nili => cnd c (some true) none
  | .nili, .iface _ _ | .iface _ _, .nili => some false
  | _, _ => none
def eqF : EV → EV → Option Bool
  | .nilf, .nilf => some true
  | .nilf, .fn .. | .fn .., .nilf | .nilf, .yld _ | .yld _, .nilf => some false
  | _, _ => none
/-- 1: an interface; 2: a function -/
def undK (t : TypeId) : Nat := match P.underlying t with
  | some (.interface _) => 1
  | some (.func _ _ _) => 2
  | _ => 0
def isK (q : Operand) : Bool := match q with
  | .const _ => true
  | _ => false
def mdE (k : IntKind) : Nat := @IntKind.rec (fun _ => Nat) 256 65536 4294967296 18446744073709551616 256 65536 4294967296 18446744073709551616 k
def btE (k : IntKind) : Nat := @IntKind.rec (fun _ => Nat) 8 16 32 64 8 16 32 64 k
/-- two numbers of a kind -/
def arE : BinOp → Option (IntKind → Int → Int → Option EV)
  | .add => some fun k a b => some (.int k (wrapE k (iadd a b)))
  | .sub => some fun k a b => some (.int k (wrapE k (iadd a (ineg b))))
  | .mul => some fun k a b => some (.int k (wrapE k (Int.mul a b)))
  | .quo => some fun k a b => cnd (ieq b 0) none (some (.int k (wrapE k (a.tdiv b))))
  | .rem => some fun k a b => cnd (ieq b 0) none (some (.int k (a.tmod b)))
  | .and => some fun k a b => ob2 (inat a) fun x => ob2 (inat b) fun y => some (.int k (wrapE k (.ofNat (Nat.land (Nat.mod x (mdE k)) (Nat.mod y (mdE k))))))
  | .or => some fun k a b => ob2 (inat a) fun x => ob2 (inat b) fun y => some (.int k (wrapE k (.ofNat (Nat.lor (Nat.mod x (mdE k)) (Nat.mod y (mdE k))))))
  | .xor => some fun k a b => ob2 (inat a) fun x => ob2 (inat b) fun y => some (.int k (wrapE k (.ofNat (Nat.xor (Nat.mod x (mdE k)) (Nat.mod y (mdE k))))))
  | .eql => some fun _ a b => some (.bool (ieq a b))
  | .neq => some fun _ a b => some (.bool (bnot (ieq a b)))
  | .lss => some fun _ a b => some (.bool (bnot (ile b a)))
  | .leq => some fun _ a b => some (.bool (ile a b))
  | .gtr => some fun _ a b => some (.bool (bnot (ile a b)))
  | .geq => some fun _ a b => some (.bool (ile b a))
  | _ => none
def stE : BinOp → Option (List Nat → List Nat → Option EV)
  | .add => some fun a b => cnd (Nat.ble (Nat.add (len a) (len b)) 4611686018427387904) (some (.str (app a b))) none
  | .eql => some fun a b => some (.bool (eqS a b))
  | .neq => some fun a b => some (.bool (bnot (eqS a b)))
  | _ => none
def shE : BinOp → Option (IntKind → Int → Int → Option EV)
  | .shl => some fun j a b => ob2 (inat b) fun n => cnd (Nat.ble n (btE j)) (some (.int j (wrapE j (Int.mul a (.ofNat (Nat.pow 2 n)))))) none
  | .shr => some fun j a b => ob2 (inat b) fun n => cnd (Nat.ble n (btE j)) (some (.int j (Int.ediv a (.ofNat (Nat.pow 2 n))))) none
  | _ => none
def binI (f : IntKind → Int → Int → Option EV) (x y : EV) : Option EV := ob2 x.int? (p2 fun j a => ob2 y.int? (p2 fun k b => cnd (kEq j k) (f j a b) none))
def binH (f : IntKind → Int → Int → Option EV) (x y : EV) : Option EV := ob2 x.int? (p2 fun j a => ob2 y.int? (p2 fun _ b => f j a b))
def binS (f : List Nat → List Nat → Option EV) (x y : EV) : Option EV := ob2 x.str? fun a => ob2 y.str? fun b => f a b
def none2 (x y : EV) : Option EV := none
def binE (n : Bool) (f : EV → EV → Option Bool) (x y : EV) : Option EV := ob2 (f x y) fun b => some (.bool (cnd n (bnot b) b))
def binO (op : BinOp) (f : EV → EV → Option Bool) : EV → EV → Option EV := match op with
  | .eql => binE false f
  | .neq => binE true f
  | _ => none2
def EV.flt? (v : EV) : Option Nat := (@EV.rec (fun _ => Option Nat) (fun _ => Unit) (fun _ _ => none) (fun _ => none) (fun _ => none) (none) (fun _ _ => none) (none) (fun _ _ _ _ _ => none) (none) (fun _ => none) (fun _ _ _ _ _ => none) (none) (fun _ _ _ => none) (none) (fun _ _ => none) (fun _ _ => none) (none) (fun b => some b) (fun _ _ => none) (fun _ => none) () (fun _ _ _ _ => ()) v)
def EV.cpx? (v : EV) : Option (Nat × Nat) := (@EV.rec (fun _ => Option (Nat × Nat)) (fun _ => Unit) (fun _ _ => none) (fun _ => none) (fun _ => none) (none) (fun _ _ => none) (none) (fun _ _ _ _ _ => none) (none) (fun _ => none) (fun _ _ _ _ _ => none) (none) (fun _ _ _ => none) (none) (fun _ _ => none) (fun _ _ => none) (none) (fun _ => none) (fun a b => some (a, b)) (fun _ => none) () (fun _ _ _ _ => ()) v)
def EV.yld? (v : EV) : Option Nat := (@EV.rec (fun _ => Option Nat) (fun _ => Unit) (fun _ _ => none) (fun _ => none) (fun _ => none) (none) (fun _ _ => none) (none) (fun _ _ _ _ _ => none) (none) (fun _ => none) (fun _ _ _ _ _ => none) (none) (fun _ _ _ => none) (none) (fun _ _ => none) (fun _ _ => none) (none) (fun _ => none) (fun _ _ => none) (fun i => some i) () (fun _ _ _ _ => ()) v)
def fsome (x : Option Nat) : Option EV := ob2 x fun z => some (.flt z)
def ordB (op : BinOp) (o : Ordering) : Option Bool := match op with
  | .eql => some (Nat.beq (ordN o) 1)
  | .neq => some (bnot (Nat.beq (ordN o) 1))
  | .lss => some (Nat.beq (ordN o) 0)
  | .leq => some (bnot (Nat.beq (ordN o) 2))
  | .gtr => some (Nat.beq (ordN o) 2)
  | .geq => some (bnot (Nat.beq (ordN o) 0))
  | _ => none
def flE (op : BinOp) : Nat → Nat → Option EV := match op with
  | .add => fun a b => fsome (Ieee.double.add a b)
  | .sub => fun a b => fsome (Ieee.double.sub a b)
  | .mul => fun a b => fsome (Ieee.double.mul a b)
  | .quo => fun a b => fsome (Ieee.double.div a b)
  | op => fun a b => ob2 (Ieee.double.order a b) fun o => ob2 (ordB op o) fun t => some (.bool t)
def cpE (op : BinOp) (p q : Nat × Nat) : Option EV := match op with
  | .add => ob2 (Ieee.double.add p.1 q.1) fun x => ob2 (Ieee.double.add p.2 q.2) fun y => some (.cpx x y)
  | .sub => ob2 (Ieee.double.sub p.1 q.1) fun x => ob2 (Ieee.double.sub p.2 q.2) fun y => some (.cpx x y)
  | _ => none
def binF (f : Nat → Nat → Option EV) (x y : EV) : Option EV := ob2 x.flt? fun a => ob2 y.flt? fun b => f a b
def binC (f : Nat × Nat → Nat × Nat → Option EV) (x y : EV) : Option EV := ob2 x.cpx? fun a => ob2 y.cpx? fun b => f a b
/-- structs and arrays of numbers, bools, strings: where each part lies, and its kind -/
def kcC (d : D) : Option Nat := match d with
  | .int k => some (kn k)
  | .str => some 8
  | .bool => some 9
  | _ => none
def kcsC : List (Nat × Nat) → Option (List (Nat × Nat))
  | [] => some []
  | (off, t) :: r => ob2 (ti t) fun x => ob2 (kcC x.d) fun k => ob2 (kcsC r) fun l => some ((off, k) :: l)
def kcaC (k : Nat) : Nat → Nat → List (Nat × Nat)
  | 0, _ => []
  | n + 1, i => (i, k) :: kcaC k n (Nat.succ i)
/-- a struct whose parts all count -/
def okS (t : TypeId) : Bool := match P.underlying t with
  | some (.struct fs) => fs.toList.all (fun f => !(f.name == "_")) && !P.stoodInHeld t
  | _ => false
def agC (t : TypeId) : Option (List (Nat × Nat)) := cnd (P.eqGuardType P.depth t) none <| ob2 (ti t) fun x => match x.d with
  | .struct fs => cnd (okS t) (kcsC fs) none
  | .arr n e => ob2 (ti e) fun y => ob2 (kcC y.d) fun k => cnd (Nat.beq y.size 1) (some (kcaC k n 0)) none
  | _ => none
def eqK (k : Nat) : EV → EV → Option Bool
  | .int i a, .int j b => cnd (Nat.beq (kn i) k) (cnd (Nat.beq (kn j) k) (some (ieq a b)) none) none
  | .str a, .str b => cnd (Nat.beq k 8) (some (eqS a b)) none
  | .bool a, .bool b => cnd (Nat.beq k 9) (some (a == b)) none
  | _, _ => none
def eqA : List (Nat × Nat) → List EV → List EV → Option Bool
  | [], _, _ => some true
  | (off, k) :: r, l, m => ob2 (nth l off) fun x => ob2 (nth m off) fun y => ob2 (eqK k x y) fun b => cnd b (eqA r l m) (some false)
def binA (n : Bool) (ps : List (Nat × Nat)) (x y : EV) : Option EV := ob2 x.agg? fun l => ob2 y.agg? fun m => ob2 (eqA ps l m) fun b => some (.bool (cnd n (bnot b) b))
/-- by the operands' type -/
def binV (op : BinOp) (t : TypeId) (c : Bool) : EV → EV → Option EV := match ti t with
  | none => none2
  | some x => match x.d with
    | .int _ => match shE op with
      | some f => binH f
      | none => match arE op with
        | some f => binI f
        | none => none2
    | .str => match stE op with
      | some f => binS f
      | none => none2
    | .flt .f64 => binF (flE op)
    | .cpl .f64 => binC (cpE op)
    | .struct _ | .arr _ _ => match op, agC t with
      | .eql, some ps => binA false ps
      | .neq, some ps => binA true ps
      | _, _ => none2
    | .bool => binO op eqBo
    | .ptr e => match ti e with
      | some y => cnd (Nat.beq y.size 0) none2 (binO op eqP)
      | none => none2
    | .sl _ => binO op eqSl
    | .mp _ _ => binO op eqM
    | _ => cnd (Nat.beq (undK t) 1) (binO op (eqI c)) (cnd (Nat.beq (undK t) 2) (binO op eqF) none2)
def unV : UnOp → EV → Option EV
  | .not, .bool b => some (.bool (bnot b))
  | .neg, .int k n => some (.int k (wrapE k (ineg n)))
  | .xor, .int k n => some (.int k (wrapE k (iadd (ineg n) (.negSucc 0))))
  | _, _ => none
/-! runs -/
abbrev Cr := Rs (Ex × Fr × St)
/-- code with less fuel: the function's temporaries, the scope around it -/
abbrev Run := Nat → Option Code → Code → Fr → St → Cr
inductive Bo where
  | mk (f : Run → Fr → St → R) | bad (w : Nat)
def Bo.go (b : Bo) (run : Run) (fr : Fr) (s : St) : R := @Bo.rec (fun _ => R) (fun f => f run fr s) (fun w => .no w []) b
/-- an operation that leaves the state alone -/
def pv (f : Fr → Option EV) (w : Nat) : Bo := .mk fun _ fr s => bo w (f fr) fun v => .ok (v, s)
def sv (f : Fr → St → Option EV) (w : Nat) : Bo := .mk fun _ fr s => bo w (f fr s) fun v => .ok (v, s)
def cv (f : Fr → St → Option (EV × St)) (w : Nat) : Bo := .mk fun _ fr s => bo w (f fr s) .ok
def ost {α : Type} (w : Nat) (x : Option α) (f : α → Bo) : Bo := @Option.rec α (fun _ => Bo) (.bad w) f x
def q1 (q : Oq) (f : EV → Option EV) (fr : Fr) : Option EV := ob2 (q.get fr) f
def q2 (a b : Oq) (f : EV → EV → Option EV) (fr : Fr) : Option EV := ob2 (a.get fr) fun x => ob2 (b.get fr) (f x)
/-! operations -/
def fillE (pl : Nat → Option (Nat × Nat)) : List EV → List (Nat × EV) → Option (List EV)
  | cs, [] => some cs
  | cs, (i, v) :: r => match pl i with
    | none => none
    | some (off, sz) => match band (notTup v) (Nat.beq (len (cellsE v)) sz) with
      | false => none
      | true => match Nat.ble (off + sz) (len cs) with
        | true => fillE pl (spl (cellsE v) cs off) r
        | false => none
def plsC (t : TypeId) : Option (Nat → Option (Nat × Nat)) := match ti t with
  | none => none
  | some x => match x.d with
    | .struct fs => (plS t).map fun l i => l[i]?
    | .arr _ e => (ti e).map fun y i => some (i * y.size, y.size)
    | _ => none
/-- a slice's elements; a map's -/
def slT (t : TypeId) : Option TypeId := ob2 (ti t) fun x => match x.d with
  | .sl e => some e
  | _ => none
def mpT (t : TypeId) : Option TypeId := ob2 (ti t) fun x => match x.d with
  | .mp _ e => some e
  | _ => none
def slC (t : TypeId) : Option TI := ob2 (slT t) ti
def mpC (t : TypeId) : Option TI := ob2 (mpT t) ti
/-- a new row; a grown one ('x' is false): the third number is that of an element's cells -/
def newSl (s : St) (cs : List EV) (n m c : Nat) (x : Bool) : EV × St := (.slice s.num 0 n c x, s.new (.row cs m x))
def u8s (l : List Nat) : List EV := @List.rec Nat (fun _ => List EV) [] (fun b _ t => .int .u8 (.ofNat b) :: t) l
def ofU8 (l : List EV) : Option (List Nat) := @List.rec EV (fun _ => Option (List Nat)) (some []) (fun v _ t => ob2 v.u8? fun b => ob2 t fun r => some (b :: r)) l
/-- the cells of a slice's elements -/
def cellsOf (s : St) (sz : Nat) (v : EV) : Option (List EV) := @EV.rec (fun _ => St → Nat → Option (List EV)) (fun _ => Unit) (fun _ _ _ _ => none) (fun _ _ _ => none) (fun b _ _ => some (u8s b)) (fun _ _ => none) (fun _ _ _ _ => none) (fun _ _ => some []) (fun i off n _ _ s sz => cnd (Nat.beq (Nat.mul n sz) 0) (some []) (cutE s i off (Nat.mul n sz))) (fun _ _ => none) (fun _ _ _ => none) (fun _ _ _ _ _ _ _ => none) (fun _ _ => none) (fun _ _ _ _ _ => none) (fun _ _ => none) (fun _ _ _ _ => none) (fun _ _ _ _ => none) (fun _ _ => none) (fun _ _ _ => none) (fun _ _ _ _ => none) (fun _ _ _ => none) () (fun _ _ _ _ => ()) v s sz
def lenE (v : EV) : Option Nat := @EV.rec (fun _ => Option Nat) (fun _ => Unit) (fun _ _ => none) (fun _ => none) (fun s => some (len s)) none (fun _ _ => none) (some 0) (fun _ _ n _ _ => some n) none (fun _ => none) (fun _ _ _ _ _ => none) none (fun _ _ _ => none) none (fun _ _ => none) (fun _ _ => none) none (fun _ => none) (fun _ _ => none) (fun _ => none) () (fun _ _ _ _ => ()) v
/-- conversions: numbers; to a float; a number's letter; strings; bytes of a string; a string of bytes; bytes marked -/
inductive CK where
  | ii (k : IntKind) | fl | is | ss | sb | bs | mk
def isU8 (t : TypeId) : Bool := match ti t with
  | some y => match y.d with
    | .int .u8 => true
    | _ => false
  | none => false
def ckC (a b : TypeId) : Option CK := ob2 (ti a) fun x => ob2 (ti b) fun y => match x.d, y.d with
  | .int _, .int k => some (.ii k)
  | .int _, .flt .f64 => some .fl
  | .int _, .str => some .is
  | .str, .str => some .ss
  | .str, .sl e => cnd (isU8 e) (some .sb) none
  | .sl e, .str => cnd (isU8 e) (some .bs) none
  | .sl _, .sl e => cnd (isU8 e) (cnd (Nat.beq a b) (some .mk) none) none
  | _, _ => none
def convP (k : CK) (v : EV) : Option EV := match k, v with
  | .ii k, .int _ n => some (.int k (wrapE k n))
  | .fl, .int _ n => some (.flt (FloatKind.f64.nearest n))
  | .is, .int _ (.ofNat n) => cnd (blt n 128) (some (.str [n])) none
  | .ss, .str l => some (.str l)
  | _, _ => none
def convB (s : St) (v : EV) : Option EV := match v with
  | .nils => some (.str [])
  | .slice i off n c x => ob2 (cellsOf s 1 (.slice i off n c x)) fun cs => ob2 (ofU8 cs) fun l => some (.str l)
  | _ => none
def convS (s : St) (v : EV) : Option (EV × St) := match v with
  | .str l => cnd (Nat.ble (len l) 4611686018427387904) (some (newSl s (u8s l) (len l) (len l) 1 false)) none
  | _ => none
/-- bytes marked: the row is touched -/
def convM (v : EV) (s : St) : Option (EV × St) := match v with
  | .slice i off n c x => ob2 (s.obj i) fun o => cnd o.row?.isSome (some (.slice i off n c x, s.put i o)) none
  | _ => none
def onat (d : Nat) (o : Option EV) : Option Nat := @Option.rec EV (fun _ => Option Nat) (some d) EV.nat? o
def oget (q : Option Oq) (fr : Fr) : Option (Option EV) := @Option.rec Oq (fun _ => Option (Option EV)) (some none) (fun q => ob2 (q.get fr) fun v => some (some v)) q
inductive SK where
  | str | sl (sz : Nat) | arr (n sz : Nat)
def skC (t : TypeId) : Option SK := (ti t).bind fun x => match x.d with
  | .str => some .str
  | .sl e => (ti e).map fun y => .sl y.size
  | .arr n e => (ti e).map fun y => .arr n y.size
  | _ => none
def sliceE (k : SK) (v : EV) (lo hi mx : Option EV) (s : St) : Option (EV × St) := match k, v with
  | .str, .str x => ob2 (onat (len x) hi) fun h => ob2 (onat 0 lo) fun l => cnd (Nat.ble l h && Nat.ble h (len x) && mx.isNone) (some (.str (drp (tke x h) l), s)) none
  | .sl _, .nils => ob2 (onat 0 hi) fun h => ob2 (onat 0 lo) fun l => cnd (Nat.beq l 0 && Nat.beq h 0 && mx.isNone) (some (.nils, s)) none
  | .sl sz, .slice i off n c true => ob2 (onat c mx) fun m => ob2 (onat n hi) fun h => ob2 (onat 0 lo) fun l =>
      cnd (Nat.ble l h && Nat.ble h m && Nat.ble m c && (mx.isNone || hi.isSome)) (some (.slice i (cnd (Nat.beq m l) off (Nat.add off (Nat.mul l sz))) (Nat.sub h l) (Nat.sub m l) true, s)) none
  | .sl sz, .slice i off n c false => ob2 (onat n hi) fun h => ob2 (onat 0 lo) fun l =>
      -- an unknown capacity: no more than what is known is taken
      cnd (Nat.ble l h && Nat.ble h n && mx.isNone && Nat.beq c sz && !(Nat.beq sz 0)) (cnd (Nat.beq l n) (some (.slice s.num 0 0 c false, s.new .dead)) (some (.slice i (Nat.add off (Nat.mul l sz)) (Nat.sub h l) c false, s))) none
  | .arr n sz, .ptr i off => ob2 (onat n hi) fun h => ob2 (onat 0 lo) fun l => cnd (Nat.ble l h && Nat.ble h n && mx.isNone) (some (.slice i (cnd (Nat.beq n l) off (Nat.add off (Nat.mul l sz))) (Nat.sub h l) (Nat.sub n l) true, s)) none
  | _, _ => none
/-- is there room for so many? -/
def roomE (y : TI) (m : Nat) : Bool := band (Nat.ble (Nat.mul m y.bytes) 140737488355328) (band (Nat.ble m 4611686018427387904) (bnot (Nat.beq y.size 0)))
def keeps (v : EV) : Bool := (@EV.rec (fun _ => Bool) (fun _ => Unit) (fun _ _ => false) (fun _ => false) (fun _ => false) (false) (fun _ _ => false) (true) (fun _ _ n c x => cnd x (Nat.ble n c) true) (false) (fun _ => false) (fun _ _ _ _ _ => false) (false) (fun _ _ _ => false) (false) (fun _ _ => false) (fun _ _ => false) (false) (fun _ => false) (fun _ _ => false) (fun _ => false) () (fun _ _ _ _ => ()) v)
/-- a row behind which there may be more cells -/
def EO.grw? (o : EO) : Option Unit := @EO.rec (fun _ => Option Unit) (fun _ _ x => @Bool.rec (fun _ => Option Unit) (some ()) none x) (fun _ _ => none) (fun _ _ => none) (fun _ _ => none) (fun _ _ _ _ => none) none none (fun _ _ _ _ _ _ _ => none) o
def grwE (s : St) (i : Nat) : Bool := @Option.rec Unit (fun _ => Bool) false (fun _ => true) (ob2 (s.obj i) EO.grw?)
def appE (s : St) (y : TI) (v : EV) (news : List EV) (m : Nat) : Option (EV × St) := cnd (Nat.beq m 0) (cnd (keeps v) (some (v, s)) none) (cnd (sclL news) (match v with
  | .nils => cnd (roomE y m) (some (newSl s news m (Nat.mul m y.size) y.size false)) none
  | .slice i off n c true => cnd (roomE y (Nat.add n m)) (cnd (Nat.ble (Nat.add n m) c)
      (ob2 (storeE s i (Nat.add off (Nat.mul n y.size)) news) fun s' => some (.slice i off (Nat.add n m) c true, s'))
      (ob2 (cutE s i off (Nat.mul n y.size)) fun olds => some (newSl s (app olds news) (Nat.add n m) (Nat.mul (Nat.add n m) y.size) y.size false))) none
  | .slice i off n c false => cnd (roomE y (Nat.add n m)) (cnd (band (grwE s i) (band (Nat.beq off 0) (Nat.beq c y.size)))
      (ob2 (cutE s i off (Nat.mul n y.size)) fun olds => some (newSl (s.put i .dead) (app olds news) (Nat.add n m) (Nat.mul (Nat.add n m) y.size) y.size false))
      none) none
  | _ => none) none)
def keyEq : EV → EV → Option Bool
  | .int j x, .int k y => cnd (kEq j k) (some (ieq x y)) none
  | .str x, .str y => some (eqS x y)
  | .bool x, .bool y => some (x == y)
  | _, _ => none
/-- maps of numbers, strings, bools: the key's kind -/
def keyN (t : TypeId) : Option Nat := ob2 (ti t) fun x => match x.d with
  | .mp k _ => ob2 (ti k) fun y => kcC y.d
  | _ => none
def keyK (n : Nat) : EV → Bool
  | .int k _ => Nat.beq (kn k) n
  | .str _ => Nat.beq 8 n
  | .bool _ => Nat.beq 9 n
  | _ => false
def findE (k : EV) : List (EV × EV × Nat) → Nat → Option (Option (Nat × EV))
  | [], _ => some none
  | (a, v, _) :: r, i => match keyEq k a with
    | some true => some (some (i, v))
    | some false => findE k r (Nat.succ i)
    | none => none
def findK (n : Nat) (k : EV) (es : List (EV × EV × Nat)) : Option (Option (Nat × EV)) := cnd (keyK n k) (findE k es 0) none
def modE (f : EV × EV × Nat → EV × EV × Nat) : List (EV × EV × Nat) → Nat → List (EV × EV × Nat)
  | [], _ => []
  | x :: r, 0 => f x :: r
  | x :: r, i + 1 => x :: modE f r i
def entE : EV → St → Option (List (EV × EV × Nat))
  | .nilm, _ => some []
  | .map i, s => ob2 (s.mp i) fun p => some p.1
  | _, _ => none
def lookE (ok : Bool) (z : EV) : Option (Nat × EV) → EV
  | some (_, v) => cnd ok (.tup [v, .bool true]) v
  | none => cnd ok (.tup [z, .bool false]) z
def insE (n : Nat) (m k v : EV) (s : St) : Option (EV × St) := ob2 m.map? fun i => ob2 (s.mp i) (p2 fun es cl => ob2 (findK n k es) fun q => match q with
  | some (j, _) => some (.undef, s.put i (.map (modE (fun e => (e.1, v, e.2.2)) es j) cl))
  | none => some (.undef, s.put i (.map (app es [(k, v, cl)]) (Nat.succ cl))))
def mentE (n : Nat) (z m k : EV) (s : St) : Option (EV × St) := ob2 m.map? fun i => ob2 (s.mp i) (p2 fun es cl => ob2 (findK n k es) fun q => match q with
  | some (j, v) => ob2 (nth es j) fun e => some (.tup [v, .int .i64 (.ofNat e.2.2)], s.put i (.map es cl))
  | none => some (.tup [z, .int .i64 (.ofNat cl)], s.put i (.map (app es [(k, z, cl)]) (Nat.succ cl))))
def esE (m : EV) (n : Nat) (v : EV) (s : St) : Option (EV × St) := ob2 m.map? fun i => ob2 (s.mp i) (p2 fun es cl => ob2 (es.findIdx? fun e => Nat.beq e.2.2 n) fun j =>
  some (.undef, s.put i (.map (modE (fun e => (e.1, v, e.2.2)) es j) cl)))
def rngS (v : EV) (s : St) : Option (EV × St) := ob2 v.str? fun l => some (.ptr s.num 0, s.new (.sit l 0))
def rngM : EV → St → Option (EV × St)
  | .nilm, s => some (.ptr s.num 0, s.new (.mit none 0 [] 0))
  | .map i, s => ob2 (s.mp i) (p2 fun _ cl => some (.ptr s.num 0, s.new (.mit (some i) cl [] cl)))
  | _, _ => none
/-- only where there is but one way -/
def nextM (s : St) (i m since : Nat) (seen : List Nat) (last : Nat) (es : List (EV × EV × Nat)) (cl : Nat) : Option (EV × St) :=
  cnd (!seen.isEmpty && (!es.isEmpty && es.all fun e => Nat.ble last e.2.2)) none (match es.filter fun e => !(seen.any (Nat.beq e.2.2)) with
    | [] => some (.tup [.bool false], s)
    | [e] => cnd (blt e.2.2 since) (some (.tup [.bool true, e.1, e.2.1], s.put i (.mit (some m) since (e.2.2 :: seen) cl))) none
    | _ => none)
def nextE (s : St) (i : Nat) : EO → Bool → Option (EV × St)
  | .sit l p, true => match nth l p with
    | some b => cnd (blt b 128) (some (.tup [.bool true, .int .i64 (.ofNat p), .int .i32 (.ofNat b)], s.put i (.sit l (Nat.succ p)))) none
    | none => some (.tup [.bool false], s)
  | .mit none _ _ _, false => some (.tup [.bool false], s)
  | .mit (some m) since seen last, false => ob2 (s.mp m) (p2 fun es cl => nextM s i m since seen last es cl)
  | _, _ => none
def mitE (o : EO) : Option (Nat × Nat × Nat) := match o with
  | .mit (some m) _ (b :: _) last => some (m, b, last)
  | _ => none
def findB (b : Nat) (l : List (EV × EV × Nat)) : Option (EV × EV) := @List.rec (EV × EV × Nat) (fun _ => Option (EV × EV)) none (fun e _ t => p2 (fun k => p2 fun v n => cnd (Nat.beq n b) (some (k, v)) t) e) l
def entryE (s : St) (o : EO) : Option EV := ob2 (mitE o) (p2 fun m => p2 fun b last => ob2 (s.mp m) (p2 fun es cl => cnd (Nat.beq cl last) (ob2 (findB b es) (p2 fun k v => some (.tup [k, v]))) none))
def fldC (t f : Nat) : Option (Nat × Bool × Nat) := (ti t).bind fun y => match y.d with
  | .struct fs => (fs[f]?).bind fun p => (ti p.2).map fun z => (p.1, isAg z, z.size)
  | _ => none
inductive IK where
  | str | sl (sz : Nat) | arr (n sz : Nat) (g : Bool)
def ikC (t : TypeId) : Option IK := (ti t).bind fun y => match y.d with
  | .str => some .str
  | .sl e => (ti e).map fun z => .sl z.size
  | .arr n e => (ti e).map fun z => .arr n z.size (isAg z)
  | _ => none
def ixaE (k : IK) (v : EV) (j : Nat) : Option EV := @IK.rec (fun _ => Option EV) none (fun sz => ob2 v.sl? fun l => @Sli.rec (fun _ => Option EV) (fun i off n _ _ => cnd (blt j n) (some (.ptr i (Nat.add off (Nat.mul j sz)))) none) l)
  (fun n sz _ => ob2 v.ptr? (p2 fun i off => cnd (blt j n) (some (.ptr i (Nat.add off (Nat.mul j sz)))) none)) k
def ixE (k : IK) (v : EV) (j : Nat) : Option EV := @IK.rec (fun _ => Option EV) (ob2 v.str? fun l => ob2 (nth l j) fun b => some (.int .u8 (.ofNat b))) (fun _ => none)
  (fun n sz g => ob2 v.agg? fun l => cnd (blt j n) (rdE g sz (tke (drp l (Nat.mul j sz)) sz)) none) k
def conc (t : TypeId) : Bool := match P.underlying t with
  | some (.interface _) => false
  | some _ => true
  | none => false
def isMp (t : TypeId) : Bool := match ti t with
  | some y => match y.d with
    | .mp _ _ => true
    | _ => false
  | none => false
/-- may it be stored so? -/
def stOk (g : Bool) (n : Nat) (v : EV) : Bool := cnd g (@Option.rec (List EV) (fun _ => Bool) false (fun l => Nat.beq (len l) n) v.agg?) (band (Nat.beq n 1) (scl v))
def ptrSt (v : EV) (f : Nat → Nat → Option (EV × St)) : Option (EV × St) := ob2 v.ptr? (p2 f)
def opC (gi : Nat → Option Nat) (o : Op) : Bo := match o with
  | .move x | .assign x => pv (oqC gi x).get 1
  | .pick c a b => pv (fun fr => ob2 ((oqC gi c).get fr) fun v => ob2 v.bool? fun t => cnd t ((oqC gi a).get fr) ((oqC gi b).get fr)) 40
  | .alloc t => ost 3 (zroE t) fun z => .mk fun _ _ s => .ok (.ptr s.num 0, s.new (.row z (len z) true))
  | .box _ x => cv (fun fr s => ob2 ((oqC gi x).get fr) fun v => cnd (notTup v) (some (.ptr s.num 0, s.new (.row (cellsE v) (len (cellsE v)) true))) none) 42
  | .build t ps => ost 41 (plsC t) fun pl => ost 3 (zroE t) fun z =>
      pv (fun fr => ob2 (getL (ps.toList.map fun p => oqC gi p.2) fr) fun vs => ob2 (fillE pl z ((ps.toList.map (·.1)).zip vs)) fun cs => some (.agg cs)) 43
  | .buildSlice t n ps => ost 45 (slT t) fun e => ost 45 (ti e) fun y => ost 3 (zroE e) fun z =>
      cnd (band (Nat.ble (Nat.mul n y.size) 16777216) (band (Nat.beq (len z) y.size) (bnot (Nat.beq y.size 0)))) (cv (fun fr s => ob2 (getL (ps.toList.map fun p => oqC gi p.2) fr) fun vs => ob2 (fillE (fun i => some (i * y.size, y.size)) (rep z n) ((ps.toList.map (·.1)).zip vs)) fun cs => some (newSl s cs n (Nat.mul n y.size) n true)) 46 ) (.bad 44)
  | .load t a => ost 4 (ti t) fun x => sv (fun fr s => ob2 ((oqC gi a).get fr) fun v => ob2 v.ptr? (p2 (loadE (isAg x) x.size s))) 47
  | .store t a x => ost 48 (ti t) fun y => cv (fun fr s => ob2 ((oqC gi x).get fr) fun v => ob2 ((oqC gi a).get fr) fun p => cnd (stOk (isAg y) y.size v) (ptrSt p fun i off => ob2 (storeE s i off (cellsE v)) fun s' => some (.undef, s')) none) 49
  | .nilCheck x => pv (q1 (oqC gi x) fun v => ob2 (isNil v) fun b => cnd b none (some v)) 50
  | .binOp op t x y _ => pv (q2 (oqC gi x) (oqC gi y) (binV op t (cnd (isK x) true (isK y)))) 51
  | .unOp op _ x => pv (q1 (oqC gi x) (unV op)) 52
  | .convert a b x => ost 31 (ckC a b) fun k => match k with
    | .bs => sv (fun fr s => ob2 ((oqC gi x).get fr) (convB s)) 53
    | .sb => cv (fun fr s => ob2 ((oqC gi x).get fr) (convS s)) 32
    | .mk => cv (fun fr s => ob2 ((oqC gi x).get fr) fun v => convM v s) 33
    | k => pv (q1 (oqC gi x) (convP k)) 34
  | .makeInterface t x => cnd (conc t) (pv (q1 (oqC gi x) fun v => some (.iface t v)) 54) (.bad 35)
  | .makeFunc (.func f) first cap => pv (fun fr => ob2 (getL (first.toList.map (oqC gi)) fr) fun a => ob2 (getL (cap.toList.map (oqC gi)) fr) fun b => some (.fn f a b)) 55
  | .makeMap _ none => .mk fun _ _ s => .ok (.map s.num, s.new (.map [] 0))
  | .makeMap t (some q) => cnd (isMp t) (cv (fun fr s => ob2 ((oqC gi q).get fr) fun v => ob2 v.int? fun _ => some (.map s.num, s.new (.map [] 0))) 36) (.bad 37)
  | .makeSlice t l c => ost 56 (slT t) fun e => ost 56 (ti e) fun y => ost 3 (zroE e) fun z => cv (fun fr s => ob2 ((oqC gi l).get fr) fun a => ob2 a.nat? fun n => ob2 ((oqC gi c).get fr) fun b => ob2 b.nat? fun m =>
      cnd (band (Nat.ble n m) (band (roomE y m) (Nat.beq (len z) y.size))) (some (.slice s.num 0 n m true, s.new (.row (rep z m) (Nat.mul m (len z)) true))) none) 57
  | .slice t x lo hi mx => ost 58 (skC t) fun k => cv (fun fr s => ob2 ((oqC gi x).get fr) fun v => ob2 (oget (lo.map (oqC gi)) fr) fun a => ob2 (oget (hi.map (oqC gi)) fr) fun b => ob2 (oget (mx.map (oqC gi)) fr) fun c => sliceE k v a b c s) 59
  | .fieldAddr t x f => ost 60 (fld t f) fun d => pv (q1 (oqC gi x) fun v => ob2 v.ptr? (p2 fun i off => some (.ptr i (Nat.add off d)))) 61
  | .field t x f => ost 62 (fldC t f) fun p => pv (q1 (oqC gi x) fun v => ob2 v.agg? fun l => rdE p.2.1 p.2.2 (tke (drp l p.1) p.2.2)) 63
  | .indexAddr t x ix => ost 64 (ikC t) fun k => pv (q2 (oqC gi x) (oqC gi ix) fun v j => ob2 j.nat? (ixaE k v)) 65
  | .index t x ix => ost 66 (ikC t) fun k => pv (q2 (oqC gi x) (oqC gi ix) fun v j => ob2 j.nat? (ixE k v)) 67
  | .lookup t x ix ok => ost 69 (keyN t) fun kn => ost 68 (ob2 (mpT t) zvl) fun z =>
      sv (fun fr s => ob2 ((oqC gi ix).get fr) fun k => ob2 ((oqC gi x).get fr) fun m => ob2 (entE m s) fun es => ob2 (findK kn k es) fun q => some (lookE ok z q)) 69
  | .mapUpdate t m k x | .insert t m k x => ost 70 (keyN t) fun kn => cv (fun fr s => ob2 ((oqC gi m).get fr) fun mv => ob2 ((oqC gi k).get fr) fun kv => ob2 ((oqC gi x).get fr) fun v => insE kn mv kv v s) 70
  | .mapEntry t m k => ost 72 (keyN t) fun kn => ost 71 (ob2 (mpT t) zvl) fun z =>
      cv (fun fr s => ob2 ((oqC gi m).get fr) fun mv => ob2 ((oqC gi k).get fr) fun kv => mentE kn z mv kv s) 72
  | .entryStore _ m st x => cv (fun fr s => ob2 ((oqC gi m).get fr) fun mv => ob2 ((oqC gi st).get fr) fun kv => ob2 kv.nat? fun n => ob2 ((oqC gi x).get fr) fun v => esE mv n v s) 73
  | .range t x => ost 74 (ti t) fun y => match y.d with
    | .str => cv (fun fr s => ob2 ((oqC gi x).get fr) fun v => rngS v s) 74
    | .mp _ _ => cv (fun fr s => ob2 ((oqC gi x).get fr) fun v => rngM v s) 74
    | _ => .bad 74
  | .next it b => cv (fun fr s => ob2 ((oqC gi it).get fr) fun v => ptrSt v fun i off => cnd (Nat.beq off 0) (ob2 (s.obj i) fun o => nextE s i o b) none) 75
  | .entry it => sv (fun fr s => ob2 ((oqC gi it).get fr) fun v => ob2 v.ptr? (p2 fun i off => cnd (Nat.beq off 0) (ob2 (s.obj i) (entryE s)) none)) 79
  | .extract t i => pv (q1 (oqC gi t) fun v => ob2 v.tup? fun l => nth l i) 77
  | _ => .bad 78
/-! builtins -/
def lenSl : EV → Option EV
  | .nils => some (.int .i64 (.ofNat 0))
  | .slice _ _ n _ _ => some (.int .i64 (.ofNat n))
  | _ => none
def lenSt : EV → Option EV
  | .str l => some (.int .i64 (.ofNat (len l)))
  | _ => none
def lenM (s : St) : EV → Option EV
  | .nilm => some (.int .i64 (.ofNat 0))
  | .map i => ob2 (s.mp i) fun p => some (.int .i64 (.ofNat (len p.1)))
  | _ => none
def capV : EV → Option EV
  | .nils => some (.int .i64 0)
  | .slice _ _ _ c true => some (.int .i64 (.ofNat c))
  | _ => none
def sllE (v : EV) : Option Nat := (@EV.rec (fun _ => Option Nat) (fun _ => Unit) (fun _ _ => none) (fun _ => none) (fun _ => none) (none) (fun _ _ => none) (some 0) (fun _ _ n _ _ => some n) (none) (fun _ => none) (fun _ _ _ _ _ => none) (none) (fun _ _ _ => none) (none) (fun _ _ => none) (fun _ _ => none) (none) (fun _ => none) (fun _ _ => none) (fun _ => none) () (fun _ _ _ _ => ()) v)
def copE (s : St) (d : EV) (m : Nat) (cs : List EV) : Option (EV × St) := ob2 d.sl? fun l => ob2 (storeE s l.i l.off (tke cs m)) fun s' => some (.int .i64 (.ofNat m), s')
def copyE (s : St) (y : TI) (d x : EV) : Option (EV × St) := ob2 (sllE d) fun a => ob2 (lenE x) fun b => cnd (Nat.beq (cnd (Nat.ble a b) a b) 0) (some (.int .i64 (.ofNat 0), s)) (cnd (Nat.beq y.size 1) (ob2 (cellsOf s 1 x) (copE s d (cnd (Nat.ble a b) a b))) none)
def minE (g : Bool) : EV → EV → Option EV
  | .int k a, .int j b => cnd (kEq j k) (some (.int k (cnd (cnd g (ile a b) (ile b a)) a b))) none
  | .flt a, .flt b => cnd g (ob2 (Ieee.double.order a b) fun o => cnd (Nat.beq (ordN o) 0) (some (.flt a)) (cnd (Nat.beq (ordN o) 2) (some (.flt b)) (cnd (Nat.beq a b) (some (.flt a)) none))) none
  | _, _ => none
def delE (n : Nat) (m k : EV) (s : St) : Option (EV × St) := match m with
  | .nilm => some (.tup [], s)
  | .map i => ob2 (s.mp i) (p2 fun es cl => ob2 (findK n k es) fun q => match q with
    | some (j, _) => some (.tup [], s.put i (.map (es.eraseIdx j) cl))
    | none => some (.tup [], s.put i (.map es cl)))
  | _ => none
def clrE (z : List EV) (v : EV) (s : St) : Option (EV × St) := match v with
  | .nils => some (.tup [], s)
  | .slice i off n _ _ => cnd (Nat.beq n 0) (some (.tup [], s)) (ob2 (storeE s i off (rep z n)) fun s' => some (.tup [], s'))
  | _ => none
def isInt (x : Option TI) : Bool := match x with
  | some y => match y.d with
    | .int _ => true
    | _ => false
  | none => false
/-- so many noughts behind none -/
def growE (s : St) (y : TI) (z : List EV) (v : EV) (m : Nat) : Option (EV × St) := cnd (band v.isNils (band (roomE y m) (Nat.beq (len z) y.size))) (cnd (Nat.beq m 0) (some (v, s)) (some (newSl s (rep z m) m (Nat.mul m y.size) y.size false))) none
/-- what may be laid behind: a slice's elements, a string's bytes -/
def srcC (u : TypeId) : Bool := match ti u with
  | some y => match y.d with
    | .sl _ | .str => true
    | _ => false
  | none => false
def srcV (z : Nat) (v : EV) : Bool := (@EV.rec (fun _ => Bool) (fun _ => Unit) (fun _ _ => false) (fun _ => false) (fun _ => Nat.beq z 1) (false) (fun _ _ => false) (true) (fun _ _ _ _ _ => true) (false) (fun _ => false) (fun _ _ _ _ _ => false) (false) (fun _ _ _ => false) (false) (fun _ _ => false) (fun _ _ => false) (false) (fun _ => false) (fun _ _ => false) (fun _ => false) () (fun _ _ _ _ => ()) v)
def builtC (b : Builtin) (ts : List TypeId) (qs : List Oq) : Bo := match b, ts, qs with
  | .len, [t], [x] => ost 100 (ti t) fun y => match y.d with
    | .sl _ => pv (q1 x lenSl) 100
    | .str => pv (q1 x lenSt) 100
    | .mp _ _ => sv (fun fr s => ob2 (x.get fr) (lenM s)) 100
    | _ => .bad 100
  | .cap, [t], [x] => ost 101 (ti t) fun y => match y.d with
    | .sl _ => pv (q1 x capV) 101
    | _ => .bad 101
  | .append, [t, u], [v, x] => cnd (isInt (ti u)) (ost 3 (ob2 (slT t) zroE) fun z => ost 102 (slC t) fun y => cv (fun fr s => ob2 (v.get fr) fun a => ob2 (x.get fr) fun b => ob2 b.nat? fun m => growE s y z a m) 116)
      (ost 3 (ob2 (slT t) zroE) fun z => ost 102 (slC t) fun y => cnd (band (srcC u) (Nat.beq (len z) y.size)) (cv (fun fr s => ob2 (v.get fr) fun a => ob2 (x.get fr) fun b => ob2 (lenE b) fun m => ob2 (cellsOf s y.size b) fun news => cnd (srcV y.size b) (appE s y a news m) none) 103) (.bad 103))
  | .copy, [t, _], [v, x] => ost 104 (slC t) fun y => cv (fun fr s => ob2 (v.get fr) fun a => ob2 (x.get fr) fun b => copyE s y a b) 105
  | .min, [_, _], [a, b] => pv (q2 a b (minE true)) 106
  | .max, [_, _], [a, b] => pv (q2 a b (minE false)) 107
  | .complex, [_, _], [a, b] => pv (q2 a b fun x y => ob2 x.flt? fun u => ob2 y.flt? fun v => some (.cpx u v)) 113
  | .real, [_], [a] => pv (q1 a fun x => ob2 x.cpx? fun p => some (.flt p.1)) 114
  | .imag, [_], [a] => pv (q1 a fun x => ob2 x.cpx? fun p => some (.flt p.2)) 115
  | .clear, [t], [m] => ost 3 (ob2 (slT t) zroE) fun z => ost 109 (slC t) fun y => cnd (Nat.beq (len z) y.size) (cv (fun fr s => ob2 (m.get fr) fun a => clrE z a s) 109) (.bad 109)
  | .delete, [t, _], [m, k] => ost 108 (keyN t) fun kn => cv (fun fr s => ob2 (m.get fr) fun a => ob2 (k.get fr) fun b => delE kn a b s) 108
  | _, _, _ => .bad 112
/-! calls -/
/-- a function: its temporaries, its results, its code -/
inductive Fe where
  | mk (n : Nat) (results : List ResultVar) (code : Code)
/-- what has no code: given by what it answers -/
abbrev Xt := Nat → Option (List EV → St → Option (EV × St))
/-- what is known of the program -/
structure Pg where
  gi : Nat → Option Nat
  ft : Nat → Option Fe
  xt : Xt
inductive Rv where
  | tmp (t : Nat) | cell (a : Nat) (g : Bool) (n : Nat) | bad
def rvC (n : Nat) : ResultVar → Rv
  | .tmp t => cnd (blt t n) (.tmp t) .bad
  | .cell a t => match ti t with
    | some x => cnd (blt a n) (.cell a (isAg x) x.size) .bad
    | none => .bad
def rvE (fr : Fr) (s : St) (r : Rv) : Option EV := @Rv.rec (fun _ => Option EV) (fun t => fr.get t) (fun a g n => ob2 (fr.get a) fun v => ob2 v.ptr? (p2 (loadE g n s))) none r
def rvsE (fr : Fr) (s : St) (l : List Rv) : Option (List EV) := @List.rec Rv (fun _ => Option (List EV)) (some []) (fun r _ t => ob2 (rvE fr s r) fun v => ob2 t fun l => some (v :: l)) l
def oneE (l : List EV) : EV := @List.rec EV (fun _ => EV) (.tup []) (fun v r _ => @List.rec EV (fun _ => EV) v (fun x t _ => .tup (v :: x :: t)) r) l
def argsF (l : List EV) : Nat → Fr → Fr := @List.rec EV (fun _ => Nat → Fr → Fr) (fun _ fr => fr) (fun v _ ih i fr => ih (Nat.succ i) (fr.set v i)) l
def log2S (n : Nat) : Nat := Nat.succ (Nat.log2 n)
/-- a function that is entered -/
inductive Bf where
  | ext (f : List EV → St → Option (EV × St)) | fun_ (n : Nat) (fr : Fr) (rs : List Rv) (c : Code) | bad
def bfC (pg : Pg) (f : Nat) : Bf := match pg.xt f with
  | some x => .ext x
  | none => match pg.ft f with
    | some (.mk n rs c) => .fun_ n (Tr.emp (log2S n)) (rs.map (rvC n)) c
    | none => .bad
def EO.dfr? (o : EO) : Bool := @EO.rec (fun _ => Bool) (fun _ _ _ => false) (fun _ _ => false) (fun _ _ => false) (fun _ _ => false) (fun _ _ _ _ => false) false true (fun _ _ _ _ _ _ _ => false) o
structure Lp where
  st : Nat
  pend : Option Ex
  n : Nat
  ps : List Nat
  asg : Code
  body : Code
  fr : Fr
def EO.lop? (o : EO) : Option Lp := @EO.rec (fun _ => Option Lp) (fun _ _ _ => none) (fun _ _ => none) (fun _ _ => none) (fun _ _ => none) (fun _ _ _ _ => none) none none (fun a b c d e f g => some ⟨a, b, c, d, e, f, g⟩) o
/-- the mark is come to -/
def takeE (n : Nat) (fr : Fr) (s : St) : Option St := @Option.rec EV (fun _ => Option St) (some s) (fun v => ob2 v.ptr? (p2 fun d _ => ob2 (s.obj d) fun o => cnd o.dfr? (some (s.put d .dead)) none)) (fr.get n)
def leftE (n : Nat) (rs : List Rv) (fr : Fr) (s : St) : R := bo 129 (takeE n fr s) fun s => bo 120 (rvsE fr s rs) fun l => .ok (oneE l, s)
def Ex.is (e : Ex) : Bool := @Ex.rec (fun _ => Bool) true (fun _ => false) (fun _ => false) true e
def exE (n f : Nat) (rs : List Rv) (p : Ex × Fr × St) : R := p2 (fun e => p2 fun fr s => cnd e.is (leftE n rs fr s) (.no 121 [f])) p
def erE (n f : Nat) (rs : List Rv) (x : Cr) : R := @Rs.rec (Ex × Fr × St) (fun _ => R) (exE n f rs) (fun w l => .no w (f :: l)) x
def callE (pg : Pg) (run : Run) (f : FuncId) (args : List EV) (s : St) : R :=
  @Bf.rec (fun _ => R) (fun x => bo 122 (x args s) .ok) (fun n fr rs c => cnd (Nat.ble (len args) n) (erE n f rs (run n none c (argsF args 0 fr) s)) (.no 123 [f])) (.no 124 [f]) (bfC pg f)
def putPs (ps : List Nat) : List EV → Fr → Option Fr := @List.rec Nat (fun _ => List EV → Fr → Option Fr) (fun l fr => @List.rec EV (fun _ => Option Fr) (some fr) (fun _ _ _ => none) l) (fun p _ ih l fr => @List.rec EV (fun _ => Option Fr) none (fun v r _ => ih r (fr.set v p)) l) ps
/-- a round's end -/
def endR (l : Nat) (e : Ex) (s : St) : R := bo 160 (s.obj l) fun o => bo 161 o.lop? fun p => cnd (@Ex.rec (fun _ => Bool) true (fun _ => false) (fun _ => false) false e)
  (.ok (.bool true, s.put l (.lop 0 none p.n p.ps p.asg p.body p.fr))) (.ok (.bool false, s.put l (.lop 2 (some e) p.n p.ps p.asg p.body p.fr)))
def bodyR (l : Nat) (run : Run) (p0 : Lp) (p : Ex × Fr × St) : R := p2 (fun e q => @Ex.rec (fun _ => R) (p2 (fun fr s => bo 160 (s.obj l) fun o => bo 161 o.lop? fun p => cnd (Nat.beq p.st 0)
  (bd (run p0.n none p0.body fr (s.put l (.lop 1 p.pend p.n p.ps p.asg p.body p.fr))) (p2 fun e => p2 fun _ s => endR l e s)) (.no 162 [])) q) (fun _ => .no 163 []) (fun _ => .no 163 []) (.no 163 []) e) p
/-- a call of yield -/
def yieldE (run : Run) (args : List EV) (s : St) (l : Nat) : R := bo 160 (s.obj l) fun o => bo 161 o.lop? fun p => bo 164 (putPs p.ps args p.fr) fun fr => bd (run p.n none p.asg fr s) (bodyR l run p)
def callV (pg : Pg) (run : Run) (args : List EV) (s : St) (v : EV) : R := @Option.rec Nat (fun _ => R) (bo 125 v.fn? (p2 fun g => p2 fun first cap => callE pg run g (app first (app args cap)) s)) (yieldE run args s) v.yld?
def callC (pg : Pg) (c : Call) : Bo := match c.callee with
  | .builtin b => builtC b c.argTypes.toList (c.args.toList.map (oqC pg.gi))
  | .value (.func g) => .mk fun run fr s => bo 126 (getL (c.args.toList.map (oqC pg.gi)) fr) fun args => callE pg run g args s
  | .value f => .mk fun run fr s => bo 126 (getL (c.args.toList.map (oqC pg.gi)) fr) fun args => bo 127 ((oqC pg.gi f).get fr) (callV pg run args s)
  | .invoke _ _ => .bad 128
def anyC (pg : Pg) (o : Op) : Bo := match o with
  | .call c => callC pg c
  | o => opC pg.gi o
/-! regions -/
inductive Bl where
  | mk (f : Run → Fr → St → Rs (Fr × St)) | bad (w : Nat)
def Bl.go (b : Bl) (run : Run) (fr : Fr) (s : St) : Rs (Fr × St) := @Bl.rec (fun _ => Rs (Fr × St)) (fun f => f run fr s) (fun w => .no w []) b
def putF (fr : Fr) (d : Option Tmp) (v : EV) : Fr := @Option.rec Tmp (fun _ => Fr) fr (fun d => fr.set v d) d
/-- is it wanted? -/
def beqB (a b : Bool) : Bool := @Bool.rec (fun _ => Bool) (bnot b) b a
def wantE (want : Bool) (v : EV) : Option Bool := @EV.rec (fun _ => Option Bool) (fun _ => Unit) (fun _ _ => none) (fun b => some (beqB b want)) (fun _ => none) none (fun _ _ => none) none (fun _ _ _ _ _ => none) none (fun _ => none) (fun _ _ _ _ _ => none) none (fun _ _ _ => none) none (fun _ _ => none) (fun _ _ => none) (some false) (fun _ => none) (fun _ _ => none) (fun _ => none) () (fun _ _ _ _ => ()) v
/-- an operation with its guard: what it yields -/
def grdC (ops : Array Oper) (b : Bo) : Option (Nat × Bool) → Bo
  | none => b
  | some (j, want) => match (ops[j]?).bind (·.dst) with
    | none => .bad 130
    | some d => .mk fun run fr s => bo 131 (fr.get d) fun v => bo 132 (wantE want v) fun t => cnd t (b.go run fr s) (.ok (.undef, s))
def thenC (b : Bo) (d : Option Tmp) (r : Bl) : Bl := .mk fun run fr s => bd (b.go run fr s) (p2 fun v s' => r.go run (putF fr d v) s')
def endC : Bl := .mk fun _ fr s => .ok (fr, s)
def fitsC (n : Nat) : Option Tmp → Bool
  | none => true
  | some d => blt d n
def qFit (n : Nat) : Operand → Bool
  | .tmp t => blt t n
  | _ => true
def gFit (n : Nat) (ops : Array Oper) : Option (Nat × Bool) → Bool
  | none => true
  | some (j, _) => match (ops[j]?).bind (·.dst) with
    | some d => blt d n
    | none => true
/-- all that it speaks of are the function's temporaries -/
def opFit (n : Nat) (ops : Array Oper) (o : Oper) : Bool := band (fitsC n o.dst) (band (o.op.operands.toList.all (qFit n)) (gFit n ops o.guard))
/-- no two of them yield the same -/
def dstNe (d : Nat) : Option Tmp → Bool
  | none => true
  | some x => bnot (Nat.beq d x)
def dstsNe (r : List Oper) : Option Tmp → Bool
  | none => true
  | some d => r.all fun x => dstNe d x.dst
def dstOk : List Oper → Bool
  | [] => true
  | o :: r => band (dstsNe r o.dst) (dstOk r)
/-- one behind the other -/
def listC (pg : Pg) (n : Nat) (ops : Array Oper) : List Oper → Bl
  | [] => endC
  | o :: r => cnd (fitsC n o.dst) (thenC (grdC ops (anyC pg o.op) o.guard) o.dst (listC pg n ops r)) (.bad 133)
/-! regions that draw their order: readings that may come later are asked again behind what runs meanwhile -/
mutual
def eqV : EV → EV → Bool
  | .int j a, .int k b => cnd (kEq j k) (ieq a b) false
  | .bool a, .bool b => a == b
  | .str a, .str b => eqS a b
  | .nilp, .nilp => true
  | .ptr i o, .ptr j p => Nat.beq i j && Nat.beq o p
  | .nils, .nils => true
  | .slice i o n c x, .slice j p m d y => Nat.beq i j && (Nat.beq o p && (Nat.beq n m && (Nat.beq c d && (x == y))))
  | .nilm, .nilm => true
  | .map i, .map j => Nat.beq i j
  | .fn f a b, .fn g c d => Nat.beq f g && (eqVs a c && eqVs b d)
  | .nilf, .nilf => true
  | .iface t v, .iface u w => Nat.beq t u && eqV v w
  | .nili, .nili => true
  | .agg a, .agg b => eqVs a b
  | .tup a, .tup b => eqVs a b
  | .undef, .undef => true
  | .flt a, .flt b => Nat.beq a b
  | .cpx a b, .cpx c d => Nat.beq a c && Nat.beq b d
  | .yld i, .yld j => Nat.beq i j
  | _, _ => false
def eqVs : List EV → List EV → Bool
  | [], [] => true
  | a :: l, b :: r => eqV a b && eqVs l r
  | _, _ => false
end
/-- 0: acts; 1: reckons; 2: reads; 3: makes something new out of its operands alone -/
def kindE (o : Op) : Nat := match o with
  | .move _ | .assign _ | .pick .. | .build .. | .nilCheck _ | .binOp .. | .unOp .. | .makeInterface .. | .makeFunc .. | .fieldAddr .. | .field .. | .indexAddr .. | .index ..
  | .extract .. => 1
  | .load .. | .lookup .. => 2
  | .slice .. | .alloc .. | .box .. | .buildSlice .. | .makeMap .. | .makeSlice .. => 3
  | .convert a b _ => match ckC a b with
    | some .bs => 2
    | some .sb => 3
    | some .mk => 0
    | some _ => 1
    | none => 0
  | .call c => match c.callee with
    | .builtin .len => 2
    | .builtin .cap | .builtin .min | .builtin .max | .builtin .complex | .builtin .real | .builtin .imag => 1
    | _ => 0
  | _ => 0
/-- a step: what is still; what acts -/
inductive Stp where
  | still (i : Nat) (o : Oper) (k : Nat) | act (i : Nat) (o : Oper) (cl : Nat)
/-- an operation as sets of numbers: what it waits for, what it looks at, what it yields -/
inductive Rc where
  | mk (i aft lk ds st : Nat) (o : Oper)
def bit (n : Nat) : Nat := Nat.shiftLeft 1 n
def bits (l : List Nat) : Nat := @List.rec Nat (fun _ => Nat) 0 (fun d _ m => Nat.lor (bit d) m) l
def aftL (l : List Edge) : List Nat := @List.rec Edge (fun _ => List Nat) [] (fun e _ r => cnd (Region.binds .any e) (e.on :: r) r) l
def dsL (d : Option Tmp) : Nat := @Option.rec Tmp (fun _ => Nat) 0 (fun d => bit d) d
def rcC (ops : Array Oper) (i : Nat) (o : Oper) : Rc := .mk i (bits (aftL o.after.toList)) (bits (o.looksAt ops)) (dsL o.dst) (kindE o.op) o
def rcsC (ops : Array Oper) : List Oper → Nat → List Rc
  | [], _ => []
  | o :: r, i => rcC ops i o :: rcsC ops r (Nat.succ i)
/-- disjoint? -/
def dj (a b : Nat) : Bool := Nat.beq (Nat.land a b) 0
def hasB (m i : Nat) : Bool := bnot (dj m (bit i))
def rdyC (m : Nat) (x : Rc) : Bool := @Rc.rec (fun _ => Bool) (fun _ aft _ _ _ _ => Nat.beq (Nat.land aft m) aft) x
/-- apart from all others that are left -/
def freeC (i lk ds : Nat) (l : List Rc) : Bool := @List.rec Rc (fun _ => Bool) true (fun x _ t =>
  @Rc.rec (fun _ => Bool) (fun j aft lk' ds' _ _ => cnd (cnd (Nat.beq j i) true (cnd (hasB aft i) true (band (dj ds (Nat.lor lk' ds')) (dj ds' lk)))) t false) x) l
/-- the first that is still, ready and free -/
def firstC (m : Nat) (all : List Rc) (l : List Rc) : Option Rc := @List.rec Rc (fun _ => Option Rc) none (fun x _ t =>
  @Rc.rec (fun _ => Option Rc) (fun i aft lk ds st _ => cnd (Nat.beq st 0) t (cnd (band (Nat.beq (Nat.land aft m) aft) (freeC i lk ds all)) (some x) t)) x) l
/-- the only one that is ready, free too -/
def onlyC (m : Nat) (all : List Rc) : Option Rc := match all.filter (rdyC m) with
  | [.mk i aft lk ds st o] => cnd (freeC i lk ds all) (some (.mk i aft lk ds st o)) none
  | _ => none
def rmC (i : Nat) (l : List Rc) : List Rc := @List.rec Rc (fun _ => List Rc) [] (fun x r t => @Rc.rec (fun _ => List Rc) (fun j _ _ _ _ _ => cnd (Nat.beq j i) t (x :: t)) x) l
def stpC (i : Nat) (o : Oper) (st cl : Nat) : Stp := cnd (Nat.beq st 0) (.act i o cl) (.still i o st)
/-- what an operation waits for, at whatever remove: 'cs': that of those ahead of it -/
def closC (aft : Nat) (cs : List (Nat × Nat)) : Nat := @List.rec (Nat × Nat) (fun _ => Nat) aft (fun p _ m => p2 (fun j c => cnd (hasB aft j) (Nat.lor c m) m) p) cs
def orderC : Nat → Nat → List (Nat × Nat) → List Rc → Option (List Stp)
  | 0, _, _, l => match l with
    | [] => some []
    | _ :: _ => none
  | f + 1, m, cs, l => match (match firstC m l l with | some x => some x | none => onlyC m l) with
    | none => none
    | some (.mk i aft _ _ st o) => (orderC f (Nat.lor m (bit i)) ((i, closC aft cs) :: cs) (rmC i l)).map (stpC i o st (closC aft cs) :: ·)
/-- a reading whose answer must not turn -/
abbrev Pn := St → Bool
def askE (b : Bo) (run : Run) (fr : Fr) (v : EV) (s : St) : Bool := @Rs.rec (EV × St) (fun _ => Bool) (fun p => eqV v p.1) (fun _ _ => false) (b.go run fr s)
def asksE (w : Nat) (l : List (Nat × Pn)) (s : St) : Bool := @List.rec (Nat × Pn) (fun _ => Bool) true (fun p _ t => cnd (hasB w p.1) t (cnd (p.2 s) t false)) l
inductive Bd where
  | mk (f : Run → List (Nat × Pn) → Fr → St → Rs (Fr × St)) | bad (w : Nat)
def Bd.go (b : Bd) (run : Run) (l : List (Nat × Pn)) (fr : Fr) (s : St) : Rs (Fr × St) := @Bd.rec (fun _ => Rs (Fr × St)) (fun f => f run l fr s) (fun w => .no w []) b
def dPure (b : Bo) (d : Option Tmp) (r : Bd) : Bd := .mk fun run l fr s => bd (b.go run fr s) (p2 fun v _ => r.go run l (putF fr d v) s)
def dRead (i : Nat) (b : Bo) (d : Option Tmp) (r : Bd) : Bd := .mk fun run l fr s => bd (b.go run fr s) (p2 fun v _ => r.go run ((i, askE b run fr v) :: l) (putF fr d v) s)
def dFresh (b : Bo) (d : Option Tmp) (r : Bd) : Bd := .mk fun run l fr s => bd (b.go run fr s) (p2 fun v s' => cnd (Nat.beq s'.num s.num) (r.go run l (putF fr d v) s) (bo 146 (s'.obj s.num) fun o => cnd (asksE 0 l (s.new o)) (r.go run l (putF fr d v) (s.new o)) (.no 147 [])))
def dStill (i : Nat) (b : Bo) (k : Nat) (d : Option Tmp) (r : Bd) : Bd := cnd (Nat.beq k 1) (dPure b d r) (cnd (Nat.beq k 2) (dRead i b d r) (dFresh b d r))
def dAct (cl : Nat) (b : Bo) (d : Option Tmp) (r : Bd) : Bd := .mk fun run l fr s => bd (b.go run fr s) (p2 fun v s' => cnd (asksE cl l s') (r.go run l (putF fr d v) s') (.no 140 []))
def drawC (pg : Pg) (n : Nat) (ops : Array Oper) : List Stp → Bd
  | [] => .mk fun _ _ fr s => .ok (fr, s)
  | .still i o k :: r => cnd (fitsC n o.dst) (dStill i (grdC ops (anyC pg o.op) o.guard) k o.dst (drawC pg n ops r)) (.bad 141)
  | .act i o cl :: r => cnd (fitsC n o.dst) (dAct cl (grdC ops (anyC pg o.op) o.guard) o.dst (drawC pg n ops r)) (.bad 142)
def selB (o : Oper) : Bool := match o.op with
  | .select _ _ => true
  | o => Sh.isSelect o
/-- none of them chooses among channels -/
def noSelL (l : List Oper) : Bool := @List.rec Oper (fun _ => Bool) true (fun o _ t => cnd (selB o) false t) l
def regC (pg : Pg) (n : Nat) (ops : Array Oper) : Bool → Bl
  | false => cnd (band (noSelL ops.toList) (ops.toList.all (opFit n ops))) (listC pg n ops ops.toList) (.bad 143)
  | true => cnd (band (noSelL ops.toList) (band (ops.toList.all (opFit n ops)) (dstOk ops.toList))) (match orderC ops.size 0 [] (rcsC ops ops.toList 0) with
    | none => .bad 144
    | some l => cnd (Nat.ble (len l) ops.size) (.mk fun run fr s => (drawC pg n ops l).go run [] fr s) (.bad 149)) (.bad 145)
/-! code -/
inductive Bc where
  | mk (f : Run → Fr → St → Cr)
def Bc.go (b : Bc) (run : Run) (fr : Fr) (s : St) : Cr := @Bc.rec (fun _ => Cr) (fun f => f run fr s) b
def seqE (b : Bc) (run : Run) (p : Ex × Fr × St) : Cr := p2 (fun e q => @Ex.rec (fun _ => Cr) (p2 (b.go run) q) (fun i => .ok (.exit i, q)) (fun l => .ok (.goto l, q)) (.ok (.ret, q)) e) p
def blkE (id : Nat) (p : Ex × Fr × St) : Cr := p2 (fun e q => @Ex.rec (fun _ => Cr) (.ok (.nor, q)) (fun i => cnd (Nat.beq i id) (.ok (.nor, q)) (.ok (.exit i, q))) (fun l => .ok (.goto l, q)) (.ok (.ret, q)) e) p
def gotoE (n : Nat) (body : Code) (run : Run) (l : Nat) (q : Fr × St) : Cr := @Option.rec Code (fun _ => Cr) (.ok (.goto l, q)) (fun rest => p2 (run n (some body) rest) q) (findLabel body l)
def scpE (n : Nat) (body : Code) (run : Run) (p : Ex × Fr × St) : Cr := p2 (fun e q => @Ex.rec (fun _ => Cr) (.ok (.nor, q)) (fun i => .ok (.exit i, q)) (fun l => gotoE n body run l q) (.ok (.ret, q)) e) p
def lpE (n : Nat) (c : Code) (run : Run) (p : Ex × Fr × St) : Cr := p2 (fun e q => @Ex.rec (fun _ => Cr) (p2 (run n none (.loop c)) q) (fun i => .ok (.exit i, q)) (fun l => .ok (.goto l, q)) (.ok (.ret, q)) e) p
/-- behind a range over a function -/
def endL (n d l : Nat) (fr : Fr) (s : St) : Cr := bo 160 (s.obj l) fun o => bo 161 o.lop? fun p => cnd (Nat.beq p.st 1) (.no 158 [])
  (cnd ((fr.set (.ptr d 0) n).get n).isSome (.ok (@Option.rec Ex (fun _ => Ex) .nor (fun e => e) p.pend, fr.set (.ptr d 0) n, s.put l (.lop 3 p.pend p.n p.ps p.asg p.body p.fr))) (.no 158 []))
def codeC (pg : Pg) (n : Nat) : Code → Bc
  | .skip | .label _ => .mk fun _ fr s => .ok (.nor, fr, s)
  | .exit i => .mk fun _ fr s => .ok (.exit i, fr, s)
  | .goto l => .mk fun _ fr s => .ok (.goto l, fr, s)
  | .ret => .mk fun _ fr s => .ok (.ret, fr, s)
  | .region _ ops d => .mk fun run fr s => bd ((regC pg n ops d).go run fr s) (p2 fun fr' s' => .ok (.nor, fr', s'))
  | .seq a b => .mk fun run fr s => bd ((codeC pg n a).go run fr s) (seqE (codeC pg n b) run)
  | .cond c a b => cnd (bnot (qFit n c)) (.mk fun _ _ _ => .no 150 []) <| .mk fun run fr s => bo 150 ((oqC pg.gi c).get fr) fun v => bo 151 v.bool? fun t => cnd t ((codeC pg n a).go run fr s) ((codeC pg n b).go run fr s)
  | .block id c => .mk fun run fr s => bd ((codeC pg n c).go run fr s) (blkE id)
  | .scope c => .mk fun run fr s => bd ((codeC pg n c).go run fr s) (scpE n c run)
  | .loop c => .mk fun run fr s => bd ((codeC pg n c).go run fr s) (lpE n c run)
  | .rangeFunc g ps asg body => cnd (bnot (band (qFit n g) (ps.toList.all fun p => blt p n))) (.mk fun _ _ _ => .no 157 []) <| .mk fun run fr s => cnd (fr.get n).isNone (bo 155 ((oqC pg.gi g).get fr) fun gv => bo 156 gv.fn? (p2 fun f => p2 fun first cap =>
      cnd (band (pg.xt f).isNone ((fr.set .undef n).get n).isSome) (bd (callE pg run f (app first (.yld (Nat.succ s.num) :: cap)) ((s.new .dfr).new (.lop 0 none n ps.toList asg body (fr.set .undef n)))) (p2 fun _ s' => endL n s.num (Nat.succ s.num) fr s')) (.no 159 []))) (.no 157 [])
  | .refuse _ => .mk fun _ _ _ => .no 153 []
def inScp (n : Nat) (sc : Option Code) (run : Run) (x : Cr) : Cr := @Option.rec Code (fun _ => Cr) x (fun b => bd x (scpE n b run)) sc
def runE (pg : Pg) (fuel : Nat) : Run := @Nat.rec (fun _ => Run) (fun _ _ _ _ _ => .no 154 []) (fun _ ih n sc c fr s => inScp n sc ih ((codeC pg n c).go ih fr s)) fuel
def main (pg : Pg) (fuel : Nat) (f : FuncId) (s : St) : R := callE pg (runE pg fuel) f [] s
end Go.Proofs.YtiabhghlhnnnjaaGreatDoor.Ev
