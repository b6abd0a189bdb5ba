/-
  THE FIRST LAYER: a function's code as a plain term over worlds ('comp'), and that whoever proves the term has proved the call ('calls_of_comp').
-/
import Derived.Tactics
import Derived.ScopeJumps
import Derived.OrdersHeld
import Derived.OrdersIn
import Derived.TacticsIn
import Derived.RangeFuncIn
import Derived.RangeFuncLeaves
import Derived.RangeFuncRecord
import Derived.KernelRfl
namespace Go.Proofs.YtiabhghlhnnnjaaGreatDoor.Sh
open Go

/-- how a slot is seen: as any value, a whole number of a kind, a bool, a string -/
inductive Kd where
  | raw | int (k : IntKind) | bool | str
@[reducible] def Kd.T : Kd → Type
  | .raw => Value
  | .int _ => Int
  | .bool => Bool
  | .str => ByteArray
def Kd.mk : (k : Kd) → k.T → Value
  | .raw, v => v
  | .int k, n => .int k n
  | .bool, b => .bool b
  | .str, s => .string s
/-- how a result is seen -/
inductive RK where
  | one (k : Kd) | tup (ks : List Kd)

abbrev WP := World → Prop
def AL : List Kd → Type
  | [] => WP
  | k :: ks => k.T → AL ks
def AS : List (Nat × Kd) → Type
  | [] => WP
  | p :: ts => p.2.T → AS ts

/-- frames of a function (none), frames of a round (some) -/
def Fw (ro : Option Nat) : Fence := { Fence.wide with round := ro }
theorem Fw.dp {ro : Option Nat} {p : Prop} (h : (Fw ro).depth.isSome = true) : p := by simp [Fw, Fence.wide] at h
theorem callsFw {ro : Option Nat} {n : Nat} {P : Program} {f : FuncId} {args : Array Value} {w : World} {R : Ending → World → Prop} (h : Calls P f args w R) : CallsIn (Fw ro) n P f args w R :=
  callsIn_wide.2 h
theorem roundFw {ro : Option Nat} {n : Nat} {P : Program} {l : Nat} {f : FuncId} {tmps : Array Value} {as body : Code} {w : World} {R : Ending → World → Prop} (h : RoundIn Fence.wide n P l f tmps as body w R) : RoundIn (Fw ro) n P l f tmps as body w R := h
/-! the words of a plain term -/
def condK (b : Bool) (x y : WP) : WP := match b with | true => x | false => y
def ArK (k : IntKind) (e : Int) (c : Int → WP) : WP := c (k.wrap e)
def nonNil : Value → Bool
  | .pointer (some _) => true
  | .func (.func _) _ _ => true
  | _ => false
def NilK (v : Value) (c : WP) : WP := fun w => nonNil v = true ∧ c w
/-- an operation that leaves a value -/
def NextK (P : Program) (s : Sem Next) (c : Value → WP) : WP := fun w =>
  match s.run P w with
  | .ok (.value v) w' => c v w'
  | .ok .skip w' => c undef w'
  | .ok (.enter f args) w' => Calls P f args w' fun e w'' => ∃ v, e = .returned v ∧ c v w''
  | .ok (.round l f tmps as body) w' => RoundIn Fence.wide 0 P l f tmps as body w' fun e w'' => ∃ v, e = .returned v ∧ c v w''
  | _ => False
def CallK (P : Program) (f : FuncId) (args : Array Value) (c : Value → WP) : WP := fun w =>
  Calls P f args w fun e w'' => ∃ v, e = .returned v ∧ c v w''
/-- a value seen by its kind -/
def ty1 (k : Kd) (c : k.T → WP) (v : Value) : WP := fun w => ∃ x, v = k.mk x ∧ c x w
def tyT : (ks : List Kd) → (acc : List Value) → AL ks → Value → WP
  | [], acc, c, v => fun w => v = .tuple acc.reverse.toArray ∧ (c : WP) w
  | k :: ks, acc, c, v => fun w => ∃ x : k.T, tyT ks (k.mk x :: acc) (c x) v w
def RK.A : RK → Type
  | .one k => k.T → WP
  | .tup ks => AL ks
def tyR : (r : RK) → r.A → Value → WP
  | .one k, c, v => ty1 k c v
  | .tup ks, c, v => tyT ks [] c v
def curT : (ks : List Kd) → (acc : List Value) → (Value → WP) → AL ks
  | [], acc, f => f (.tuple acc.reverse.toArray)
  | k :: ks, acc, f => fun x => curT ks (k.mk x :: acc) f
def curR : (r : RK) → (Value → WP) → r.A
  | .one k, f => fun x => f (k.mk x)
  | .tup ks, f => curT ks [] f
/-- a range's next: it is over, or there is one more -/
def NxK (P : Program) (s : Sem Next) (k1 k2 : Kd) (c0 : WP) (c1 : k1.T → k2.T → WP) : WP :=
  NextK P s fun v w => (v = .tuple #[.bool false] ∧ c0 w) ∨ ∃ x y, v = .tuple #[.bool true, k1.mk x, k2.mk y] ∧ c1 x y w
/-- where a range over a map stands -/
def EnK (P : Program) (s : Sem Next) (k1 k2 : Kd) (c : k1.T → k2.T → WP) : WP :=
  NextK P s fun v w => ∃ x y, v = .tuple #[k1.mk x, k2.mk y] ∧ c x y w
def OpK (P : Program) (r : RK) (s : Sem Next) (c : r.A) : WP := NextK P s (tyR r c)
def FnK (P : Program) (r : RK) (f : FuncId) (args : Array Value) (c : r.A) : WP := CallK P f args (tyR r c)

theorem tyT_cur : ∀ (ks : List Kd) (acc : List Value) (f : Value → WP) (v : Value) (w : World), tyT ks acc (curT ks acc f) v w → f v w
  | [], _, _, _, _, h => by obtain ⟨rfl, h⟩ := h; exact h
  | _ :: ks, _, f, v, w, h => by obtain ⟨x, h⟩ := h; exact tyT_cur ks _ f v w h
theorem tyR_cur (r : RK) (f : Value → WP) (v : Value) (w : World) (h : tyR r (curR r f) v w) : f v w := by
  cases r with
  | one k => obtain ⟨x, rfl, h⟩ := h; exact h
  | tup ks => exact tyT_cur ks [] f v w h
theorem NextK.mono {P : Program} {s : Sem Next} {c c' : Value → WP} {w : World} (hc : ∀ v w, c v w → c' v w) (h : NextK P s c w) : NextK P s c' w := by
  unfold NextK at *
  split <;> simp_all
  · exact Calls.mono h fun e w' ⟨v, hv, hcw⟩ => ⟨v, hv, hc _ _ hcw⟩
  · exact RoundIn.mono h fun e w' ⟨v, hv, hcw⟩ => ⟨v, hv, hc _ _ hcw⟩
theorem CallK.mono {P : Program} {f : FuncId} {args : Array Value} {c c' : Value → WP} {w : World} (hc : ∀ v w, c v w → c' v w) (h : CallK P f args c w) : CallK P f args c' w :=
  Calls.mono h fun _ _ ⟨v, hv, hcw⟩ => ⟨v, hv, hc _ _ hcw⟩

/-! what is known of a frame -/
abbrev Fr := List (Nat × Value)
def look : Fr → Nat → Option Value
  | [], _ => none
  | (i, v) :: r, n => match Nat.beq i n with | true => some v | false => look r n
def evalF (fr : Fr) : Operand → Value
  | .tmp t => (look fr t).getD undef
  | .const v => v
  | .global g => .pointer (some ⟨g, 0, none⟩)
  | .func f => .func (.func f) #[] #[]
def known (n : Nat) (fr : Fr) : Operand → Bool
  | .tmp t => (look fr t).isSome && Nat.blt t n
  | _ => true
def putF (fr : Fr) : Option Tmp → Value → Fr
  | none, _ => fr
  | some d, v => (d, v) :: fr
def fits (n : Nat) : Option Tmp → Bool
  | none => true
  | some d => Nat.blt d n
/-- the marks of a frame: slot number n (behind all temporaries) names the block of a range over a function -/
def dfs (n : Nat) (fr : Fr) : List Deferred := match look fr n with
  | some (.pointer (some ⟨r, _, _⟩)) => [{ target := .collected r, args := #[] }]
  | _ => []
structure Agrees (n : Nat) (fr : Fr) (a : Act) : Prop where
  size : a.tmps.size = n
  defers : a.defers = dfs n fr
  at_ : ∀ i v, i < n → look fr i = some v → a.tmps[i]? = some v
theorem dfs_congr {n : Nat} {fr fr' : Fr} (h : look fr n = look fr' n) : dfs n fr = dfs n fr' := by simp [dfs, h]
def SameFr (ms : List Nat) (fr fr' : Fr) : Prop := ∀ i, i ∉ ms → look fr' i = look fr i
theorem SameFr.refl (ms : List Nat) (fr : Fr) : SameFr ms fr fr := fun _ _ => rfl
theorem SameFr.trans {ms : List Nat} {a b c : Fr} (h : SameFr ms a b) (k : SameFr ms b c) : SameFr ms a c := fun i hi => (k i hi).trans (h i hi)
theorem SameFr.mono {ms ms' : List Nat} {a b : Fr} (h : SameFr ms a b) (hm : ∀ i, i ∈ ms → i ∈ ms') : SameFr ms' a b := fun i hi => h i fun hh => hi (hm i hh)
theorem look_cons (i : Nat) (v : Value) (r : Fr) (n : Nat) : look ((i, v) :: r) n = if i = n then some v else look r n := by
  simp only [look]
  cases hb : Nat.beq i n with
  | true => simp [Nat.eq_of_beq_eq_true hb]
  | false => simp [Nat.ne_of_beq_eq_false hb]
theorem SameFr.put {ms : List Nat} {fr : Fr} {d : Option Tmp} {v : Value} (h : ∀ x, d = some x → x ∈ ms) : SameFr ms fr (putF fr d v) := by
  intro i hi
  cases d with
  | none => rfl
  | some d =>
    simp only [putF, look_cons]
    rw [if_neg (fun (e : d = i) => hi (e ▸ h d rfl))]
theorem Agrees.eval {n : Nat} {fr : Fr} {a : Act} (h : Agrees n fr a) {x : Operand} (hk : known n fr x = true) : evalF fr x = a.eval x := by
  cases x with
  | tmp t =>
    simp only [known, Bool.and_eq_true, Option.isSome_iff_exists, Nat.blt_eq] at hk
    obtain ⟨⟨v, hv⟩, hlt⟩ := hk
    have := h.at_ t v hlt hv
    simp [evalF, hv, Act.eval, this]
  | _ => rfl
theorem Agrees.put {n : Nat} {fr : Fr} {a : Act} (h : Agrees n fr a) {d : Option Tmp} (hd : fits n d = true) (v : Value) : Agrees n (putF fr d v) (a.put d v) := by
  cases d with
  | none => exact h
  | some d =>
    have hlt : d < n := by simpa [fits, Nat.blt_eq] using hd
    refine ⟨by simp [Act.put, h.size], by simp [Act.put, h.defers, dfs, putF, look_cons, Nat.ne_of_lt hlt], fun i u hin hu => ?_⟩
    simp only [putF, look_cons] at hu
    by_cases hi : d = i
    · subst hi
      simp only [if_true, Option.some.injEq] at hu
      subst hu
      simp [Act.put, h.size, hlt]
    · rw [if_neg hi] at hu
      simp only [Act.put, Array.getElem?_setIfInBounds_ne hi]
      exact h.at_ i u hin hu
theorem Agrees.pass {n : Nat} {fr : Fr} {a : Act} (h : Agrees n fr a) {d : Tmp} {v : Value} (hd : look fr d = some v) : Agrees n ((d, v) :: fr) a :=
  ⟨h.size, h.defers.trans (dfs_congr (by rw [look_cons]; by_cases hi : d = n <;> simp [hi, ← hd])), fun i u hin hu => by
    rw [look_cons] at hu
    by_cases hi : d = i
    · subst hi; simp only [if_true, Option.some.injEq] at hu; subst hu; exact h.at_ d _ hin hd
    · rw [if_neg hi] at hu; exact h.at_ i u hin hu⟩

/-! one operation -/
inductive Cls where
  | val (v : Value) | ar (k : IntKind) (e : Int) | pick (b : Bool) (x y : Value) | nilc (v : Value)
  | call (f : FuncId) (args : Array Value) | next (str : Bool) | entry | gen | bad
def clsBin (op : BinOp) (k : IntKind) (a b : Int) : Cls :=
  match op with
  | .add => .ar k (a + b)
  | .sub => .ar k (a - b)
  | .mul => .ar k (a * b)
  | .eql => .val (.bool (a == b))
  | .neq => .val (.bool (a != b))
  | .lss => .val (.bool (decide (a < b)))
  | .leq => .val (.bool (decide (a ≤ b)))
  | .gtr => .val (.bool (decide (a > b)))
  | .geq => .val (.bool (decide (a ≥ b)))
  | _ => .gen
/-- how types are seen -/
abbrev Tb := TypeId → RK
def cls (tb : Tb) (ρ : Operand → Value) (o : Oper) : Cls :=
  match o.op with
  | .move x | .assign x => .val (ρ x)
  | .pick c a b => match ρ c with
    | .bool t => .pick t (ρ a) (ρ b)
    | _ => .bad
  | .binOp op t x y _ => match tb t with
    | .one (.int _) => match ρ x, ρ y with
      | .int k a, .int k' b => if k = k' then clsBin op k a b else .gen
      | _, _ => .bad
    | _ => .gen
  | .unOp op t x => match op, tb t with
    | .not, .one .bool => match ρ x with
      | .bool b => .val (.bool !b)
      | _ => .bad
    | _, _ => .gen
  | .extract t i => match ρ t with
    | .tuple vs => match vs[i]? with
      | some v => .val v
      | none => .bad
    | _ => .bad
  | .nilCheck x => .nilc (ρ x)
  | .makeFunc fn first captured => .val (.func fn (first.map ρ) (captured.map ρ))
  | .call c => match c.callee with
    | .value (.func f) => .call f (c.args.map ρ)
    | _ => .gen
  | .next _ s => .next s
  | .entry _ => .entry
  | _ => .gen
def isSelect : Op → Bool
  | .select .. => true
  | .defer .. => true
  | _ => false
/-- may this function be entered? -/
def callable (P : Program) (f : FuncId) : Bool :=
  match P.funcs[f]? with
  | some fn => fn.body.isSome && !(fn.name == "runtime.NumGoroutine")
  | none => false

theorem callFunc_run {P : Program} {f : FuncId} (h : callable P f = true) (args : Array Value) (w : World) : (callFunc f args).run P w = .ok (.enter f args) w := by
  unfold callable at h
  unfold callFunc
  cases hf : P.funcs[f]? with
  | none => simp [hf] at h
  | some fn =>
    simp only [hf, Bool.and_eq_true, Bool.not_eq_true'] at h
    obtain ⟨hb, hn⟩ := h
    have hb' : fn.body.isNone = false := by cases hfb : fn.body <;> simp_all
    have hp : (program).run P w = .ok P w := rfl
    rw [Sem.run_bind, hp, Result.andThen_ok]
    simp only [hf, hn, hb', Bool.false_eq_true, if_false]
    rfl

/-- the program, how its types are seen, which functions may be entered -/
structure Cx where
  P : Program
  tb : List (TypeId × RK)
  cl : List FuncId
def lookT : List (TypeId × RK) → TypeId → RK
  | [], _ => .one .raw
  | (i, r) :: l, t => match Nat.beq i t with | true => r | false => lookT l t
def memN : List Nat → Nat → Bool
  | [], _ => false
  | i :: l, t => match Nat.beq i t with | true => true | false => memN l t
def Cx.ty (cx : Cx) : Tb := lookT cx.tb
def Cx.Calls' (cx : Cx) : Prop := ∀ f, memN cx.cl f = true → callable cx.P f = true
structure Cx.Ok (cx : Cx) : Prop where
  calls : cx.Calls'
  mixed : cx.P.follows .mixedOrders = true
def compOp (cx : Cx) (n : Nat) (ek : Kd × Kd) (fr : Fr) (o : Oper) (k : Fr → WP) : WP :=
  match !isSelect o.op && (o.op.operands.all (known n fr) && fits n o.dst) with
  | false => fun _ => False
  | true => match cls cx.ty (evalF fr) o with
    | .val v => k (putF fr o.dst v)
    | .ar kd e => ArK kd e fun x => k (putF fr o.dst (.int kd x))
    | .pick b x y => condK b (k (putF fr o.dst x)) (k (putF fr o.dst y))
    | .nilc v => NilK v (k (putF fr o.dst v))
    | .call f args => match memN cx.cl f with
      | true => FnK cx.P (cx.ty o.type) f args (curR (cx.ty o.type) fun v => k (putF fr o.dst v))
      | false => OpK cx.P (cx.ty o.type) (callFunc f args) (curR (cx.ty o.type) fun v => k (putF fr o.dst v))
    | .next str => match str with
      | true => NxK cx.P (execOp (evalF fr) o) (.int .i64) (.int .i32) (k (putF fr o.dst (.tuple #[.bool false]))) fun x y => k (putF fr o.dst (.tuple #[.bool true, .int .i64 x, .int .i32 y]))
      | false => NxK cx.P (execOp (evalF fr) o) .raw .raw (k (putF fr o.dst (.tuple #[.bool false]))) fun x y => k (putF fr o.dst (.tuple #[.bool true, x, y]))
    | .entry => EnK cx.P (execOp (evalF fr) o) ek.1 ek.2 fun x y => k (putF fr o.dst (.tuple #[ek.1.mk x, ek.2.mk y]))
    | .gen => OpK cx.P (cx.ty o.type) (execOp (evalF fr) o) (curR (cx.ty o.type) fun v => k (putF fr o.dst v))
    | .bad => fun _ => False

/-- what the classes promise of the operation's run -/
def ClsOk (P : Program) (s : Sem Next) : Cls → Prop
  | .val v => ∀ w, s.run P w = .ok (.value v) w
  | .ar k e => ∀ w, s.run P w = .ok (.value (.int k (k.wrap e))) w
  | .pick b x y => ∀ w, s.run P w = .ok (.value (match b with | true => x | false => y)) w
  | .nilc v => nonNil v = true → ∀ w, s.run P w = .ok (.value v) w
  | .call f args => ∀ w, s.run P w = (callFunc f args).run P w
  | .next _ => True
  | .entry => True
  | .gen => True
  | .bad => True
theorem clsBin_ok (P : Program) (op : BinOp) (t : TypeId) (x y : Operand) (k : IntKind) (a b : Int) :
    ClsOk P (do let r ← (do eqGuard op t x y (.int k a) (.int k b); binOp op t (.int k a) (.int k b)); pure (Next.value r)) (clsBin op k a b) := by
  cases op <;> simp only [clsBin, ClsOk] <;> intros <;> first | trivial | simp [eqGuard, binOp, Op.intArith, Op.intCmp]
theorem cls_ok (P : Program) (tb : Tb) (ρ : Operand → Value) (hρ : ∀ f, ρ (.func f) = .func (.func f) #[] #[]) (o : Oper) : ClsOk P (execOp ρ o) (cls tb ρ o) := by
  obtain ⟨dst, op, type, pos, after, guard⟩ := o
  unfold cls
  cases op <;> simp only [execOp]
  case move x => intro w; rfl
  case assign x => intro w; rfl
  case pick c a b =>
    cases hc : ρ c <;> simp only [ClsOk]
    intro w
    simp [asBool]
    rename_i t
    cases t <;> simp
  case binOp op t x y yt =>
    cases htb : tb t with
    | tup ks => trivial
    | one kd =>
      cases kd
      case int kk =>
        show ClsOk P _ (match ρ x, ρ y with
          | .int k a, .int k' b => if k = k' then clsBin op k a b else .gen
          | _, _ => .bad)
        split
        · rename_i k a k' b hx hy
          rw [hx, hy]
          by_cases h : k = k'
          · subst h; simp only [if_true]; exact clsBin_ok P op t x y _ _ _
          · rw [if_neg h]; trivial
        · trivial
      all_goals trivial
  case unOp op t x =>
    cases op <;> simp only [ClsOk]
    cases htb : tb t with
    | tup ks => simp
    | one kd =>
      cases kd <;> simp only
      cases hx : ρ x <;> simp only
      intro w; simp [Op.unary]
  case extract t i =>
    cases ht : ρ t <;> simp only [ClsOk]
    rename_i vs
    cases hv : vs[i]? <;> simp only
    intro w
    simp [Instr.extract, hv]
  case nilCheck x =>
    intro hn w
    cases hx : ρ x <;> simp [hx, nonNil] at hn ⊢
    · rename_i a
      cases a <;> simp at hn ⊢
    · rename_i fn first captured
      cases fn <;> simp at hn ⊢
  case makeFunc fn first captured => intro w; simp [Instr.makeFunc]
  case call c =>
    cases hc : c.callee with
    | value f =>
      cases f <;> simp only [ClsOk]
      intro w
      simp [resolve, hc, Deferred.ofValue, invoke, hρ]
    | invoke r m => simp [ClsOk]
    | builtin b => simp [ClsOk]
  all_goals trivial
theorem notDefer {op : Op} (h : isSelect op = false) (c : Call) : op ≠ .defer c := by
  intro e; subst e; simp [isSelect] at h
theorem semAt_eq {ro : Option Nat} {ρ : Operand → Value} {o : Oper} (h : isSelect o.op = false) : o.semAt (Fw ro).round ρ = execOp ρ o := by
  cases ro with
  | none => exact Oper.semAt_none ρ o
  | some l => exact Oper.semAt_some l ρ o (notDefer h)
theorem upon_of_next {ro : Option Nat} {P : Program} {o : Oper} {a : Act} {w : World} {K : Act → World → Prop} {Q : Exit → Act → World → Prop} {c : Value → WP} (hs : isSelect o.op = false)
    (h : NextK P (execOp a.eval o) c w) (hc : ∀ v w', c v w' → K (a.put o.dst v) w') : o.wpIn (Fw ro) 0 P a w K Q := by
  unfold NextK at h
  unfold Oper.wpIn
  rw [semAt_eq hs]
  refine ⟨fun _ _ => trivial, ?_⟩
  generalize (execOp a.eval o).run P w = r at h
  cases r with
  | halt x w' => exact h.elim
  | ok nx w' =>
    cases nx <;> simp only [Oper.uponIn] at h ⊢ <;> try exact h.elim
    · exact hc _ _ h
    · exact hc _ _ h
    · exact ⟨Fw.dp, callsFw (Calls.mono h fun e w'' ⟨v, he, hv⟩ => by subst he; exact hc _ _ hv)⟩
    · exact ⟨Fw.dp, roundFw (RoundIn.mono h fun e w'' ⟨v, he, hv⟩ => by subst he; exact hc _ _ hv)⟩
theorem upon_of_run {ro : Option Nat} {P : Program} {o : Oper} {a : Act} {w : World} {K : Act → World → Prop} {Q : Exit → Act → World → Prop} {v : Value} (hs : isSelect o.op = false)
    (h : (execOp a.eval o).run P w = .ok (.value v) w) (hK : K (a.put o.dst v) w) : o.wpIn (Fw ro) 0 P a w K Q := by
  unfold Oper.wpIn
  rw [semAt_eq hs, h]
  exact ⟨fun _ _ => trivial, hK⟩
theorem notSelect {op : Op} (h : isSelect op = false) (cs : Array SelectCase) (b : Bool) : op ≠ .select cs b := by
  intro e; subst e; simp [isSelect] at h
theorem Agrees.exec {n : Nat} {fr : Fr} {a : Act} (hA : Agrees n fr a) {o : Oper} (hs : isSelect o.op = false) (hk : o.op.operands.all (known n fr) = true) :
    execOp (evalF fr) o = execOp a.eval o :=
  execOp_congr o (notSelect hs) fun _ hx => hA.eval (Array.all_eq_true_iff_forall_mem.1 hk _ hx)
theorem SameFr.dst {fr : Fr} {o : Oper} (v : Value) : SameFr o.dst.toList fr (putF fr o.dst v) := SameFr.put fun x hx => by simp [hx]
theorem compOp_sound {ro : Option Nat} {cx : Cx} (hcx : cx.Ok) {n : Nat} {ek : Kd × Kd} {fr : Fr} {a : Act} {w : World} {o : Oper} {k : Fr → WP} {Q : Exit → Act → World → Prop}
    (hA : Agrees n fr a) (h : compOp cx n ek fr o k w) :
    o.wpIn (Fw ro) 0 cx.P a w (fun a' w' => ∃ fr', Agrees n fr' a' ∧ SameFr o.dst.toList fr fr' ∧ k fr' w') Q := by
  unfold compOp at h
  cases hc : (!isSelect o.op && (o.op.operands.all (known n fr) && fits n o.dst)) with
  | false => rw [hc] at h; exact h.elim
  | true =>
    rw [hc] at h
    simp only [Bool.and_eq_true, Bool.not_eq_true'] at hc
    obtain ⟨hs, hk, hf⟩ := hc
    have he := hA.exec hs hk
    have hok := cls_ok cx.P cx.ty (evalF fr) (fun _ => rfl) o
    have fin : ∀ v w', k (putF fr o.dst v) w' → ∃ fr', Agrees n fr' (a.put o.dst v) ∧ SameFr o.dst.toList fr fr' ∧ k fr' w' :=
      fun v w' hv => ⟨_, hA.put hf v, SameFr.dst v, hv⟩
    cases hcl : cls cx.ty (evalF fr) o with
    | val v =>
      simp only [hcl] at h hok
      exact upon_of_run hs (he ▸ hok w) (fin _ _ h)
    | ar kd e =>
      simp only [hcl] at h hok
      exact upon_of_run hs (he ▸ hok w) (fin _ _ h)
    | pick b x y =>
      simp only [hcl] at h hok
      refine upon_of_run hs (he ▸ hok w) (fin _ _ ?_)
      cases b <;> exact h
    | nilc v =>
      simp only [hcl] at h hok
      exact upon_of_run hs (he ▸ hok h.1 w) (fin _ _ h.2)
    | call f args =>
      simp only [hcl] at h hok
      cases hm : memN cx.cl f with
      | false =>
        rw [hm] at h
        refine upon_of_next hs (c := tyR (cx.ty o.type) (curR (cx.ty o.type) fun v => k (putF fr o.dst v))) ?_ fun v w' hv => fin _ _ (tyR_cur _ _ _ _ hv)
        have hr := hok w
        rw [he] at hr
        unfold OpK NextK at h
        unfold NextK
        rw [hr]
        exact h
      | true =>
        rw [hm] at h
        have hr := hok w
        rw [callFunc_run (hcx.calls f hm), he] at hr
        unfold Oper.wpIn
        rw [semAt_eq hs, hr]
        exact ⟨fun _ _ => trivial, Fw.dp, callsFw (Calls.mono h fun e w'' ⟨v, hv, hh⟩ => by subst hv; exact fin _ _ (tyR_cur _ _ _ _ hh))⟩
    | next str =>
      simp only [hcl] at h hok
      cases str <;>
      · simp only at h
        unfold NxK at h
        rw [he] at h
        refine upon_of_next hs h fun v w' hv => ?_
        rcases hv with ⟨rfl, hv⟩ | ⟨x, y, rfl, hv⟩
        · exact fin _ _ hv
        · exact fin _ _ hv
    | entry =>
      simp only [hcl] at h hok
      unfold EnK at h
      rw [he] at h
      refine upon_of_next hs h fun v w' ⟨x, y, hv, hk⟩ => ?_
      subst hv
      exact fin _ _ hk
    | gen =>
      simp only [hcl] at h hok
      rw [he] at h
      exact upon_of_next hs h fun v w' hv => fin _ _ (tyR_cur _ _ _ _ hv)
    | bad => simp only [hcl] at h

/-- a temporary's value -/
def lookN (n : Nat) (fr : Fr) (d : Nat) : Option Value := match Nat.blt d n with
  | true => look fr d
  | false => none
theorem lookN_some {n : Nat} {fr : Fr} {d : Nat} {v : Value} (h : lookN n fr d = some v) : d < n ∧ look fr d = some v := by
  unfold lookN at h
  cases hb : Nat.blt d n with
  | true => rw [hb] at h; exact ⟨by simpa [Nat.blt_eq] using hb, h⟩
  | false => rw [hb] at h; cases h
/-! a region in the order of its text -/
def splitB (b : Bool) (f : Bool → WP) : WP := condK b (f true) (f false)
def compList (cx : Cx) (n : Nat) (ek : Kd × Kd) (ops : Array Oper) : List Oper → Fr → (Fr → WP) → WP
  | [], fr, k => k fr
  | o :: r, fr, k =>
    match o.guard with
    | none => compOp cx n ek fr o fun fr' => compList cx n ek ops r fr' k
    | some (j, want) =>
      match (ops[j]?).bind (·.dst) with
      | none => fun _ => False
      | some d =>
        match lookN n fr d with
        | none => fun _ => False
        | some v =>
          match v with
          | .bool b => splitB b fun b' => match b' == want with
            | true => compOp cx n ek ((d, .bool b') :: fr) o fun fr' => compList cx n ek ops r fr' k
            | false => match fits n o.dst with
              | true => compList cx n ek ops r (putF ((d, .bool b') :: fr) o.dst undef) k
              | false => fun _ => False
          | .tuple _ => match fits n o.dst with
            | true => compList cx n ek ops r (putF fr o.dst undef) k
            | false => fun _ => False
          | _ => fun _ => False
def modsL (l : List Oper) : List Nat := l.flatMap fun o => o.dst.toList
theorem splitB_elim {b : Bool} {f : Bool → WP} {w : World} (h : splitB b f w) : f b w := by cases b <;> exact h
theorem wanted_none {o : Oper} (h : o.guard = none) (y : Nat → Option Bool) : Region.wanted o y = true := by simp [Region.wanted, h]
theorem wanted_some {o : Oper} {j : Nat} {want : Bool} (h : o.guard = some (j, want)) {ops : Array Oper} {tmps : Array Value} {d : Tmp} (hd : (ops[j]?).bind (·.dst) = some d)
    {v : Value} (hv : tmps[d]? = some v) : Region.wanted o (yielded ops tmps) = (match v with | .bool b => b == want | _ => false) := by
  simp only [Region.wanted, h, yielded, hd, Option.bind_some, hv]
  cases v <;> simp
theorem compList_sound {ro : Option Nat} {cx : Cx} (hcx : cx.Ok) {n : Nat} {ek : Kd × Kd} {ops : Array Oper} {Q : Exit → Act → World → Prop} {k : Fr → WP} {ms : List Nat} {fr0 : Fr}
    (hQ : ∀ fr a w, Agrees n fr a → SameFr ms fr0 fr → k fr w → Q .normal a w) :
    ∀ (l : List Oper) (fr : Fr) (a : Act) (w : World), (∀ x ∈ modsL l, x ∈ ms) → Agrees n fr a → SameFr ms fr0 fr → compList cx n ek ops l fr k w → wpListIn (Fw ro) 0 cx.P ops Q l a w := by
  intro l
  induction l with
  | nil => intro fr a w _ hA hS h; exact hQ fr a w hA hS h
  | cons o r ih =>
    intro fr a w hm hA hS h
    have hmo : ∀ x ∈ o.dst.toList, x ∈ ms := fun x hx => hm x (by simp only [modsL, List.flatMap_cons, List.mem_append]; exact .inl hx)
    have hmr : ∀ x ∈ modsL r, x ∈ ms := fun x hx => hm x (by simp only [modsL, List.flatMap_cons, List.mem_append]; exact .inr hx)
    have step : ∀ (fr : Fr) (a : Act) (w : World), Agrees n fr a → SameFr ms fr0 fr → compOp cx n ek fr o (fun fr' => compList cx n ek ops r fr' k) w → o.wpIn (Fw ro) 0 cx.P a w (wpListIn (Fw ro) 0 cx.P ops Q r) Q := by
      intro fr a w hA hS h
      exact Oper.wpIn_mono (fun a' w' ⟨fr', hA', hS', h'⟩ => ih fr' a' w' hmr hA' (hS.trans (hS'.mono hmo)) h') (compOp_sound hcx hA h)
    unfold compList at h
    unfold wpListIn
    cases hg : o.guard with
    | none =>
      simp only [hg] at h
      rw [if_pos (wanted_none hg _)]
      exact step fr a w hA hS h
    | some jw =>
      obtain ⟨j, want⟩ := jw
      simp only [hg] at h
      cases hd : (ops[j]?).bind (·.dst) with
      | none => simp only [hd] at h
      | some d =>
        simp only [hd] at h
        cases hl : lookN n fr d with
        | none => simp only [hl] at h
        | some v =>
          simp only [hl] at h
          obtain ⟨hdn, hl⟩ := lookN_some hl
          have hw := wanted_some hg hd (hA.at_ d v hdn hl)
          have skip : ∀ (fr : Fr), Agrees n fr a → SameFr ms fr0 fr → Region.wanted o (yielded ops a.tmps) = false →
              (match fits n o.dst with | true => compList cx n ek ops r (putF fr o.dst undef) k | false => fun _ => False) w →
              if Region.wanted o (yielded ops a.tmps) = true then o.wpIn (Fw ro) 0 cx.P a w (wpListIn (Fw ro) 0 cx.P ops Q r) Q else (∀ f, o.about cx.P w a.eval = some f → (Fw ro).fn f) ∧ wpListIn (Fw ro) 0 cx.P ops Q r (a.put o.dst undef) w := by
            intro fr hA hS hf h
            rw [hf, if_neg (by simp)]
            cases hfi : fits n o.dst with
            | false => rw [hfi] at h; exact h.elim
            | true =>
              rw [hfi] at h
              exact ⟨fun _ _ => trivial, ih _ _ _ hmr (hA.put hfi undef) (hS.trans ((SameFr.dst undef).mono hmo)) h⟩
          cases v with
          | bool b =>
            simp only at h hw
            have h' := splitB_elim h
            have hA' : Agrees n ((d, .bool b) :: fr) a := hA.pass hl
            have hS' : SameFr ms fr0 ((d, .bool b) :: fr) := fun i hi => by
              rw [look_cons]
              by_cases e : d = i
              · subst e; rw [if_pos rfl, ← hS d hi, hl]
              · rw [if_neg e]; exact hS i hi
            cases hbw : (b == want) with
            | true =>
              simp only [hbw] at h'
              rw [if_pos (by rw [hw, hbw])]
              exact step _ a w hA' hS' h'
            | false =>
              simp only [hbw] at h'
              exact skip _ hA' hS' (by rw [hw, hbw]) h'
          | tuple vs => exact skip fr hA hS hw h
          | _ => exact h.elim
/-! a region that draws its order -/
inductive Od where
  | nil | cons (i : Nat) (r : Od) | two (i j : Nat) (a b : Od) | rd (i : Nat) (r : Od)
def Od.len : Od → Nat
  | .nil => 0
  | .cons _ r => r.len + 1
  | .two _ _ a b => min a.len b.len + 1
  | .rd _ r => r.len + 1
def Od.even : Od → Bool
  | .nil => true
  | .cons _ r => r.even
  | .two _ _ a b => Nat.beq a.len b.len && (a.even && b.even)
  | .rd _ r => r.even
/-- does it leave the world alone (asked of the run, not believed)? none: no; some true: it reads memory; some false: it only reckons -/
def isStill (cx : Cx) : Op → Option Bool
  | .move _ | .assign _ | .pick .. | .build .. | .nilCheck _ | .binOp .. | .unOp .. | .makeInterface .. | .makeFunc .. | .slice .. | .fieldAddr .. | .field .. | .indexAddr .. | .index ..
  | .extract .. => some false
  | .load .. | .lookup .. | .typeAssert .. => some true
  | .convert _ d _ => match cx.ty d with | .one .raw => none | _ => some true
  | .call c => match c.callee with
    | .builtin .len | .builtin .cap => some true
    | .builtin .real | .builtin .imag | .builtin .min | .builtin .max | .builtin .complex => some false
    | _ => none
  | _ => none
def readers (cx : Cx) (ops : Array Oper) : List Nat := (List.range ops.size).filter fun i => match ops[i]? with
  | some o => match isStill cx o.op with
    | some true => true
    | _ => false
  | none => false
/-- 'o' waits for all of 'rd' -/
def waitsAll (rd : List Nat) (o : Oper) : Bool := rd.all fun r => o.after.any fun e => Region.binds .any e && Nat.beq e.on r
def PuK (P : Program) (r : RK) (s : Sem Next) (c : r.A) : WP := fun w => ∃ v, (∀ w', s.run P w' = .ok (.value v) w') ∧ tyR r c v w
def StK (P : Program) (S : WP) (r : RK) (s : Sem Next) (c : r.A) : WP := fun w => ∃ v, (∀ w', S w' → s.run P w' = .ok (.value v) w') ∧ tyR r c v w
/-- an operation that reads, when nothing else is left to run beside it -/
def RdK (P : Program) (r : RK) (s : Sem Next) (c : r.A) : WP := fun w => ∃ v, s.run P w = .ok (.value v) w ∧ tyR r c v w
def andK (S c : WP) : WP := fun w => S w ∧ c w
def stillOp (cx : Cx) (n : Nat) (rd : Bool) (S : WP) (fr : Fr) (o : Oper) (k : Fr → WP) : WP :=
  match !isSelect o.op && (o.op.operands.all (known n fr) && fits n o.dst) with
  | false => fun _ => False
  | true => match cls cx.ty (evalF fr) o with
    | .val v => k (putF fr o.dst v)
    | .ar kd e => ArK kd e fun x => k (putF fr o.dst (.int kd x))
    | .pick b x y => condK b (k (putF fr o.dst x)) (k (putF fr o.dst y))
    | .nilc v => NilK v (k (putF fr o.dst v))
    | .gen => match rd with
      | true => StK cx.P S (cx.ty o.type) (execOp (evalF fr) o) (curR (cx.ty o.type) fun v => k (putF fr o.dst v))
      | false => PuK cx.P (cx.ty o.type) (execOp (evalF fr) o) (curR (cx.ty o.type) fun v => k (putF fr o.dst v))
    | _ => fun _ => False
/-- an operation with its guard: 'run' where it is wanted, 'skip' where not -/
def guarded (n : Nat) (ops : Array Oper) (fr : Fr) (o : Oper) (run skip : Fr → WP) : WP :=
  match o.guard with
  | none => run fr
  | some (j, want) =>
    match (ops[j]?).bind (·.dst) with
    | none => fun _ => False
    | some d =>
      match lookN n fr d with
      | none => fun _ => False
      | some v =>
        match v with
        | .bool b => splitB b fun b' => match b' == want with
          | true => run ((d, .bool b') :: fr)
          | false => skip ((d, .bool b') :: fr)
        | .tuple _ => skip fr
        | _ => fun _ => False
def markB (l : Array Bool) (i : Nat) : Array Bool := l.setIfInBounds i true
/-- what is asked behind an act: S, unless it waits for all that read -/
def afterK (w : Bool) (S : WP) (c : WP) : WP := match w with
  | true => c
  | false => andK S c
def compDraw (cx : Cx) (n : Nat) (ops : Array Oper) (rd : List Nat) (S : WP) : Od → Bool → Array Bool → Fr → (Fr → WP) → WP
  | .nil, _, listed, fr, k => match (Region.ready .any ops listed).isEmpty with
    | true => k fr
    | false => fun _ => False
  | .cons i r, s, listed, fr, k => match ops[i]? with
    | none => fun _ => False
    | some o => guarded n ops fr o
        (fun fr => match isStill cx o.op with
          | some b => match (Region.ready .any ops listed).contains i && (Region.free .any ops listed i && (s || !b)) with
            | true => stillOp cx n b S fr o fun fr' => compDraw cx n ops rd S r s (markB listed i) fr' k
            | false => fun _ => False
          | none => match Region.ready .any ops listed == [i] with
            | true => compOp cx n (.raw, .raw) fr o fun fr' => afterK (waitsAll rd o) S (compDraw cx n ops rd S r (!waitsAll rd o) (markB listed i) fr' k)
            | false => fun _ => False)
        (fun fr => match (Region.ready .any ops listed).contains i && (Region.free .any ops listed i && fits n o.dst) with
          | true => compDraw cx n ops rd S r s (markB listed i) (putF fr o.dst undef) k
          | false => fun _ => False)
  | .two i j ri rj, _, listed, fr, k => match ops[i]?, ops[j]? with
    | some oi, some oj => match Region.ready .any ops listed == [i, j] && (oi.guard.isNone && oj.guard.isNone) with
      | true => andK (compOp cx n (.raw, .raw) fr oi fun fr' => afterK (waitsAll rd oi) S (compDraw cx n ops rd S ri (!waitsAll rd oi) (markB listed i) fr' k))
          (compOp cx n (.raw, .raw) fr oj fun fr' => afterK (waitsAll rd oj) S (compDraw cx n ops rd S rj (!waitsAll rd oj) (markB listed j) fr' k))
      | false => fun _ => False
    | _, _ => fun _ => False
  | .rd i r, s, listed, fr, k => match ops[i]? with
    | none => fun _ => False
    | some o => guarded n ops fr o
        (fun fr => match Region.ready .any ops listed == [i] && (!isSelect o.op && (o.op.operands.all (known n fr) && fits n o.dst)) with
          | true => RdK cx.P (cx.ty o.type) (execOp (evalF fr) o) (curR (cx.ty o.type) fun v => compDraw cx n ops rd S r s (markB listed i) (putF fr o.dst v) k)
          | false => fun _ => False)
        (fun fr => match (Region.ready .any ops listed).contains i && (Region.free .any ops listed i && fits n o.dst) with
          | true => compDraw cx n ops rd S r s (markB listed i) (putF fr o.dst undef) k
          | false => fun _ => False)
def DrawK (f : WP → WP) : WP := fun w => ∃ S : WP, S { w with drawn := w.drawn + 1 } ∧ f S { w with drawn := w.drawn + 1 }

/-! the orders of a region: 'S' is asked behind an operation, unless that one waits for all of 'rd' -/
section
variable {ro : Option Nat} {P : Program} {ops : Array Oper} {Q : Exit → Act → World → Prop} {S : World → Prop} {rd : List Nat}
theorem YieldsIf.wpOpI {S : World → Prop} {i : Nat} {o : Oper} {v : Value} {a : Act} (hs : isSelect o.op = false) (hi : ops[i]? = some o) (hy : YieldsIf P ops S o v a)
    {K : Act → World → Prop} {w : World} (hS : S w) (h : K (a.put o.dst v) w) : wpOpIn (Fw ro) 0 P ops Q i K a w := by
  unfold Go.wpOpIn
  simp only [hi]
  rcases hy with ⟨hw, hv⟩ | ⟨hw, rfl⟩
  · simp only [hw, if_true]; exact upon_of_run hs (hv w hS) h
  · simp only [hw, Bool.false_eq_true, if_false]; exact ⟨fun _ _ => trivial, h⟩
theorem wpOpI_putIf {S : World → Prop} {j : Nat} {oi oj : Oper} {v : Value} (hj : ops[j]? = some oj) (hap : oi.apart ops oj = true)
    (hsi : isSelect oi.op = false) (hsj : isSelect oj.op = false)
    (hQ : ∀ c a w, Q (.panic c) (a.put oi.dst v) w → Q (.panic c) a w) {K : Act → World → Prop} {a : Act} {w : World}
    (hy : YieldsIf P ops S oi v a) (h : wpOpIn (Fw ro) 0 P ops Q j K (a.put oi.dst v) w) :
    wpOpIn (Fw ro) 0 P ops Q j (fun a' w' => YieldsIf P ops S oi v a' ∧ K (a'.put oi.dst v) w') a w := by
  obtain ⟨h1, h2, h3⟩ := Oper.apart_spec hap
  have keep : ∀ (a : Act), YieldsIf P ops S oi v a → ∀ u, YieldsIf P ops S oi v (a.put oj.dst u) := fun a hy u =>
    hy.of_same (execOp_put oi (notSelect hsi) a oj.dst u h3) (wanted_put oi a oj.dst u h3)
  have keepD : ∀ d, YieldsIf P ops S oi v { a with defers := d :: a.defers } := fun d => hy.of_same rfl rfl
  unfold wpOpIn at *
  simp only [hj] at *
  rw [wanted_put oj a oi.dst v h1] at h
  split
  · rename_i hw
    simp only [hw, if_true] at h
    unfold Oper.wpIn at *
    refine ⟨fun _ _ => trivial, ?_⟩
    have h := h.2
    rw [semAt_eq hsj, execOp_put oj (notSelect hsj) a oi.dst v h1] at h
    rw [semAt_eq hsj]
    generalize (execOp a.eval oj).run P w = r at *
    cases r with
    | ok x w' =>
      cases x <;> simp only [Oper.uponIn] at h ⊢
      case value u => exact ⟨keep a hy u, by rw [← Act.put_comm a v u h2]; exact h⟩
      case skip => exact ⟨keep a hy _, by rw [← Act.put_comm a v undef h2]; exact h⟩
      case defer d =>
        refine ⟨keep _ (keepD d) _, ?_⟩
        rw [← Act.put_comm _ v undef h2, ← Act.put_defers]
        exact h
      case enter f args =>
        refine ⟨h.1, CallsIn.mono h.2 fun e w'' he => ?_⟩
        cases e with
        | returned u => exact ⟨keep a hy u, by rw [← Act.put_comm a v u h2]; exact he⟩
        | panicked c => exact hQ _ _ _ he
        | outgrown => exact he
      case row row args => exact ⟨h.1, RowsIn.mono h.2 fun u w'' he => ⟨keep a hy u, by rw [← Act.put_comm a v u h2]; exact he⟩⟩
      case round l f tmps assign body =>
        refine ⟨h.1, RoundIn.mono h.2 fun e w'' he => ?_⟩
        cases e with
        | returned u => exact ⟨keep a hy u, by rw [← Act.put_comm a v u h2]; exact he⟩
        | panicked c => exact hQ _ _ _ he
        | outgrown => exact he
    | halt x w' =>
      cases x <;> simp only [Oper.uponIn] at h ⊢
      case panic u => exact hQ _ _ _ h
  · rename_i hw
    simp only [hw] at h
    exact ⟨fun _ _ => trivial, keep a hy _, by rw [← Act.put_comm a v undef h2]; exact h.2⟩
def noSel (ops : Array Oper) : Bool := Region.noSelect ops && ops.all fun o => !isSelect o.op
theorem noSel_at (h : noSel ops = true) {j : Nat} {o : Oper} (hj : ops[j]? = some o) : isSelect o.op = false := by
  unfold noSel at h
  simp only [Bool.and_eq_true] at h
  have := Array.all_eq_true_iff_forall_mem.1 h.2 o (Array.mem_of_getElem? hj)
  simpa using this
def wpAnyN (ro : Option Nat) (P : Program) (ops : Array Oper) (Q : Exit → Act → World → Prop) (S : World → Prop) (rd : List Nat) : Nat → Array Bool → Act → World → Prop
  | 0, listed, a, w => Region.ready .any ops listed = [] ∧ Q .normal a w
  | fuel + 1, listed, a, w =>
    (Region.ready .any ops listed = [] → Q .normal a w) ∧
    ∀ i ∈ Region.ready .any ops listed, wpOpIn (Fw ro) 0 P ops Q i (fun a' w' => ((∀ o, ops[i]? = some o → waitsAll rd o = false) → S w → S w') ∧ wpAnyN ro P ops Q S rd fuel (listed.setIfInBounds i true) a' w') a w
theorem wpAny_of_N : ∀ (fuel : Nat) (listed : Array Bool) (a : Act) (w : World), wpAnyN ro P ops Q S rd fuel listed a w → wpAnyIn (Fw ro) 0 P .any ops Q fuel listed a w
  | 0, _, _, _, h => h
  | fuel + 1, _, _, _, h => ⟨h.1, fun i hi => wpOpIn_mono (fun a' w' h' => wpAny_of_N fuel _ a' w' h'.2) (h.2 i hi)⟩
/-- an operation that may come up is taken first -/
theorem wpAnyN_first {i : Nat} {oi : Oper} {v : Value} {T : World → Prop} (hi : ops[i]? = some oi) (hsel : ∀ (j : Nat) (o : Oper), ops[j]? = some o → isSelect o.op = false)
    (hT : (∀ w, T w) ∨ (i ∈ rd ∧ T = S)) (hQ : ∀ c a w, Q (.panic c) (a.put oi.dst v) w → Q (.panic c) a w) :
    ∀ (fuel : Nat) (listed : Array Bool) (a : Act) (w : World),
      (∀ j oj, ops[j]? = some oj → j ≠ i → listed.getD j true = false → (∀ e ∈ oj.after, Region.binds .any e = true → e.on ≠ i) → oi.apart ops oj = true) →
      i ∈ Region.ready .any ops listed → YieldsIf P ops T oi v a → T w →
      wpAnyN ro P ops Q S rd fuel (listed.setIfInBounds i true) (a.put oi.dst v) w → wpAnyN ro P ops Q S rd (fuel + 1) listed a w := by
  intro fuel
  induction fuel with
  | zero =>
    intro listed a w _ hr hy hTw H
    refine ⟨fun h => (by rw [h] at hr; cases hr), fun j hj => ?_⟩
    by_cases hji : j = i
    · subst hji; exact YieldsIf.wpOpI (hsel _ _ hi) hi hy hTw ⟨fun _ h => h, H⟩
    · have := ready_mono hj hji
      rw [H.1] at this
      cases this
  | succ fuel ih =>
    intro listed a w hfree hr hy hTw H
    refine ⟨fun h => (by rw [h] at hr; cases hr), fun j hj => ?_⟩
    by_cases hji : j = i
    · subst hji; exact YieldsIf.wpOpI (hsel _ _ hi) hi hy hTw ⟨fun _ h => h, H⟩
    · have h1 := H.2 j (ready_mono hj hji)
      obtain ⟨hjun, oj, hoj, hall⟩ := mem_ready.1 hj
      have hiun := (mem_ready.1 hr).1
      have hnot : ∀ e ∈ oj.after, Region.binds .any e = true → e.on ≠ i := fun e he hb heq => by
        have h1 := hall e he hb
        have h0 := hiun
        rw [heq] at h1
        rcases Nat.lt_or_ge i listed.size with h' | h'
        · simp [h'] at h0 h1; rw [h0] at h1; cases h1
        · simp [Array.getElem?_eq_none h'] at h1
      have h2 := wpOpI_putIf hoj (hfree j oj hoj hji hjun hnot) (hsel i oi hi) (hsel j oj hoj) hQ hy h1
      have hfree' : ∀ k ok, ops[k]? = some ok → k ≠ i → (listed.setIfInBounds j true).getD k true = false →
          (∀ e ∈ ok.after, Region.binds .any e = true → e.on ≠ i) → oi.apart ops ok = true := fun k ok hk hki hun hno => by
        refine hfree k ok hk hki ?_ hno
        by_cases hjk : j = k
        · subst hjk; exact hjun
        · rw [getD_set_ne true hjk] at hun; exact hun
      refine wpOpIn_mono (fun a' w' h3 => ⟨h3.2.1, ih (listed.setIfInBounds j true) a' w' hfree' (ready_mono hr (Ne.symm hji)) h3.1 ?_ ?_⟩) h2
      · rcases hT with hT | ⟨hir, rfl⟩
        · exact hT w'
        · refine h3.2.1 (fun o ho => ?_) hTw
          rw [hoj] at ho; cases ho
          cases hw : waitsAll rd oj with
          | false => rfl
          | true =>
            have := List.all_eq_true.1 hw i hir
            obtain ⟨e, he, hb⟩ := Array.any_eq_true'.1 this
            simp only [Bool.and_eq_true] at hb
            exact absurd (Nat.eq_of_beq_eq_true hb.2) (hnot e he hb.1)
      · rw [Array.setIfInBounds_comm _ _ hji]
        exact h3.2.2
theorem wpAnyN_take {i : Nat} {oi : Oper} {v : Value} {T : World → Prop} {fuel : Nat} {listed : Array Bool} {a : Act} {w : World} (hi : ops[i]? = some oi)
    (hs : noSel ops = true) (hf : Region.free .any ops listed i = true) (hr : (Region.ready .any ops listed).contains i = true) (hT : (∀ w, T w) ∨ (i ∈ rd ∧ T = S))
    (hQ : ∀ c a w, Q (.panic c) (a.put oi.dst v) w → Q (.panic c) a w) (hy : YieldsIf P ops T oi v a) (hTw : T w)
    (h : wpAnyN ro P ops Q S rd fuel (listed.setIfInBounds i true) (a.put oi.dst v) w) : wpAnyN ro P ops Q S rd (fuel + 1) listed a w :=
  wpAnyN_first hi (fun j o hj => noSel_at hs hj) hT hQ fuel listed a w (Region.free_spec hi hf) (by simpa using hr) hy hTw h
theorem wpAnyN_all {rs : List Nat} {fuel : Nat} {listed : Array Bool} {a : Act} {w : World} (hr : Region.ready .any ops listed = rs) (hne : rs ≠ [])
    (h : ∀ i ∈ rs, wpOpIn (Fw ro) 0 P ops Q i (fun a' w' => ((∀ o, ops[i]? = some o → waitsAll rd o = false) → S w → S w') ∧ wpAnyN ro P ops Q S rd fuel (listed.setIfInBounds i true) a' w') a w) : wpAnyN ro P ops Q S rd (fuel + 1) listed a w :=
  ⟨fun h0 => absurd (hr ▸ h0) hne, hr ▸ h⟩
end

theorem yieldsIf_wanted {P : Program} {ops : Array Oper} {S : WP} {o : Oper} {v : Value} {a : Act} (hw : Region.wanted o (yielded ops a.tmps) = true)
    (h : ∀ w, S w → (execOp a.eval o).run P w = .ok (.value v) w) : YieldsIf P ops S o v a := .inl ⟨hw, h⟩
theorem guarded_elim {ops : Array Oper} {fr : Fr} {o : Oper} {run skip : Fr → WP} {w : World} {n : Nat} {a : Act} {ms : List Nat} {fr0 : Fr}
    (h : guarded n ops fr o run skip w) (hA : Agrees n fr a) (hS : SameFr ms fr0 fr) :
    (Region.wanted o (yielded ops a.tmps) = true ∧ ∃ fr', Agrees n fr' a ∧ SameFr ms fr0 fr' ∧ run fr' w) ∨
    (Region.wanted o (yielded ops a.tmps) = false ∧ ∃ fr', Agrees n fr' a ∧ SameFr ms fr0 fr' ∧ skip fr' w) := by
  unfold guarded at h
  cases hg : o.guard with
  | none => simp only [hg] at h; exact .inl ⟨wanted_none hg _, fr, hA, hS, h⟩
  | some jw =>
    obtain ⟨j, want⟩ := jw
    simp only [hg] at h
    cases hd : (ops[j]?).bind (·.dst) with
    | none => simp only [hd] at h
    | some d =>
      simp only [hd] at h
      cases hl : lookN n fr d with
      | none => simp only [hl] at h
      | some v =>
        simp only [hl] at h
        obtain ⟨hdn, hl⟩ := lookN_some hl
        have hw := wanted_some hg hd (hA.at_ d v hdn hl)
        cases v with
        | bool b =>
          simp only at h hw
          have h' := splitB_elim h
          have hA' : Agrees n ((d, .bool b) :: fr) a := hA.pass hl
          have hS' : SameFr ms fr0 ((d, .bool b) :: fr) := fun i hi => by
            rw [look_cons]
            by_cases e : d = i
            · subst e; rw [if_pos rfl, ← hS d hi, hl]
            · rw [if_neg e]; exact hS i hi
          cases hbw : (b == want) with
          | true => simp only [hbw] at h'; exact .inl ⟨by rw [hw, hbw], _, hA', hS', h'⟩
          | false => simp only [hbw] at h'; exact .inr ⟨by rw [hw, hbw], _, hA', hS', h'⟩
        | tuple vs => exact .inr ⟨hw, fr, hA, hS, h⟩
        | _ => exact h.elim
def yif (P : Program) (ops : Array Oper) (S : WP) (rd : Bool) (o : Oper) (v : Value) (a : Act) : Prop := match rd with
  | true => YieldsIf P ops S o v a
  | false => YieldsIf P ops (fun _ => True) o v a
theorem stillOp_sound {cx : Cx} {n : Nat} {rd : Bool} {S : WP} {fr : Fr} {a : Act} {w : World} {o : Oper} {k : Fr → WP} {ops : Array Oper}
    (hA : Agrees n fr a) (hw : Region.wanted o (yielded ops a.tmps) = true) (h : stillOp cx n rd S fr o k w) :
    ∃ v, yif cx.P ops S rd o v a ∧ Agrees n (putF fr o.dst v) (a.put o.dst v) ∧ k (putF fr o.dst v) w := by
  have up : ∀ v, (∀ w', (execOp a.eval o).run cx.P w' = .ok (.value v) w') → yif cx.P ops S rd o v a := by
    intro v hv; cases rd <;> exact yieldsIf_wanted hw (fun w' _ => hv w')
  unfold stillOp at h
  cases hc : (!isSelect o.op && (o.op.operands.all (known n fr) && fits n o.dst)) with
  | false => rw [hc] at h; exact h.elim
  | true =>
    rw [hc] at h
    simp only [Bool.and_eq_true, Bool.not_eq_true'] at hc
    obtain ⟨hs, hk, hf⟩ := hc
    have he := hA.exec hs hk
    have hok := cls_ok cx.P cx.ty (evalF fr) (fun _ => rfl) o
    cases hcl : cls cx.ty (evalF fr) o with
    | val v =>
      simp only [hcl] at h hok
      exact ⟨v, up _ (fun w' => he ▸ hok w'), hA.put hf v, h⟩
    | ar kd e =>
      simp only [hcl] at h hok
      exact ⟨_, up _ (fun w' => he ▸ hok w'), hA.put hf _, h⟩
    | pick b x y =>
      simp only [hcl] at h hok
      refine ⟨_, up _ (fun w' => he ▸ hok w'), hA.put hf _, ?_⟩
      cases b <;> exact h
    | nilc v =>
      simp only [hcl] at h hok
      exact ⟨v, up _ (fun w' => he ▸ hok h.1 w'), hA.put hf v, h.2⟩
    | call f args => simp only [hcl] at h
    | next str => simp only [hcl] at h
    | entry => simp only [hcl] at h
    | gen =>
      simp only [hcl] at h hok
      cases rd with
      | true =>
        obtain ⟨v, hv, ht⟩ := h
        rw [he] at hv
        exact ⟨v, yieldsIf_wanted hw hv, hA.put hf v, tyR_cur _ _ _ _ ht⟩
      | false =>
        obtain ⟨v, hv, ht⟩ := h
        rw [he] at hv
        exact ⟨v, yieldsIf_wanted hw (fun w' _ => hv w'), hA.put hf v, tyR_cur _ _ _ _ ht⟩
    | bad => simp only [hcl] at h
theorem mem_readers {cx : Cx} {ops : Array Oper} {i : Nat} {o : Oper} (hi : ops[i]? = some o) (h : isStill cx o.op = some true) : i ∈ readers cx ops :=
  List.mem_filter.2 ⟨List.mem_range.2 (Array.getElem?_eq_some_iff.1 hi).1, by simp [hi, h]⟩
theorem compDraw_sound {ro : Option Nat} {cx : Cx} (hcx : cx.Ok) {n : Nat} {ops : Array Oper} {Q : Exit → Act → World → Prop} {k : Fr → WP} {ms : List Nat} {fr0 : Fr} {S : WP}
    (hns : noSel ops = true) (hms : ∀ x ∈ modsL ops.toList, x ∈ ms) (hpan : ∀ c a w, ¬ Q (.panic c) a w)
    (hQ : ∀ fr a w, Agrees n fr a → SameFr ms fr0 fr → k fr w → Q .normal a w) :
    ∀ (od : Od) (fuel : Nat) (s : Bool) (listed : Array Bool) (fr : Fr) (a : Act) (w : World), od.len = fuel → od.even = true → Agrees n fr a → SameFr ms fr0 fr → (s = true → S w) →
      compDraw cx n ops (readers cx ops) S od s listed fr k w → wpAnyN ro cx.P ops Q S (readers cx ops) fuel listed a w := by
  have hmo : ∀ {i : Nat} {o : Oper}, ops[i]? = some o → ∀ x ∈ o.dst.toList, x ∈ ms := fun {i o} hi x hx =>
    hms x (List.mem_flatMap.2 ⟨o, by rw [Array.mem_toList_iff]; exact Array.mem_of_getElem? hi, hx⟩)
  have act : ∀ {i : Nat} {o : Oper} {fr : Fr} {a : Act} {w : World} {c : Fr → WP} {K : Act → World → Prop}, ops[i]? = some o → Agrees n fr a → SameFr ms fr0 fr →
      Region.wanted o (yielded ops a.tmps) = true → compOp cx n (.raw, .raw) fr o (fun fr' => afterK (waitsAll (readers cx ops) o) S (c fr')) w →
      (∀ fr' a' w', Agrees n fr' a' → SameFr ms fr0 fr' → ((!waitsAll (readers cx ops) o) = true → S w') → c fr' w' → K a' w') →
      wpOpIn (Fw ro) 0 cx.P ops Q i (fun a' w' => ((∀ o, ops[i]? = some o → waitsAll (readers cx ops) o = false) → S w → S w') ∧ K a' w') a w := by
    intro i o fr a w c K hi hA hSf hw h hK
    unfold wpOpIn
    simp only [hi, hw, if_true]
    refine Oper.wpIn_mono (fun a' w' ⟨fr', hA', hS', h1⟩ => ?_) (compOp_sound hcx hA h)
    cases hwa : waitsAll (readers cx ops) o with
    | true =>
      rw [hwa] at h1 hK
      exact ⟨fun hh => (by have := hh o rfl; rw [hwa] at this; cases this), hK fr' a' w' hA' (hSf.trans (hS'.mono (hmo hi))) (fun hh => by cases hh) h1⟩
    | false =>
      rw [hwa] at h1 hK
      exact ⟨fun _ _ => h1.1, hK fr' a' w' hA' (hSf.trans (hS'.mono (hmo hi))) (fun _ => h1.1) h1.2⟩
  intro od
  induction od with
  | nil =>
    intro fuel s listed fr a w hlen _ hA hSf hS h
    simp only [Od.len] at hlen
    subst hlen
    unfold compDraw at h
    cases he : (Region.ready .any ops listed).isEmpty with
    | false => rw [he] at h; exact h.elim
    | true => rw [he] at h; exact ⟨List.isEmpty_iff.1 he, hQ fr a w hA hSf h⟩
  | cons i r ih =>
    intro fuel s listed fr a w hlen hev hA hSf hS h
    simp only [Od.len] at hlen
    subst hlen
    simp only [Od.even] at hev
    unfold compDraw at h
    cases hi : ops[i]? with
    | none => simp only [hi] at h
    | some o =>
      simp only [hi] at h
      rcases guarded_elim h hA hSf with ⟨hw, fr', hA', hSf', h'⟩ | ⟨hw, fr', hA', hSf', h'⟩
      · cases hst : isStill cx o.op with
        | some b =>
          simp only [hst] at h'
          cases hr : ((Region.ready .any ops listed).contains i && (Region.free .any ops listed i && (s || !b))) with
          | false => rw [hr] at h'; exact h'.elim
          | true =>
            rw [hr] at h'
            simp only [Bool.and_eq_true] at hr
            obtain ⟨v, hy, hA2, h2⟩ := stillOp_sound hA' hw h'
            have hrest := ih _ _ _ _ _ _ rfl hev hA2 (hSf'.trans ((SameFr.dst v).mono (hmo hi))) hS h2
            cases b with
            | true =>
              have hs : s = true := by simpa using hr.2.2
              exact wpAnyN_take hi hns hr.2.1 hr.1 (.inr ⟨mem_readers hi hst, rfl⟩) (fun c a w hq => absurd hq (hpan c _ w)) hy (hS hs) hrest
            | false => exact wpAnyN_take hi hns hr.2.1 hr.1 (.inl fun _ => trivial) (fun c a w hq => absurd hq (hpan c _ w)) hy trivial hrest
        | none =>
          simp only [hst] at h'
          cases hr : (Region.ready .any ops listed == [i]) with
          | false => rw [hr] at h'; exact h'.elim
          | true =>
            rw [hr] at h'
            refine wpAnyN_all (eq_of_beq hr) (by simp) fun j hj => ?_
            obtain rfl := List.mem_singleton.1 hj
            exact act hi hA' hSf' hw h' fun fr2 a2 w2 hA2 hS2 hSw h2 => ih _ _ _ _ _ _ rfl hev hA2 hS2 hSw h2
      · cases hr : ((Region.ready .any ops listed).contains i && (Region.free .any ops listed i && fits n o.dst)) with
        | false => rw [hr] at h'; exact h'.elim
        | true =>
          rw [hr] at h'
          simp only [Bool.and_eq_true] at hr
          exact wpAnyN_take (T := fun _ => True) hi hns hr.2.1 hr.1 (.inl fun _ => trivial) (fun c a w hq => absurd hq (hpan c _ w)) (.inr ⟨hw, rfl⟩) trivial
            (ih _ _ _ _ _ _ rfl hev (hA'.put hr.2.2 undef) (hSf'.trans ((SameFr.dst undef).mono (hmo hi))) hS h')
  | two i j ri rj ihi ihj =>
    intro fuel s listed fr a w hlen hev hA hSf hS h
    simp only [Od.len] at hlen
    simp only [Od.even, Bool.and_eq_true] at hev
    have hlij : ri.len = rj.len := Nat.eq_of_beq_eq_true hev.1
    subst hlen
    unfold compDraw at h
    cases hi : ops[i]? with
    | none => simp only [hi] at h
    | some oi =>
      cases hj : ops[j]? with
      | none => simp only [hi, hj] at h
      | some oj =>
        simp only [hi, hj] at h
        cases hr : (Region.ready .any ops listed == [i, j] && (oi.guard.isNone && oj.guard.isNone)) with
        | false => rw [hr] at h; exact h.elim
        | true =>
          rw [hr] at h
          simp only [Bool.and_eq_true, Option.isNone_iff_eq_none] at hr
          obtain ⟨hr1, hgi, hgj⟩ := hr
          obtain ⟨h1, h2⟩ := h
          refine wpAnyN_all (eq_of_beq hr1) (by simp) fun x hx => ?_
          rcases List.mem_cons.1 hx with rfl | hx
          · exact act hi hA hSf (wanted_none hgi _) h1 fun fr2 a2 w2 hA2 hS2 hSw h2 => ihi _ _ _ _ _ _ (by omega) hev.2.1 hA2 hS2 hSw h2
          · obtain rfl := List.mem_singleton.1 hx
            exact act hj hA hSf (wanted_none hgj _) h2 fun fr2 a2 w2 hA2 hS2 hSw h2 => ihj _ _ _ _ _ _ (by omega) hev.2.2 hA2 hS2 hSw h2
  | rd i r ih =>
    intro fuel s listed fr a w hlen hev hA hSf hS h
    simp only [Od.len] at hlen
    subst hlen
    simp only [Od.even] at hev
    unfold compDraw at h
    cases hi : ops[i]? with
    | none => simp only [hi] at h
    | some o =>
      simp only [hi] at h
      rcases guarded_elim h hA hSf with ⟨hw, fr', hA', hSf', h'⟩ | ⟨hw, fr', hA', hSf', h'⟩
      · cases hr : (Region.ready .any ops listed == [i] && (!isSelect o.op && (o.op.operands.all (known n fr') && fits n o.dst))) with
        | false => rw [hr] at h'; exact h'.elim
        | true =>
          rw [hr] at h'
          simp only [Bool.and_eq_true, Bool.not_eq_true'] at hr
          obtain ⟨hr1, hs, hk, hf⟩ := hr
          obtain ⟨v, hv, ht⟩ := h'
          have he := hA'.exec hs hk
          rw [he] at hv
          have h2 := tyR_cur _ _ _ _ ht
          refine wpAnyN_all (eq_of_beq hr1) (by simp) fun j hj => ?_
          obtain rfl := List.mem_singleton.1 hj
          unfold wpOpIn
          simp only [hi, hw, if_true]
          refine upon_of_run hs hv ⟨fun _ hSw => hSw, ?_⟩
          exact ih _ _ _ _ _ _ rfl hev (hA'.put hf v) (hSf'.trans ((SameFr.dst v).mono (hmo hi))) hS h2
      · cases hr : ((Region.ready .any ops listed).contains i && (Region.free .any ops listed i && fits n o.dst)) with
        | false => rw [hr] at h'; exact h'.elim
        | true =>
          rw [hr] at h'
          simp only [Bool.and_eq_true] at hr
          exact wpAnyN_take (T := fun _ => True) hi hns hr.2.1 hr.1 (.inl fun _ => trivial) (fun c a w hq => absurd hq (hpan c _ w)) (.inr ⟨hw, rfl⟩) trivial
            (ih _ _ _ _ _ _ rfl hev (hA'.put hr.2.2 undef) (hSf'.trans ((SameFr.dst undef).mono (hmo hi))) hS h')
/-! the code -/
inductive Hi where
  | f (ks : List Kd) (rt : Bool) (es : List Nat) (a b : Hi) | l | n (a b : Hi) | j (ts : List (Nat × Kd)) (h : Hi) | o (od : Od) | p (ts : List (Nat × Kd)) (h : Hi) | e (k1 k2 : Kd)
def Hi.jo : Hi → Option (List (Nat × Kd))
  | .j ts _ => some ts
  | _ => none
def Hi.core : Hi → Hi
  | .j _ h => h
  | h => h
def Hi.ks (h : Hi) : List Kd := match h.core with
  | .f ks _ _ _ _ => ks
  | _ => []
def Hi.rt (h : Hi) : Bool := match h.core with
  | .f _ rt _ _ _ => rt
  | _ => false
def Hi.es (h : Hi) : List Nat := match h.core with
  | .f _ _ es _ _ => es
  | _ => []
def Hi.a (h : Hi) : Hi := match h.core with
  | .f _ _ _ a _ => a
  | .n a _ => a
  | .p _ a => a
  | _ => .l
def Hi.b (h : Hi) : Hi := match h.core with
  | .f _ _ _ _ b => b
  | .n _ b => b
  | _ => .l
def Hi.od (h : Hi) : Od := match h.core with
  | .o od => od
  | _ => .nil
def Hi.ek (h : Hi) : Kd × Kd := match h.core with
  | .e k1 k2 => (k1, k2)
  | _ => (.raw, .raw)
def Hi.ts (h : Hi) : List (Nat × Kd) := match h.core with
  | .p ts _ => ts
  | _ => []
def getK : (k : Kd) → Value → (k.T → WP) → WP
  | .raw, v, f => f v
  | .int k, v, f => match v with
    | .int k' n => match decide (k' = k) with
      | true => f n
      | false => fun _ => False
    | _ => fun _ => False
  | .bool, v, f => match v with
    | .bool b => f b
    | _ => fun _ => False
  | .str, v, f => match v with
    | .string b => f b
    | _ => fun _ => False
def passF : (ts : List (Nat × Kd)) → Fr → AS ts → WP
  | [], _, j => j
  | p :: r, fr, j => match look fr p.1 with
    | some v => getK p.2 v fun x => passF r fr (j x)
    | none => fun _ => False
def takeF : (ts : List (Nat × Kd)) → (Fr → WP) → Fr → AS ts
  | [], f, fr => f fr
  | p :: r, f, fr => fun x => takeF r f ((p.1, p.2.mk x) :: fr)
def restF : Fr → List Nat → Fr
  | [], _ => []
  | (i, v) :: r, ms => match memN ms i with
    | true => restF r ms
    | false => (i, v) :: restF r ms
def joinK (ts : List (Nat × Kd)) (m : AS ts → WP) (k : AS ts) : WP := m k
def AS.imp : (ts : List (Nat × Kd)) → AS ts → AS ts → Prop
  | [], A, B => ∀ w, (A : WP) w → (B : WP) w
  | p :: ts, A, B => ∀ x : p.2.T, AS.imp ts (A x) (B x)
def AS.ex {ι : Type} : (ts : List (Nat × Kd)) → (ι → AS ts) → AS ts
  | [], f => fun w => ∃ i, (f i : WP) w
  | _ :: ts, f => fun x => AS.ex ts fun i => f i x
def AS.lt (ts : List (Nat × Kd)) (I : Nat → AS ts) (n : Nat) : AS ts := AS.ex ts fun m : { m : Nat // m < n } => I m.1
/-- a loop: 'init' hands the slots' first values on; 'body': what to prove where a round begins, given what a round's end must show -/
def loopK (ts : List (Nat × Kd)) (init : AS ts → WP) (body : AS ts → AS ts) : WP := fun w =>
  ∃ I : Nat → AS ts, (∃ n, init (I n) w) ∧ ∀ n, AS.imp ts (I n) (body (AS.lt ts I n))
def modsC (n : Nat) : Code → List Nat
  | .region _ ops _ => modsL ops.toList
  | .seq a b => modsC n a ++ modsC n b
  | .cond _ a b => modsC n a ++ modsC n b
  | .block _ c => modsC n c
  | .loop c => modsC n c
  | .scope c => modsC n c
  | .rangeFunc .. => [n]
  | _ => []
def thenK (k : Fr → WP) (K : Exit → Fr → WP) (e : Exit) (fr : Fr) : WP := match e with
  | .normal => k fr
  | _ => K e fr
def blockK (id : Nat) (K : Exit → Fr → WP) (e : Exit) (fr : Fr) : WP := match e with
  | .exit i => match Nat.beq i id with
    | true => K .normal fr
    | false => K e fr
  | _ => K e fr
def scopeK (K : Exit → Fr → WP) (e : Exit) (fr : Fr) : WP := match e with
  | .goto _ => fun _ => False
  | _ => K e fr
def joinH (n : Nat) (jo : Option (List (Nat × Kd))) (fr : Fr) (ms : List Nat) (core : (Exit → Fr → WP) → WP) (K : Exit → Fr → WP) : WP :=
  match jo with
  | none => core K
  | some ts => match memN ms n with
    | true => fun _ => False
    | false => joinK ts (fun j => core (thenK (fun fr' => passF ts fr' j) K)) (takeF ts (K .normal) (restF fr ms))
/-! a range over a function -/
def AF (X : Type) : List Kd → Type
  | [] => X
  | k :: ks => k.T → AF X ks
def curF {X : Type} : (ks : List Kd) → (acc : List Value) → (List Value → X) → AF X ks
  | [], acc, f => f acc.reverse
  | k :: ks, acc, f => fun x => curF ks (k.mk x :: acc) f
def unF {X : Type} : (ks : List Kd) → List Value → AF X ks → (X → WP) → WP
  | [], [], b, f => f b
  | k :: ks, v :: vs, b, f => getK k v fun x => unF ks vs (b x) f
  | _, _, _, _ => fun _ => False
/-- what is asked behind a round: by the way in which it is left -/
abbrev Dn := Option Code → WP
def putPs : Fr → List Tmp → List Value → Fr
  | fr, t :: ts, v :: vs => putPs ((t, v) :: fr) ts vs
  | fr, _, _ => fr
/-- a loop's record, and that a round of it runs as 'B' says -/
structure RecOk (P : Program) (r : Loop) (ks : List Kd) (B : Nat → AF (Dn → WP) ks) : Prop where
  state : r.state = .ready
  pending : r.pending = none
  params : r.params.size = ks.length
  round : ∀ (l : Nat) (args : List Value) (R : Value → WP) (W : World),
    unF ks args (B l) (fun b => b fun j W' => ∃ v W'', (Instr.endRound l j).run P W' = .ok v W'' ∧ R v W'') W →
    RoundIn Fence.wide 0 P l r.fn ((r.params.zip args.toArray).foldl (fun tmps (t, a) => tmps.setIfInBounds t a) r.tmps) r.assign r.body W fun e W' => ∃ v, e = .returned v ∧ R v W'
/-- a range over a function: 'B' what a round asks, 'k' what is asked behind it all: the number of the block of the deferred calls, and the jump by which a round has left -/
def RfK (P : Program) (g : Value) (ks : List Kd) (B : Nat → AF (Dn → WP) ks) (k : Nat → Option Code → WP) : WP := fun w =>
  ∃ f first cap, g = .func (.func f) first cap ∧ callable P f = true ∧
    ∀ r : Loop, RecOk P r ks B → r.defers = w.heap.size →
      CallK P f (first ++ #[.func (.yield (w.heap.size + 1)) #[] #[]] ++ cap) (fun _ w3 => ∃ j w4, (Instr.endLoop (w.heap.size + 1)).run P w3 = .ok j w4 ∧ k w.heap.size j w4)
        ((w.alloc (.deferred (some []))).alloc (.loop r))
/-- the record is busy from here -/
def BgK (P : Program) (l : Nat) (c : WP) : WP := fun w => ∃ w2, (Instr.beginRound l).run P w = .ok () w2 ∧ c w2
def doneK (done : Dn) (e : Exit) (_ : Fr) : WP := match e with
  | .normal => done none
  | .ret => done (some .ret)
  | .exit i => done (some (.exit i))
  | .goto t => done (some (.goto t))
  | _ => fun _ => False
def asgK (k : Fr → WP) (e : Exit) (fr : Fr) : WP := match e with
  | .normal => k fr
  | _ => fun _ => False
def lookE : List (Nat × WP) → Nat → WP
  | [], _ => fun _ => False
  | (i, c) :: r, e => match Nat.beq i e with
    | true => c
    | false => lookE r e
/-- behind a range over a function: off its end, by 'ret', by an exit -/
def JmK (kn kr : WP) (es : List (Nat × WP)) : Option Code → WP
  | none => kn
  | some .ret => kr
  | some (.exit i) => lookE es i
  | _ => fun _ => False
def jumpK (rt : Bool) (es : List Nat) (K : Exit → Fr → WP) (fr : Fr) : Option Code → WP :=
  JmK (K .normal fr) (match rt with | true => K .ret fr | false => fun _ => False) (es.map fun i => (i, K (.exit i) fr))
theorem lookE_elim {K : Nat → WP} {i : Nat} {w : World} : ∀ (es : List Nat), lookE (es.map fun i => (i, K i)) i w → K i w
  | [], h => h.elim
  | e :: es, h => by
    simp only [List.map_cons, lookE] at h
    cases hb : Nat.beq e i with
    | true => rw [hb] at h; rw [← Nat.eq_of_beq_eq_true hb]; exact h
    | false => rw [hb] at h; exact lookE_elim es h
def comp (cx : Cx) (n : Nat) (top : Bool) : Code → Hi → Fr → (Exit → Fr → WP) → WP
  | .skip, _, fr, K => K .normal fr
  | .label _, _, fr, K => K .normal fr
  | .exit id, _, fr, K => K (.exit id) fr
  | .goto l, _, fr, K => K (.goto l) fr
  | .ret, _, fr, K => K .ret fr
  | .region _ ops false, h, fr, K => joinH n h.jo fr (modsL ops.toList) (fun K => compList cx n h.ek ops ops.toList fr (K .normal)) K
  | .region _ ops true, h, fr, K => joinH n h.jo fr (modsL ops.toList) (fun K =>
      match noSel ops && (Nat.beq h.od.len ops.size && h.od.even) with
      | true => DrawK fun S => compDraw cx n ops (readers cx ops) S h.od true (Array.replicate ops.size false) fr (K .normal)
      | false => fun _ => False) K
  | .seq a b, h, fr, K => joinH n h.jo fr (modsC n (.seq a b)) (fun K => comp cx n top a h.a fr (thenK (fun fr' => comp cx n top b h.b fr' K) K)) K
  | .cond c a b, h, fr, K => joinH n h.jo fr (modsC n (.cond c a b)) (fun K => match known n fr c, evalF fr c with
      | true, .bool t => condK t (comp cx n top a h.a fr K) (comp cx n top b h.b fr K)
      | _, _ => fun _ => False) K
  | .block id c, h, fr, K => joinH n h.jo fr (modsC n c) (fun K => comp cx n top c h.a fr (blockK id K)) K
  | .scope c, h, fr, K => joinH n h.jo fr (modsC n c) (fun K => comp cx n top c h.a fr (scopeK K)) K
  | .rangeFunc g ps as body, h, fr, K => match top && (known n fr g && ((look fr n).isNone && (Nat.beq ps.size h.ks.length && ps.toList.all fun t => Nat.blt t n))) with
    | true => RfK cx.P (evalF fr g) h.ks (fun l => curF h.ks [] fun vs done => comp cx n false as h.a (putPs fr ps.toList vs) (asgK fun fr' => BgK cx.P l (comp cx n false body h.b fr' (doneK done))))
        (fun r => jumpK h.rt h.es K ((n, .pointer (some ⟨r, 0, none⟩)) :: fr))
    | false => fun _ => False
  | .loop c, h, fr, K => match memN (modsC n c) n with
    | true => fun _ => False
    | false => loopK h.ts (fun j => passF h.ts fr j) (fun cont =>
      takeF h.ts (fun fr' => comp cx n top c h.a fr' (thenK (fun fr'' => passF h.ts fr'' cont) K)) (restF fr (modsC n c)))
  | _, _, _, _ => fun _ => False

def Post (n : Nat) (fr : Fr) (ms : List Nat) (K : Exit → Fr → WP) (e : Exit) (a : Act) (w : World) : Prop :=
  match e with
  | .panic _ | .outgrown => False
  | e => ∃ fr', Agrees n fr' a ∧ SameFr ms fr fr' ∧ K e fr' w
theorem memN_iff (l : List Nat) (i : Nat) : memN l i = true ↔ i ∈ l := by
  induction l with
  | nil => simp [memN]
  | cons x l ih =>
    simp only [memN, List.mem_cons]
    cases hb : Nat.beq x i with
    | true => simp [Nat.eq_of_beq_eq_true hb]
    | false =>
      have hne := Nat.ne_of_beq_eq_false hb
      simp [ih]
      intro e
      exact absurd e.symm hne
theorem look_rest (fr : Fr) (ms : List Nat) (i : Nat) : look (restF fr ms) i = if i ∈ ms then none else look fr i := by
  induction fr with
  | nil => simp [restF, look]
  | cons p r ih =>
    obtain ⟨j, v⟩ := p
    simp only [restF]
    cases hm : memN ms j with
    | true =>
      have hj := (memN_iff ms j).1 hm
      simp only [ih, look_cons]
      by_cases hi : i ∈ ms
      · simp [hi]
      · rw [if_neg hi, if_neg hi, if_neg (fun (e : j = i) => hi (e ▸ hj))]
    | false =>
      have hj : ¬ j ∈ ms := fun h => by rw [(memN_iff ms j).2 h] at hm; cases hm
      simp only [look_cons, ih]
      by_cases he : j = i
      · subst he; simp [hj]
      · simp [he]
theorem SameFr.rest (fr : Fr) (ms : List Nat) : SameFr ms fr (restF fr ms) := fun i hi => by rw [look_rest, if_neg hi]
theorem Agrees.rest {n : Nat} {fr fr' : Fr} {a : Act} {ms : List Nat} (hn : n ∉ ms) (h : Agrees n fr' a) (hs : SameFr ms fr fr') : Agrees n (restF fr ms) a :=
  ⟨h.size, h.defers.trans (dfs_congr (by rw [look_rest, if_neg hn, hs n hn])), fun i v hin hv => by
    rw [look_rest] at hv
    by_cases hi : i ∈ ms
    · rw [if_pos hi] at hv; cases hv
    · rw [if_neg hi] at hv; exact h.at_ i v hin (by rw [hs i hi]; exact hv)⟩
theorem getK_elim {k : Kd} {v : Value} {f : k.T → WP} {w : World} (h : getK k v f w) : ∃ x, v = k.mk x ∧ f x w := by
  cases k with
  | raw => exact ⟨v, rfl, h⟩
  | int kd =>
    simp only [getK] at h
    cases v <;> simp only at h <;> try exact h.elim
    rename_i k' m
    cases hd : decide (k' = kd) with
    | true => rw [hd] at h; obtain rfl := of_decide_eq_true hd; exact ⟨m, rfl, h⟩
    | false => rw [hd] at h; exact h.elim
  | bool => simp only [getK] at h; cases v <;> simp only at h <;> first | exact h.elim | exact ⟨_, rfl, h⟩
  | str => simp only [getK] at h; cases v <;> simp only at h <;> first | exact h.elim | exact ⟨_, rfl, h⟩
theorem getK_mk {k : Kd} {x : k.T} {f : k.T → WP} : getK k (k.mk x) f = f x := by
  cases k with
  | int kd => simp [getK, Kd.mk]
  | _ => rfl
theorem pass_take {n : Nat} {ms : List Nat} {fr fr' : Fr} {a : Act} {w : World} (hA : Agrees n fr' a) (hS : SameFr ms fr fr') :
    ∀ (ts : List (Nat × Kd)) (f : Fr → WP) (base : Fr), Agrees n base a → SameFr ms fr base → passF ts fr' (takeF ts f base) w →
      ∃ fr2, Agrees n fr2 a ∧ SameFr ms fr fr2 ∧ f fr2 w
  | [], f, base, hb, hs, h => ⟨base, hb, hs, h⟩
  | p :: ts, f, base, hb, hs, h => by
    simp only [passF] at h
    cases hl : look fr' p.1 with
    | none => rw [hl] at h; exact h.elim
    | some v =>
      rw [hl] at h
      obtain ⟨x, hx, h⟩ := getK_elim h
      refine pass_take hA hS ts f _ ?_ ?_ h
      · refine ⟨hb.size, ?_, fun i u hin hu => ?_⟩
        · by_cases e : p.1 = n
          · exact hA.defers.trans (dfs_congr (by rw [look_cons, if_pos e, ← e, hl, hx]))
          · exact hb.defers.trans (dfs_congr (by rw [look_cons, if_neg e]))
        rw [look_cons] at hu
        by_cases e : p.1 = i
        · subst e; rw [if_pos rfl] at hu; cases hu; exact hA.at_ _ _ hin (hx ▸ hl)
        · rw [if_neg e] at hu; exact hb.at_ i u hin hu
      · intro i hi
        rw [look_cons]
        by_cases e : p.1 = i
        · subst e; rw [if_pos rfl, ← hS _ hi, hl, hx]
        · rw [if_neg e]; exact hs i hi
theorem pass_imp {fr : Fr} {w : World} : ∀ (ts : List (Nat × Kd)) (A B : AS ts), AS.imp ts A B → passF ts fr A w → passF ts fr B w
  | [], A, B, h, k => h w k
  | p :: ts, A, B, h, k => by
    simp only [passF] at k ⊢
    cases hl : look fr p.1 with
    | none => rw [hl] at k; exact k.elim
    | some v =>
      rw [hl] at k
      have k' : getK p.2 v (fun x => passF ts fr (A x)) w := k
      obtain ⟨x, hx, k2⟩ := getK_elim k'
      subst hx
      simp only [getK_mk]
      exact pass_imp ts _ _ (h x) k2
theorem pass_ex {ι : Type} {fr : Fr} {w : World} : ∀ (ts : List (Nat × Kd)) (f : ι → AS ts), passF ts fr (AS.ex ts f) w → ∃ i, passF ts fr (f i) w
  | [], _, h => h
  | p :: ts, f, h => by
    simp only [passF] at h ⊢
    cases hl : look fr p.1 with
    | none => rw [hl] at h; exact h.elim
    | some v =>
      rw [hl] at h
      have h' : getK p.2 v (fun x => passF ts fr (AS.ex ts fun i => f i x)) w := h
      obtain ⟨x, hx, h2⟩ := getK_elim h'
      subst hx
      simp only [getK_mk]
      exact pass_ex ts _ h2
theorem wp_loop' {ro : Option Nat} {P : Program} {Q : Exit → Act → World → Prop} {c : Code} (I : Nat → Act → World → Prop) {a : Act} {w : World} (h₀ : ∃ n, I n a w)
    (round : ∀ n a w, I n a w → c.wpIn (Fw ro) 0 P (Exit.then (fun a' w' => ∃ m, m < n ∧ I m a' w') Q) a w) : (Code.loop c).wpIn (Fw ro) 0 P Q a w := by
  intro b k cs hro hb hr
  have key : ∀ n a w, I n a w →
      ∃ e a' w', Q e a' w' ∧ ArrivesIn (Machine.fenced P (Fw ro)) P (lone (b.atR a (.code c :: .inLoop c :: k)) cs w) b k cs e a' w' := by
    intro n
    induction n using Nat.strongRecOn with
    | _ n ih =>
      intro a w hI
      obtain ⟨e, a₁, w₁, hq, harr⟩ := round n a w hI b (.inLoop c :: k) cs hro hb hr
      cases e with
      | normal =>
        obtain ⟨m, hlt, hI₁⟩ := hq
        obtain ⟨e₂, a₂, w₂, hq₂, harr₂⟩ := ih m hlt a₁ w₁ hI₁
        exact ⟨e₂, a₂, w₂, hq₂, .of_steps (StepsIn.trans harr (.one (fenced_calm hb hr rfl) stepR_inLoop)) harr₂⟩
      | exit id => exact ⟨_, a₁, w₁, hq, .pass (x := .inLoop c) rfl (fun _ _ => .inl (by simp)) harr⟩
      | goto l => exact ⟨_, a₁, w₁, hq, .pass (x := .inLoop c) rfl (fun _ _ => .inl (by simp)) harr⟩
      | ret => exact ⟨_, a₁, w₁, hq, .pass (x := .inLoop c) rfl (fun _ _ => .inl (by simp)) harr⟩
      | panic ch => exact ⟨_, a₁, w₁, hq, .pass (x := .inLoop c) rfl (fun _ _ => .inl (by simp)) harr⟩
      | outgrown => exact ⟨_, a₁, w₁, hq, .pass (x := .inLoop c) rfl (fun _ _ => .inl (by simp)) harr⟩
  obtain ⟨n, h₀⟩ := h₀
  obtain ⟨e, a', w', hq, harr⟩ := key n a w h₀
  exact ⟨e, a', w', hq, .of_steps (.one (fenced_calm hb hr rfl) stepR_loop) harr⟩
theorem stepR_scope {P : Program} {b : Frame} {a : Act} {k : List Item} {cs : List Frame} {w : World} {c : Code} : step P (lone (b.atR a (.code (.scope c) :: k)) cs w) = .next (lone (b.atR a (.code c :: .inScope c :: k)) cs w) :=
  step_lone_go (by simp [stepG, stepG.exec, Frame.atR])
theorem stepR_inScope {P : Program} {b : Frame} {a : Act} {k : List Item} {cs : List Frame} {w : World} {c : Code} : step P (lone (b.atR a (.inScope c :: k)) cs w) = .next (lone (b.atR a k) cs w) :=
  step_lone_go (by simp [stepG, stepG.exec, Frame.atR])
theorem wpIn_scope_straight {ro : Option Nat} {P : Program} {Q : Exit → Act → World → Prop} {a : Act} {w : World} {c : Code} (h : c.wpIn (Fw ro) 0 P (Exit.noGoto Q) a w) : (Code.scope c).wpIn (Fw ro) 0 P Q a w := by
  intro b k cs hro hb hr
  have h0 : (lone (b.atR a (.code (.scope c) :: k)) cs w).fenced P (Fw ro) := fenced_calm hb hr rfl
  obtain ⟨e, a₁, w₁, hq, harr⟩ := h b (.inScope c :: k) cs hro hb hr
  have hx : ∀ id, exitTo id (.inScope c :: k) = exitTo id k := fun id => by simp [exitTo]
  cases e with
  | normal => exact ⟨.normal, a₁, w₁, hq, .head h0 stepR_scope (StepsIn.trans harr (.one (fenced_calm hb hr rfl) stepR_inScope))⟩
  | exit id => exact ⟨.exit id, a₁, w₁, hq, fun k' hk => .head h0 stepR_scope (harr.1 k' (by rw [hx]; exact hk)),
        fun hr' hk => let ⟨k₁, h1, h2⟩ := harr.2 hr' (by rw [hx]; exact hk); ⟨k₁, h1, .head h0 stepR_scope h2⟩⟩
  | goto l => exact hq.elim
  | ret => exact ⟨_, a₁, w₁, hq, .of_steps (.one h0 stepR_scope) harr⟩
  | panic ch => exact ⟨_, a₁, w₁, hq, .of_steps (.one h0 stepR_scope) harr⟩
  | outgrown => exact ⟨_, a₁, w₁, hq, .of_steps (.one h0 stepR_scope) harr⟩
theorem Post.imp {n : Nat} {fr fr0 : Fr} {ms ms0 : List Nat} {K K' : Exit → Fr → WP} {e : Exit} {a : Act} {w : World} (h : Post n fr ms K e a w)
    (hf : ∀ fr', Agrees n fr' a → SameFr ms fr fr' → K e fr' w → ∃ fr2, Agrees n fr2 a ∧ SameFr ms0 fr0 fr2 ∧ K' e fr2 w) : Post n fr0 ms0 K' e a w := by
  cases e <;> simp only [Post] at h ⊢ <;> first | exact h.elim | (obtain ⟨fr', h1, h2, h3⟩ := h; exact hf fr' h1 h2 h3)
theorem joinH_sound {ro : Option Nat} {cx : Cx} {n : Nat} {c : Code} {jo : Option (List (Nat × Kd))} {fr : Fr} {ms : List Nat} {core : (Exit → Fr → WP) → WP} {K : Exit → Fr → WP} {a : Act} {w : World}
    (hcore : ∀ K, core K w → c.wpIn (Fw ro) 0 cx.P (Post n fr ms K) a w) (h : joinH n jo fr ms core K w) : c.wpIn (Fw ro) 0 cx.P (Post n fr ms K) a w := by
  cases jo with
  | none => exact hcore K h
  | some ts =>
    simp only [joinH] at h
    cases hm : memN ms n with
    | true => rw [hm] at h; exact h.elim
    | false =>
      rw [hm] at h
      have hn : n ∉ ms := fun hh => by rw [(memN_iff ms n).2 hh] at hm; cases hm
      refine wpIn_mono (hcore _ h) fun e a w hp => hp.imp fun fr' hA hS hK => ?_
      cases e with
      | normal => exact pass_take hA hS ts _ _ (hA.rest hn hS) (SameFr.rest fr ms) hK
      | _ => exact ⟨fr', hA, hS, hK⟩
theorem putPs_ok {n : Nat} : ∀ (ps : List Tmp) (vs : List Value) (fr : Fr) (tmps : Array Value), (∀ t ∈ ps, t < n) → ps.length = vs.length → Agrees n fr { tmps := tmps, defers := [] } →
    Agrees n (putPs fr ps vs) { tmps := (ps.zip vs).foldl (fun tmps (t, a) => tmps.setIfInBounds t a) tmps, defers := [] }
  | [], [], fr, tmps, _, _, h => h
  | t :: ps, v :: vs, fr, tmps, ht, hl, h => by
    have := h.put (d := some t) (by simpa [fits, Nat.blt_eq] using ht t (by simp)) v
    exact putPs_ok ps vs _ _ (fun x hx => ht x (by simp [hx])) (by simpa using hl) this
theorem unF_cur {X : Type} : ∀ (ks : List Kd) (vs acc : List Value) (f : List Value → X) (g : X → WP) (w : World), unF ks vs (curF ks acc f) g w → vs.length = ks.length ∧ g (f (acc.reverse ++ vs)) w
  | [], [], acc, f, g, w, h => ⟨rfl, by simpa [unF, curF] using h⟩
  | k :: ks, v :: vs, acc, f, g, w, h => by
    obtain ⟨x, hx, h2⟩ := getK_elim h
    subst hx
    obtain ⟨h3, h4⟩ := unF_cur ks vs _ f g w h2
    exact ⟨by simp [h3], by simpa using h4⟩
  | [], _ :: _, _, _, _, _, h => h.elim
  | _ :: _, [], _, _, _, _, h => h.elim
theorem comp_sound {cx : Cx} (hcx : cx.Ok) {n : Nat} : ∀ (c : Code) (ro : Option Nat) (top : Bool) (_ : top = true → ro = none) (h : Hi) (fr : Fr) (K : Exit → Fr → WP) (a : Act) (w : World),
    Agrees n fr a → comp cx n top c h fr K w → c.wpIn (Fw ro) 0 cx.P (Post n fr (modsC n c) K) a w := by
  intro c
  induction c with
  | skip => intro ro top htop h fr K a w hA hc; exact wpIn_skip ⟨fr, hA, SameFr.refl _ _, hc⟩
  | label l => intro ro top htop h fr K a w hA hc; exact wpIn_label ⟨fr, hA, SameFr.refl _ _, hc⟩
  | exit id => intro ro top htop h fr K a w hA hc; exact wpIn_exit ⟨fr, hA, SameFr.refl _ _, hc⟩
  | goto l => intro ro top htop h fr K a w hA hc; exact wpIn_goto ⟨fr, hA, SameFr.refl _ _, hc⟩
  | ret => intro ro top htop h fr K a w hA hc; exact wpIn_ret ⟨fr, hA, SameFr.refl _ _, hc⟩
  | region id ops draw =>
    intro ro top htop h fr K a w hA hc
    cases draw with
    | false =>
      refine joinH_sound (fun K hk => ?_) hc
      exact wpIn_region_list (compList_sound hcx (fun fr' a' w' h1 h2 h3 => ⟨fr', h1, h2, h3⟩) _ _ _ _ (fun _ hx => hx) hA (SameFr.refl _ _) hk)
    | true =>
      refine joinH_sound (fun K hk => ?_) hc
      cases hb : (noSel ops && (Nat.beq h.od.len ops.size && h.od.even)) with
      | false => rw [hb] at hk; exact hk.elim
      | true =>
        rw [hb] at hk
        simp only [Bool.and_eq_true] at hb
        obtain ⟨S, hS, hk⟩ := hk
        refine wpIn_region_any hcx.mixed (wpAny_of_N (S := S) (rd := readers cx ops) _ _ _ _ ?_)
        exact compDraw_sound hcx hb.1 (fun _ hx => hx) (fun _ _ _ hp => hp) (fun fr' a' w' h1 h2 h3 => ⟨fr', h1, h2, h3⟩) _ _ _ _ _ _ _ (Nat.eq_of_beq_eq_true hb.2.1) hb.2.2 hA (SameFr.refl _ _) (fun _ => hS) hk
  | seq x y ihx ihy =>
    intro ro top htop h fr K a w hA hc
    refine joinH_sound (fun K hk => ?_) hc
    refine wpIn_seq (wpIn_mono (ihx ro top htop _ _ _ _ _ hA hk) fun e a w hp => ?_)
    have hx : ∀ i, i ∈ modsC n x → i ∈ modsC n (.seq x y) := fun i hi => List.mem_append_left _ hi
    have hy : ∀ i, i ∈ modsC n y → i ∈ modsC n (.seq x y) := fun i hi => List.mem_append_right _ hi
    cases e with
    | normal =>
      obtain ⟨fr', hA', hS', hK⟩ := hp
      exact wpIn_mono (ihy ro top htop _ _ _ _ _ hA' hK) fun e a w hp => hp.imp fun fr2 h1 h2 h3 => ⟨fr2, h1, (hS'.mono hx).trans (h2.mono hy), h3⟩
    | panic c => exact hp.elim
    | outgrown => exact hp.elim
    | _ => exact Post.imp hp fun fr2 h1 h2 h3 => ⟨fr2, h1, h2.mono hx, h3⟩
  | cond c x y ihx ihy =>
    intro ro top htop h fr K a w hA hc
    refine joinH_sound (fun K hk => ?_) hc
    have hx : ∀ i, i ∈ modsC n x → i ∈ modsC n (.cond c x y) := fun i hi => List.mem_append_left _ hi
    have hy : ∀ i, i ∈ modsC n y → i ∈ modsC n (.cond c x y) := fun i hi => List.mem_append_right _ hi
    cases hkn : known n fr c with
    | false => simp only [hkn] at hk
    | true =>
      have he := hA.eval hkn
      simp only [hkn] at hk
      cases hv : evalF fr c with
      | bool t =>
        simp only [hv] at hk
        rw [hv] at he
        refine wpIn_cond (t := t) he.symm ?_
        cases t with
        | true => exact wpIn_mono (ihx ro top htop _ _ _ _ _ hA hk) fun e a w hp => hp.imp fun fr2 h1 h2 h3 => ⟨fr2, h1, h2.mono hx, h3⟩
        | false => exact wpIn_mono (ihy ro top htop _ _ _ _ _ hA hk) fun e a w hp => hp.imp fun fr2 h1 h2 h3 => ⟨fr2, h1, h2.mono hy, h3⟩
      | _ => simp only [hv] at hk
  | block id c ih =>
    intro ro top htop h fr K a w hA hc
    refine joinH_sound (fun K hk => ?_) hc
    refine wpIn_block (wpIn_mono (ih ro top htop _ _ _ _ _ hA hk) fun e a w hp => ?_)
    cases e with
    | exit i =>
      simp only [Exit.inBlock]
      obtain ⟨fr', hA', hS', hK⟩ := hp
      simp only [blockK] at hK
      cases hb : Nat.beq i id with
      | true => rw [hb] at hK; rw [if_pos (Nat.eq_of_beq_eq_true hb)]; exact ⟨fr', hA', hS', hK⟩
      | false => rw [hb] at hK; rw [if_neg (Nat.ne_of_beq_eq_false hb)]; exact ⟨fr', hA', hS', hK⟩
    | _ => exact hp
  | loop c ih =>
    intro ro top htop h fr K a w hA hc
    simp only [comp] at hc
    cases hm : memN (modsC n c) n with
    | true => rw [hm] at hc; exact hc.elim
    | false =>
    rw [hm] at hc
    have hn : n ∉ modsC n c := fun hh => by rw [(memN_iff _ n).2 hh] at hm; cases hm
    obtain ⟨I, h0, hI⟩ := hc
    refine wp_loop' (fun m a w => ∃ fr', Agrees n fr' a ∧ SameFr (modsC n c) fr fr' ∧ passF h.ts fr' (I m) w) ?_ ?_
    · obtain ⟨m, hm⟩ := h0; exact ⟨m, fr, hA, SameFr.refl _ _, hm⟩
    · rintro m a w ⟨fr', hA', hS', hp⟩
      obtain ⟨fr2, hA2, hS2, h2⟩ := pass_take hA' hS' h.ts _ _ (hA'.rest hn hS') (SameFr.rest fr _) (pass_imp _ _ _ (hI m) hp)
      refine wpIn_mono (ih ro top htop _ _ _ _ _ hA2 h2) fun e a w hp => ?_
      cases e with
      | normal =>
        obtain ⟨fr3, hA3, hS3, h3⟩ := hp
        obtain ⟨⟨m', hm'⟩, hmp⟩ := pass_ex _ _ h3
        exact ⟨m', hm', fr3, hA3, hS2.trans hS3, hmp⟩
      | panic c => exact hp.elim
      | outgrown => exact hp.elim
      | _ => exact Post.imp hp fun fr3 h1 h2 h3 => ⟨fr3, h1, hS2.trans h2, h3⟩
  | scope c ih =>
    intro ro top htop h fr K a w hA hc
    refine joinH_sound (fun K hk => ?_) hc
    refine wpIn_scope_straight (wpIn_mono (ih ro top htop _ _ _ _ _ hA hk) fun e a w hp => ?_)
    cases e with
    | goto l => obtain ⟨_, _, _, hK⟩ := hp; exact hK.elim
    | _ => exact hp
  | rangeFunc g ps x y ihx ihy =>
    intro ro top htop h fr K a w hA hc
    simp only [comp] at hc
    cases hb : (top && (known n fr g && ((look fr n).isNone && (Nat.beq ps.size h.ks.length && ps.toList.all fun t => Nat.blt t n)))) with
    | false => rw [hb] at hc; exact hc.elim
    | true =>
      rw [hb] at hc
      simp only [Bool.and_eq_true, Option.isNone_iff_eq_none] at hb
      obtain ⟨ht, hkn, hno, hps, hlt⟩ := hb
      obtain rfl := htop ht
      have hps := Nat.eq_of_beq_eq_true hps
      have hlt : ∀ t ∈ ps.toList, t < n := fun t htt => by simpa [Nat.blt_eq] using List.all_eq_true.1 hlt t htt
      obtain ⟨f, first, cap, hg, hcall, hc⟩ := hc
      have hd0 : a.defers = [] := by rw [hA.defers]; simp [dfs, hno]
      refine wpIn_rangeFunc fun fn _ => ?_
      refine ⟨w.heap.size + 1, [{ target := .collected w.heap.size, args := #[] }], ((w.alloc (.deferred (some []))).alloc (.loop { state := .ready, pending := none, fn, tmps := a.tmps, params := ps, assign := x, body := y, defers := w.heap.size })), { target := .fn (.func f) cap, args := first ++ #[.func (.yield (w.heap.size + 1)) #[] #[]] }, ((w.alloc (.deferred (some []))).alloc (.loop { state := .ready, pending := none, fn, tmps := a.tmps, params := ps, assign := x, body := y, defers := w.heap.size })), f,
        first ++ #[(.func (.yield (w.heap.size + 1)) #[] #[] : Value)] ++ cap, ((w.alloc (.deferred (some []))).alloc (.loop { state := .ready, pending := none, fn, tmps := a.tmps, params := ps, assign := x, body := y, defers := w.heap.size })), run_enterLoop_outer fn a.tmps ps x y, ?_, fun _ _ => trivial, (by exact callFunc_run hcall _ _), Fw.dp, callsFw ?_⟩
      · have he := hA.eval hkn
        rw [hg] at he
        have e2 : (#[Operand.const (.func (.yield (w.heap.size + 1)) #[] #[])]).map a.eval = #[.func (.yield (w.heap.size + 1)) #[] #[]] := by simp [Act.eval]
        simp only [resolve, e2, ← he]
        rfl
      · refine Calls.mono (hc _ ?_ rfl) ?_
        · refine ⟨rfl, rfl, hps, fun l args R W hB => ?_⟩
          obtain ⟨hlen, hB⟩ := unF_cur _ _ _ _ _ _ hB
          simp only [List.reverse_nil, List.nil_append] at hB
          refine roundIn_of_wpIn (F := Fence.wide) trivial ?_
          have hA0 : Agrees n fr { tmps := a.tmps, defers := [] } := ⟨hA.size, by simp [dfs, hno], hA.at_⟩
          have hA1 := putPs_ok ps.toList args fr a.tmps hlt (by simp [hps, hlen]) hA0
          have hA2 : Agrees n (putPs fr ps.toList args) { tmps := (ps.zip args.toArray).foldl (fun tmps (t, a) => tmps.setIfInBounds t a) a.tmps, defers := [] } := by
            rw [← Array.foldl_toList, Array.toList_zip]; exact hA1
          refine wpIn_mono (ihx (some l) false (fun h => by cases h) _ _ _ _ _ hA2 hB) fun e a1 w1 hp => ?_
          cases e with
          | normal =>
            obtain ⟨fr1, hA1, _, w2, hbg, hK⟩ := hp
            refine ⟨w2, hbg, wpIn_mono (ihy (some l) false (fun h => by cases h) _ _ _ _ _ hA1 hK) fun e a3 w3 hp => ?_⟩
            cases e with
            | normal => obtain ⟨_, _, _, v, W'', h1, h2⟩ := hp; exact ⟨v, W'', h1, v, rfl, h2⟩
            | ret => obtain ⟨_, _, _, v, W'', h1, h2⟩ := hp; exact ⟨v, W'', h1, v, rfl, h2⟩
            | exit i => obtain ⟨_, _, _, v, W'', h1, h2⟩ := hp; exact ⟨v, W'', h1, v, rfl, h2⟩
            | goto i => obtain ⟨_, _, _, v, W'', h1, h2⟩ := hp; exact ⟨v, W'', h1, v, rfl, h2⟩
            | panic c => exact hp.elim
            | outgrown => exact hp.elim
          | panic c => exact hp.elim
          | outgrown => exact hp.elim
          | _ => obtain ⟨_, _, _, hK⟩ := hp; exact hK.elim
        · rintro e w3 ⟨v, rfl, j, w4, hend, hk⟩
          have hA' : Agrees n ((n, .pointer (some ⟨w.heap.size, 0, none⟩)) :: fr) { a with defers := [{ target := .collected w.heap.size, args := #[] }] ++ a.defers } := by
            refine ⟨hA.size, ?_, fun i v hin hv => ?_⟩
            · simp [hd0, dfs, look_cons]
            · rw [look_cons, if_neg (by omega)] at hv; exact hA.at_ i v hin hv
          have hS' : SameFr [n] fr ((n, .pointer (some ⟨w.heap.size, 0, none⟩)) :: fr) := fun i hi => by
            rw [look_cons, if_neg (fun e => hi (by simp [e]))]
          refine ⟨j, w4, hend, ?_⟩
          cases j with
          | none => exact ⟨_, hA', hS', hk⟩
          | some c =>
            cases c <;> simp only [jumpK, JmK] at hk
            · exact wpIn_exit ⟨_, hA', hS', lookE_elim h.es hk⟩
            · cases hrt : h.rt with
              | true => rw [hrt] at hk; exact wpIn_ret ⟨_, hA', hS', hk⟩
              | false => rw [hrt] at hk; exact hk.elim
  | refuse why => intro ro top htop h fr K a w hA hc; exact hc.elim

/-! a function -/
def argsF : Nat → List Value → Fr
  | _, [] => []
  | i, v :: r => (i, v) :: argsF (i + 1) r
def vS (s : Sem Value) : Sem Next := do pure (.value (← s))
def resV (cx : Cx) (fr : Fr) : List ResultVar → List Value → (Value → WP) → WP
  | [], acc, K => match acc with
    | [v] => K v
    | _ => K (.tuple acc.reverse.toArray)
  | .tmp t :: r, acc, K => match look fr t with
    | some v => resV cx fr r (v :: acc) K
    | none => fun _ => False
  | .cell x t :: r, acc, K => match look fr x with
    | some v => RdK cx.P (cx.ty t) (vS (do loadVar t (← asAddr v))) (curR (cx.ty t) fun u => resV cx fr r (u :: acc) K)
    | none => fun _ => False
/-- the mark is come to at the end -/
def TkK (P : Program) (r : Nat) (c : WP) : WP := fun w => ∃ w', (Instr.takeDeferred r).run P w = .ok [] w' ∧ c w'
def takeK (P : Program) (n : Nat) (fr : Fr) (c : WP) : WP := match look fr n with
  | none => c
  | some (.pointer (some ⟨r, _, _⟩)) => TkK P r c
  | _ => fun _ => False
def resOk (n : Nat) : ResultVar → Bool
  | .tmp t => Nat.blt t n
  | .cell x _ => Nat.blt x n
/-- what is to be proved of a function's body -/
def fnK (cx : Cx) (fn : Func) (h : Hi) (args : List Value) (K : Value → WP) : WP :=
  match fn.body, Nat.ble args.length fn.ntmps && fn.results.toList.all (resOk fn.ntmps) with
  | some c, true => comp cx fn.ntmps true c h (argsF 0 args) fun e fr => match e with
    | .normal | .ret => takeK cx.P fn.ntmps fr (resV cx fr fn.results.toList [] K)
    | _ => fun _ => False
  | _, _ => fun _ => False
theorem look_args (l : List Value) : ∀ (k i : Nat) (v : Value), look (argsF k l) i = some v → k ≤ i ∧ l[i - k]? = some v := by
  induction l with
  | nil => intro k i v h; simp [argsF, look] at h
  | cons x l ih =>
    intro k i v h
    rw [argsF, look_cons] at h
    by_cases e : k = i
    · subst e; simp only [if_true, Option.some.injEq] at h; subst h; simp
    · rw [if_neg e] at h
      obtain ⟨h1, h2⟩ := ih _ _ _ h
      refine ⟨by omega, ?_⟩
      obtain ⟨m, rfl⟩ : ∃ m, i = k + 1 + m := ⟨i - (k + 1), by omega⟩
      have e1 : k + 1 + m - k = m + 1 := by omega
      have e2 : k + 1 + m - (k + 1) = m := by omega
      rw [e1, List.getElem?_cons_succ]; rwa [e2] at h2
theorem vS_run {P : Program} {s : Sem Value} {w : World} {v : Value} (h : (vS s).run P w = .ok (.value v) w) : s.run P w = .ok v w := by
  unfold vS at h
  rw [Sem.run_bind] at h
  generalize s.run P w = r at h
  cases r with
  | ok u w' => simp only [Result.andThen_ok, Sem.run_pure] at h; cases h; rfl
  | halt x w' => cases h
theorem resV_elim {cx : Cx} {fr : Fr} {a : Act} {w : World} {n : Nat} {K : Value → WP} (hA : Agrees n fr a) :
    ∀ (rs : List ResultVar) (acc : List Value), rs.all (resOk n) = true → resV cx fr rs acc K w → ∃ vs : List Value,
      (rs.mapM (m := Sem) (fun | .tmp t => pure (a.tmps.getD t undef) | .cell x t => do loadVar t (← asAddr (a.tmps.getD x undef)))).run cx.P w = .ok vs w ∧
      K (match (acc.reverse ++ vs) with | [v] => v | l => .tuple l.toArray) w
  | [], acc, _, h => by
    refine ⟨[], rfl, ?_⟩
    simp only [resV] at h
    rw [List.append_nil]
    match acc, h with
    | [], h => exact h
    | [v], h => exact h
    | v :: u :: r, h =>
      simp only at h
      generalize hl : (v :: u :: r).reverse = l at *
      have : 2 ≤ l.length := by rw [← hl]; simp
      match l, this with
      | _ :: _ :: _, _ => exact h
  | .tmp t :: r, acc, ho, h => by
    simp only [List.all_cons, Bool.and_eq_true, resOk, Nat.blt_eq] at ho
    simp only [resV] at h
    cases hl : look fr t with
    | none => rw [hl] at h; exact h.elim
    | some v =>
      rw [hl] at h
      obtain ⟨vs, h1, h2⟩ := resV_elim hA r (v :: acc) ho.2 h
      refine ⟨v :: vs, ?_, by simpa using h2⟩
      have := hA.at_ t v ho.1 hl
      have e : a.tmps.getD t undef = v := by simp [this]
      rw [List.mapM_cons]
      simp only [e, pure_bind]
      rw [Sem.run_bind, h1]
      rfl
  | .cell x t :: r, acc, ho, h => by
    simp only [List.all_cons, Bool.and_eq_true, resOk, Nat.blt_eq] at ho
    simp only [resV] at h
    cases hl : look fr x with
    | none => rw [hl] at h; exact h.elim
    | some v =>
      rw [hl] at h
      obtain ⟨u, hu, ht⟩ := h
      have h' := tyR_cur _ _ _ _ ht
      obtain ⟨vs, h1, h2⟩ := resV_elim hA r (u :: acc) ho.2 h'
      refine ⟨u :: vs, ?_, by simpa using h2⟩
      have := hA.at_ x v ho.1 hl
      have e : a.tmps.getD x undef = v := by simp [this]
      rw [List.mapM_cons]
      simp only [e]
      rw [Sem.run_bind, vS_run hu, Result.andThen_ok, Sem.run_bind, h1]
      rfl
theorem calls_of_comp {cx : Cx} (hcx : cx.Ok) {f : FuncId} {fn : Func} {h : Hi} {args : List Value} {K : Value → WP} {w : World} (hf : cx.P.funcs[f]? = some fn)
    (hk : fnK cx fn h args K w) : CallK cx.P f args.toArray K w := by
  unfold fnK at hk
  cases hb : fn.body with
  | none => simp only [hb] at hk
  | some c =>
    cases hn : (Nat.ble args.length fn.ntmps && fn.results.toList.all (resOk fn.ntmps)) with
    | false => simp only [hb, hn] at hk
    | true =>
      simp only [hb, hn] at hk
      simp only [Bool.and_eq_true] at hn
      have hle := Nat.le_of_ble_eq_true hn.1
      have hro := hn.2
      have hno : look (argsF 0 args) fn.ntmps = none := by
        cases hl : look (argsF 0 args) fn.ntmps with
        | none => rfl
        | some v =>
          obtain ⟨_, h2⟩ := look_args args 0 _ v hl
          have hi := (List.getElem?_eq_some_iff.1 h2).1
          omega
      refine (callsIn_wide (n := 0)).1 (callsIn_of_wp_marks hf hb trivial (wpIn_mono (show c.wpIn Fence.wide 0 cx.P _ _ _ from comp_sound hcx c none true (fun _ => rfl) h _ _ _ _ ?_ hk) fun e a w hp => ?_))
      · refine ⟨by simp; omega, by simp [dfs, hno], fun i v _ hv => ?_⟩
        obtain ⟨_, h2⟩ := look_args args 0 i v hv
        rw [Nat.sub_zero] at h2
        have hi : i < args.length := (List.getElem?_eq_some_iff.1 h2).1
        simp only [List.size_toArray, Array.getElem?_append, hi, if_true]
        simpa using h2
      · have fin0 : ∀ fr' w, Agrees fn.ntmps fr' a → resV cx fr' fn.results.toList [] K w → LeavesIn Fence.wide 0 cx.P fn a.tmps (fun e w'' => ∃ v, e = .returned v ∧ K v w'') [] .returning w := by
          intro fr' w hA hr
          obtain ⟨vs, h1, h2⟩ := resV_elim hA _ _ hro hr
          refine ⟨_, ?_, _, rfl, h2⟩
          unfold results
          rw [Array.mapM_eq_mapM_toList, Sem.run_bind]
          have key : ∀ m : Sem (List Value), m.run cx.P w = .ok vs w → (Sem.run cx.P (List.toArray <$> m) w).andThen (fun vs w => Sem.run cx.P (pure (if h : vs.size = 1 then vs[0] else Value.tuple vs)) w) =
              .ok (match [].reverse ++ vs with | [v] => v | l => .tuple l.toArray) w := by
            intro m hm
            have : Sem.run cx.P (List.toArray <$> m) w = .ok vs.toArray w := by
              rw [map_eq_pure_bind, Sem.run_bind, hm]; rfl
            rw [this]
            simp only [List.reverse_nil, List.nil_append, Result.andThen_ok]
            match vs with
            | [] => rfl
            | [v] => rfl
            | v :: u :: r => simp
          exact key _ h1
        have fin : ∀ fr', Agrees fn.ntmps fr' a → takeK cx.P fn.ntmps fr' (resV cx fr' fn.results.toList [] K) w → LeavesInM Fence.wide 0 cx.P fn a.tmps (fun e w'' => ∃ v, e = .returned v ∧ K v w'') a.defers .returning w := by
          intro fr' hA hr
          rw [hA.defers]
          unfold takeK at hr
          unfold dfs
          cases hl : look fr' fn.ntmps with
          | none => simp only [hl] at hr; exact fin0 fr' w hA hr
          | some v =>
            rw [hl] at hr
            cases v <;> first | exact hr.elim | skip
            rename_i ad
            cases ad with
            | none => exact hr.elim
            | some ad =>
              obtain ⟨r, x, y⟩ := ad
              obtain ⟨w', h1, h2⟩ := hr
              exact ⟨(by simp), .inl ⟨r, w', rfl, h1, fin0 fr' w' hA h2⟩⟩
        cases e with
        | normal => obtain ⟨fr', hA, _, hr⟩ := hp; exact fin fr' hA hr
        | ret => obtain ⟨fr', hA, _, hr⟩ := hp; exact fin fr' hA hr
        | _ => first | exact hp.elim | (obtain ⟨_, _, _, hr⟩ := hp; exact hr.elim)
def odL : List Nat → Od
  | [] => .nil
  | i :: r => .cons i (odL r)
def odR (i : Nat) : Nat → Od
  | 0 => .nil
  | n + 1 => .cons i (odR (i + 1) n)
def uS (s : Sem Unit) : Sem Next := do s; pure .skip
def bS (op : BinOp) (t : TypeId) (x y : Operand) (a b : Value) : Sem Next := vS (do eqGuard op t x y a b; binOp op t a b)
def callS (f : Value) (args : Array Value) : Sem Next := do let d ← Deferred.ofValue f args; invoke d.target d.args
def invokeS (r : Value) (name : String) (args : Array Value) : Sem Next := callMethod r name args
/-- the results handed on by their kinds -/
def unT : (ks : List Kd) → List Value → AL ks → WP
  | [], [], c => c
  | k :: ks, v :: vs, c => getK k v fun x => unT ks vs (c x)
  | _, _, _ => fun _ => False
def unR : (r : RK) → r.A → Value → WP
  | .one k, c, v => getK k v c
  | .tup ks, c, v => match v with
    | .tuple vs => unT ks vs.toList c
    | _ => fun _ => False
theorem unT_tyT : ∀ (ks : List Kd) (vs : List Value) (acc : List Value) (c : AL ks) (w : World), unT ks vs c w → tyT ks acc c (.tuple (acc.reverse ++ vs).toArray) w
  | [], [], acc, c, w, h => ⟨by simp, h⟩
  | k :: ks, v :: vs, acc, c, w, h => by
    obtain ⟨x, hx, h2⟩ := getK_elim h
    subst hx
    refine ⟨x, ?_⟩
    have := unT_tyT ks vs (k.mk x :: acc) (c x) w h2
    simpa using this
  | [], _ :: _, _, _, _, h => h.elim
  | _ :: _, [], _, _, _, h => h.elim
theorem unR_tyR (r : RK) (c : r.A) (v : Value) (w : World) (h : unR r c v w) : tyR r c v w := by
  cases r with
  | one k => exact getK_elim h
  | tup ks =>
    cases v <;> simp only [unR] at h <;> try exact h.elim
    rename_i vs
    have := unT_tyT ks vs.toList [] c w h
    simpa [tyR] using this
/-- A FUNCTION: what is printed of it is what its code comes to. -/
theorem fn_ok {cx : Cx} (hcx : cx.Ok) {f : FuncId} {fn : Func} {hi : Hi} {r : RK} {args : List Value} {K : r.A} {sh : WP} {w : World} (hf : cx.P.funcs[f]? = some fn)
    (e : fnK cx fn hi args (unR r K) = sh) (h : sh w) : FnK cx.P r f args.toArray K w := by
  subst e
  exact CallK.mono (fun v w hv => unR_tyR r K v w hv) (calls_of_comp hcx hf h)
theorem callables (P : Program) (l : List FuncId) (h : l.all (callable P) = true) (f : FuncId) (hf : memN l f = true) : callable P f = true :=
  List.all_eq_true.1 h f ((memN_iff l f).1 hf)
/-! a table of types -/
inductive D where
  | other | struct (fs : List (Nat × Nat)) | arr (n e : Nat) | sl (e : Nat) | mp (k e : Nat) | ptr (e : Nat) | int (k : IntKind) | str | bool | flt (k : FloatKind) | cpl (k : FloatKind)
structure TI where
  size : Nat
  bytes : Nat
  d : D
def dOf : TypeDesc → D
  | .struct fs => .struct (fs.toList.map fun f => (f.offset, f.type))
  | .array n e => .arr n e
  | .slice e => .sl e
  | .map k e => .mp k e
  | .pointer e => .ptr e
  | .int k => .int k
  | .string => .str
  | .bool => .bool
  | .float k => .flt k
  | .complex k => .cpl k
  | _ => .other
def tiOf (P : Program) (t : TypeId) : Option TI :=
  match P.info? t, P.underlying t with
  | some i, some d => some ⟨i.size, i.bytes, dOf d⟩
  | _, _ => none
def zeroOf (P : Program) (t : TypeId) : Option (List Value) := ((P.info? t).bind (·.zero)).map (·.cells.toList)
def lookTI {α : Type} : List (Nat × α) → Nat → Option α
  | [], _ => none
  | (i, x) :: l, t => match Nat.beq i t with
    | true => some x
    | false => lookTI l t
theorem lookTI_ok {α : Type} {f : Nat → Option α} : ∀ {l : List (Nat × α)} (_ : l.map (fun p => f p.1) = l.map (fun p => some p.2)) {t : Nat} {x : α}, lookTI l t = some x → f t = some x
  | [], _, _, _, h => by simp [lookTI] at h
  | (i, y) :: l, hl, t, x, h => by
    simp only [List.map_cons, List.cons.injEq] at hl
    simp only [lookTI] at h
    cases hb : Nat.beq i t with
    | true => rw [hb] at h; cases h; rw [← Nat.eq_of_beq_eq_true hb]; exact hl.1
    | false => rw [hb] at h; exact lookTI_ok hl.2 h
/-- the list at a place, of lists -/
def nthL {α : Type} : List (List α) → Nat → List α
  | [], _ => []
  | l :: _, 0 => l
  | _ :: r, n + 1 => nthL r n
theorem nthL_map {α β γ : Type} {f : α → β} {g : γ → β} {L : List (List α)} : ∀ (M : List (List γ)) (n : Nat), L.map (fun l => l.map f) = M.map (fun l => l.map g) → (nthL L n).map f = (nthL M n).map g := by
  induction L with
  | nil => intro M n h; cases M with
    | nil => rfl
    | cons a m => cases h
  | cons l L ih => intro M n h; cases M with
    | nil => cases h
    | cons a m =>
      simp only [List.map_cons, List.cons.injEq] at h
      cases n with
      | zero => exact h.1
      | succ n => exact ih m n h.2
theorem tiOf_spec {P : Program} {t : TypeId} {x : TI} (h : tiOf P t = some x) : ∃ i d, P.info? t = some i ∧ P.underlying t = some d ∧ i.size = x.size ∧ i.bytes = x.bytes ∧ dOf d = x.d := by
  unfold tiOf at h
  split at h
  · rename_i i d hi hd; cases h; exact ⟨i, d, hi, hd, rfl, rfl, rfl⟩
  · cases h
end Go.Proofs.YtiabhghlhnnnjaaGreatDoor.Sh
