/-
  FUNCTIONS AS PLAIN TERMS, printed by shx.py.
-/
import Derived.Test.YtgbihlbgkkpciaaWd
set_option linter.unusedVariables false
set_option maxRecDepth 100000
namespace Go.Proofs.Ytgbihlbgkkpciaa
open Go Sh
/- tollhouse/lru.New -/
def lru_New_sh (kept : Int) (K : Value → Int → WP) : WP :=
 condK (decide (kept < 0))
 (K (.pointer none) 1)
 (condK (decide (kept > 64))
 (K (.pointer none) 1)
 (oR (vS (Instr.makeMap 74 none)) fun t10 =>
 oR (vS (Instr.build 77 #[(0, t10), (2, (.int .i64 kept))])) fun t12 =>
 oR (vS (Instr.box 77 t12)) fun t13 =>
 K t13 0))
theorem lru_New_ok {kept : Int} {K : Value → Int → WP} (w : World) (h : lru_New_sh kept K w) : lru_New kept K w :=
  fn_ok cx_ok (hi := .l) (fn := Try.f9) Try.func9 (by kernel_rfl) h

/- (*tollhouse/lru.List).Add -/
def lru_List_Add_sh (l : Value) (id : Int) (K : Int → WP) : WP :=
 lru_List_ready l id false fun t8 =>
 condK (t8 != 0)
 (K t8)
 (lru_List_put l id (.complex .f64 0 0) fun _ =>
 K 0)
theorem lru_List_Add_ok {l : Value} {id : Int} {K : Int → WP} (w : World) (h : lru_List_Add_sh l id K w) : lru_List_Add l id K w :=
  fn_ok cx_ok (hi := .l) (fn := Try.f11) Try.func11 (by kernel_rfl) h

/- (*tollhouse/lru.List).Touch -/
def lru_List_Touch_sh (l : Value) (id : Int) (K : Int → WP) : WP :=
 lru_List_ready l id true fun t9 =>
 condK (t9 != 0)
 (K t9)
 (lru_List_put l id (.complex .f64 0 4607182418800017408) fun _ =>
 lru_List_Kept l fun t17 =>
 len 29 3 t17 fun t19 =>
 nI 77 l 2 3 .i64 fun t23 =>
 condK (decide (t19 > t23))
 (len 29 3 t17 fun t28 =>
 ArK .i64 (t28 - 1) fun t29 =>
 iI 29 t17 .i64 t29 3 .i64 fun t31 =>
 lru_List_put l t31 (.complex .f64 0 0) fun _ =>
 K 0)
 (K 0))
theorem lru_List_Touch_ok {l : Value} {id : Int} {K : Int → WP} (w : World) (h : lru_List_Touch_sh l id K w) : lru_List_Touch l id K w :=
  fn_ok cx_ok (hi := .l) (fn := Try.f12) Try.func12 (by kernel_rfl) h

/- (*tollhouse/lru.List).Kept -/
def lru_List_Kept_sh (l : Value) (K : Value → WP) : WP :=
 lru_List_in l (.complex .f64 0 4607182418800017408) fun t4 =>
 K t4
theorem lru_List_Kept_ok {l : Value} {K : Value → WP} (w : World) (h : lru_List_Kept_sh l K w) : lru_List_Kept l K w :=
  fn_ok cx_ok (hi := .l) (fn := Try.f13) Try.func13 (by kernel_rfl) h

/- (*tollhouse/lru.List).Tried -/
def lru_List_Tried_sh (l : Value) (K : Value → WP) : WP :=
 lru_List_in l (.complex .f64 0 0) fun t4 =>
 K t4
theorem lru_List_Tried_ok {l : Value} {K : Value → WP} (w : World) (h : lru_List_Tried_sh l K w) : lru_List_Tried l K w :=
  fn_ok cx_ok (hi := .l) (fn := Try.f14) Try.func14 (by kernel_rfl) h

/- (*tollhouse/lru.List).Victim -/
def lru_List_Victim_sh (l : Value) (K : Int → Bool → WP) : WP :=
 lru_List_Tried l fun t7 =>
 lru_List_Kept l fun t9 =>
 oR (vS (Instr.buildSlice 82 2 #[(0, t7), (1, t9)])) fun t10 =>
 len 82 3 t10 fun t11 =>
 loopK [(12, (.int .i64))] (fun (j1 : Int → WP) => j1 0) (fun (j2 : Int → WP) (t12 : Int) =>
 condK (decide (t12 < t11))
 (iR 82 t10 .i64 t12 29 fun t15 =>
 len 29 3 t15 fun t17 =>
 condK (decide (t17 > 0))
 (len 29 3 t15 fun t21 =>
 ArK .i64 (t21 - 1) fun t22 =>
 iI 29 t15 .i64 t22 3 .i64 fun t24 =>
 K t24 true)
 (ArK .i64 (t12 + 1) fun t25 =>
 j2 t25))
 (K 0 false))
theorem lru_List_Victim_ok {l : Value} {K : Int → Bool → WP} (w : World) (h : lru_List_Victim_sh l K w) : lru_List_Victim l K w :=
  fn_ok cx_ok (hi := (.n .l (.n (.n .l (.n (.p [(12, (.int .i64))] .l) .l)) .l))) (fn := Try.f15) Try.func15 (by kernel_rfl) h

/- (*tollhouse/lru.List).Remove -/
def lru_List_Remove_sh (l : Value) (id : Int) (K : Int → WP) : WP :=
 lru_List_ready l id true fun t8 =>
 condK (t8 != 0)
 (K t8)
 (nR 77 l 0 74 fun t15 =>
 oR (vS (Builtin.delete_ #[74, 3] 0 #[t15, (.int .i64 id)])) fun _ =>
 K 0)
theorem lru_List_Remove_ok {l : Value} {id : Int} {K : Int → WP} (w : World) (h : lru_List_Remove_sh l id K w) : lru_List_Remove l id K w :=
  fn_ok cx_ok (hi := .l) (fn := Try.f16) Try.func16 (by kernel_rfl) h

/- (*tollhouse/lru.List).Copy -/
def lru_List_Copy_sh (l : Value) (K : Value → WP) : WP :=
 oB (bS .eql 23 (.tmp 4) (.const (.pointer none)) l (.pointer none)) fun t5 =>
 condK t5
 (K (.pointer none))
 (NilK l <|
 lR 77 l fun t8 =>
 oR (vS (Instr.alloc 77 true (.tuple #[]))) fun x =>
 sto 77 x t8 <|
 nR 77 l 0 74 fun t12 =>
 maps_Clone_int_complex128 t12 fun t13 =>
 fW 77 x 0 74 t13 <|
 K x)
theorem lru_List_Copy_ok {l : Value} {K : Value → WP} (w : World) (h : lru_List_Copy_sh l K w) : lru_List_Copy l K w :=
  fn_ok cx_ok (hi := .l) (fn := Try.f23) Try.func23 (by kernel_rfl) h

/- (*tollhouse/lru.List).ready -/
def lru_List_ready_sh (l : Value) (id : Int) (there : Bool) (K : Int → WP) : WP :=
 joinK [(17, .bool)] (fun (j1 : Bool → WP) =>
 oB (bS .eql 23 (.tmp 9) (.const (.pointer none)) l (.pointer none)) fun t10 =>
 condK t10
 (j1 true)
 (nR 77 l 0 74 fun t15 =>
 oB (bS .eql 74 (.tmp 15) (.const (.map none)) t15 (.map none)) fun t16 =>
 j1 t16))
 fun t17 =>
 condK t17
 (K 2)
 (joinK [(23, .bool)] (fun (j2 : Bool → WP) =>
 condK (decide (id < 0))
 (j2 true)
 (j2 (decide (id ≥ 64))))
 fun t23 =>
 condK t23
 (K 1)
 (nR 77 l 0 74 fun t28 =>
 OpK P (.tup [.raw, .bool]) (vS (Instr.lookup 74 t28 (.int .i64 id) true)) fun _ t30_1 =>
 condK t30_1
 (condK (!there)
 (K 9)
 (condK (!t30_1)
 (condK there
 (K 6)
 (K 0))
 (K 0)))
 (condK (!t30_1)
 (condK there
 (K 6)
 (K 0))
 (K 0))))
theorem lru_List_ready_ok {l : Value} {id : Int} {there : Bool} {K : Int → WP} (w : World) (h : lru_List_ready_sh l id there K w) : lru_List_ready l id there K w :=
  fn_ok cx_ok (hi := (.n .l (.n (.n (.j [(17, .bool)] .l) .l) (.n (.n (.j [(23, .bool)] .l) .l) .l)))) (fn := Try.f35) Try.func35 (by kernel_rfl) h

/- (*tollhouse/lru.List).put -/
def lru_List_put_sh (l : Value) (id : Int) (segment : Value) (K : Value → WP) : WP :=
 nR 77 l 1 75 fun t9 =>
 oR (bS .add 75 (.tmp 9) (.const (.float .f64 4607182418800017408)) t9 (.float .f64 4607182418800017408)) fun t10 =>
 nW 77 l 1 75 t10 <|
 DrawK fun S =>
 hR S 77 l 0 74 fun t16 =>
 hR S 77 l 1 75 fun t21 =>
 qR (vS (Builtin.complex_ #[75, 75] 80 #[t21, (.float .f64 0)])) fun t22 =>
 qR (bS .add 80 (.tmp 22) (.tmp 23) t22 segment) fun t24 =>
 oR (uS (Instr.mapUpdate 74 t16 (.int .i64 id) t24)) fun _ =>
 K (.tuple #[])
theorem lru_List_put_ok {l : Value} {id : Int} {segment : Value} {K : Value → WP} (w : World) (h : lru_List_put_sh l id segment K w) : lru_List_put l id segment K w :=
  fn_ok cx_ok (hi := (.n .l (.o (odR 0 13)))) (fn := Try.f36) Try.func36 (by kernel_rfl) h

/- (*tollhouse/lru.List).in -/
def lru_List_in_sh (l : Value) (segment : Value) (K : Value → WP) : WP :=
 oR (vS (Instr.box 23 l)) fun l_1 =>
 lR 23 l_1 fun t8 =>
 oB (bS .eql 23 (.tmp 8) (.const (.pointer none)) t8 (.pointer none)) fun t9 =>
 condK t9
 (K (.slice none 0 0))
 (lR 23 l_1 fun t10 =>
 nR 77 t10 0 74 fun t13 =>
 oR (vS (Instr.range 74 t13)) fun t14 =>
 loopK [(5, .raw)] (fun (j1 : Value → WP) => j1 (.slice none 0 0)) (fun (j2 : Value → WP) (out : Value) =>
 NxK P (vS (Instr.next t14 false 0)) .raw .raw
 (slices_SortFunc_int out (.func (.func 52) #[] #[l_1]) fun _ =>
 K out)
 fun _ _ =>
 EnK P (vS (Instr.entry t14)) (.int .i64) .raw fun u_2 u_3 =>
 oR (vS (Builtin.imag_ #[80] 75 #[u_3])) fun t21 =>
 oR (vS (Builtin.imag_ #[80] 75 #[segment])) fun t23 =>
 oB (bS .eql 75 (.tmp 21) (.tmp 23) t21 t23) fun t24 =>
 condK t24
 (oR (vS (Instr.buildSlice 29 1 #[(0, (.int .i64 u_2))])) fun t27 =>
 app 29 29 29 out t27 fun t28 =>
 j2 t28)
 (j2 out)))
theorem lru_List_in_ok {l : Value} {segment : Value} {K : Value → WP} (w : World) (h : lru_List_in_sh l segment K w) : lru_List_in l segment K w :=
  fn_ok cx_ok (hi := (.n .l (.n .l (.n .l (.n (.n .l (.n (.p [(5, .raw)] (.n .l (.n .l (.n (.n (.e (.int .i64) .raw) .l) .l)))) .l)) .l))))) (fn := Try.f37) Try.func37 (by kernel_rfl) h

/- (*tollhouse/lru.List).in$1 -/
def lru_List_in_c1_sh (a : Int) (b : Int) (t2 : Value) (K : Int → WP) : WP :=
 DrawK fun S =>
 sR S (vS (Instr.loadAt 23 t2)) fun t6 =>
 hR S 77 t6 0 74 fun t9 =>
 sR S (vS (Instr.lookup 74 t9 (.int .i64 b) false)) fun t11 =>
 qR (vS (Builtin.real_ #[80] 75 #[t11])) fun t12 =>
 sR S (vS (Instr.loadAt 23 t2)) fun t13 =>
 hR S 77 t13 0 74 fun t16 =>
 sR S (vS (Instr.lookup 74 t16 (.int .i64 a) false)) fun t18 =>
 qR (vS (Builtin.real_ #[80] 75 #[t18])) fun t19 =>
 cmp_Compare_float64 t12 t19 fun t20 =>
 andK S <|
 K t20
theorem lru_List_in_c1_ok {a : Int} {b : Int} {t2 : Value} {K : Int → WP} (w : World) (h : lru_List_in_c1_sh a b t2 K w) : lru_List_in_c1 a b t2 K w :=
  fn_ok cx_ok (hi := (.n .l (.n (.o (odR 0 16)) .l))) (fn := Try.f52) Try.func52 (by kernel_rfl) h

/- maps.Clone[map[int]complex128,int,complex128] -/
def maps_Clone_int_complex128_sh (m : Value) (K : Value → WP) : WP :=
 oB (bS .eql 74 (.tmp 3) (.const (.map none)) m (.map none)) fun t4 =>
 condK t4
 (K (.map none))
 (oR (vS (Instr.makeInterface 74 m)) fun t6 =>
 oR (callFunc 55 #[t6]) fun t7 =>
 oR (vS (Instr.typeAssert t7 20 74 false)) fun t8 =>
 K t8)
theorem maps_Clone_int_complex128_ok {m : Value} {K : Value → WP} (w : World) (h : maps_Clone_int_complex128_sh m K w) : maps_Clone_int_complex128 m K w :=
  fn_ok cx_ok (hi := .l) (fn := Try.f42) Try.func42 (by kernel_rfl) h

/- cmp.Compare[float64] -/
def cmp_Compare_float64_sh (x : Value) (y : Value) (K : Int → WP) : WP :=
 cmp_isNaN_float64 x fun t8 =>
 cmp_isNaN_float64 y fun t10 =>
 condK t8
 (condK t10
 (K 0)
 (K (-1)))
 (condK t10
 (K 1)
 (oB (bS .lss 75 (.tmp 14) (.tmp 15) x y) fun t16 =>
 condK t16
 (K (-1))
 (oB (bS .gtr 75 (.tmp 17) (.tmp 18) x y) fun t19 =>
 condK t19
 (K 1)
 (K 0))))
theorem cmp_Compare_float64_ok {x : Value} {y : Value} {K : Int → WP} (w : World) (h : cmp_Compare_float64_sh x y K w) : cmp_Compare_float64 x y K w :=
  fn_ok cx_ok (hi := .l) (fn := Try.f53) Try.func53 (by kernel_rfl) h

/- cmp.isNaN[float64] -/
def cmp_isNaN_float64_sh (x : Value) (K : Bool → WP) : WP :=
 oB (bS .neq 75 (.tmp 3) (.tmp 4) x x) fun t5 =>
 K t5
theorem cmp_isNaN_float64_ok {x : Value} {K : Bool → WP} (w : World) (h : cmp_isNaN_float64_sh x K w) : cmp_isNaN_float64 x K w :=
  fn_ok cx_ok (hi := .l) (fn := Try.f63) Try.func63 (by kernel_rfl) h

/- tollhouse/tollhouseref20.Same -/
def ref20_Same_sh (a : Value) (b : Value) (K : Bool → WP) : WP :=
 len 29 3 a fun t7 =>
 len 29 3 b fun t9 =>
 condK (t7 != t9)
 (K false)
 (loopK [(5, (.int .i64))] (fun (j1 : Int → WP) => j1 0) (fun (j2 : Int → WP) (i : Int) =>
 len 29 3 a fun t13 =>
 condK (decide (i < t13))
 (DrawK fun S =>
 jI S 29 a .i64 i 3 .i64 fun t20 =>
 jI S 29 b .i64 i 3 .i64 fun t24 =>
 condK (t20 != t24)
 (K false)
 (ArK .i64 (i + 1) fun t16 =>
 j2 t16))
 (K true)))
theorem ref20_Same_ok {a : Value} {b : Value} {K : Bool → WP} (w : World) (h : ref20_Same_sh a b K w) : ref20_Same a b K w :=
  fn_ok cx_ok (hi := (.n .l (.n .l (.n (.n .l (.n (.p [(5, (.int .i64))] (.n .l (.n (.n (.n (.o (odR 0 9)) .l) .l) .l))) .l)) .l)))) (fn := Try.f17) Try.func17 (by kernel_rfl) h

/- tollhouse/tollhouseref20.New -/
def ref20_New_sh (kept : Int) (K : Value → Int → WP) : WP :=
 condK (decide (kept < 0))
 (K (.pointer none) 1)
 (condK (decide (kept > 64))
 (K (.pointer none) 1)
 (oR (vS (Instr.build 46 #[(2, (.int .i64 kept))])) fun t11 =>
 oR (vS (Instr.box 46 t11)) fun t12 =>
 K t12 0))
theorem ref20_New_ok {kept : Int} {K : Value → Int → WP} (w : World) (h : ref20_New_sh kept K w) : ref20_New kept K w :=
  fn_ok cx_ok (hi := .l) (fn := Try.f18) Try.func18 (by kernel_rfl) h

/- (*tollhouse/tollhouseref20.List).Add -/
def ref20_List_Add_sh (l : Value) (id : Int) (K : Int → WP) : WP :=
 ref20_may id fun t6 =>
 condK (!t6)
 (K 1)
 (ref20_List_Has l id fun t10 =>
 condK t10
 (K 9)
 (nR 46 l 0 29 fun t15 =>
 ref20_ahead t15 id fun t17 =>
 nW 46 l 0 29 t17 <|
 K 0))
theorem ref20_List_Add_ok {l : Value} {id : Int} {K : Int → WP} (w : World) (h : ref20_List_Add_sh l id K w) : ref20_List_Add l id K w :=
  fn_ok cx_ok (hi := .l) (fn := Try.f19) Try.func19 (by kernel_rfl) h

/- (*tollhouse/tollhouseref20.List).Touch -/
def ref20_List_Touch_sh (l : Value) (id : Int) (K : Int → WP) : WP :=
 ref20_may id fun t7 =>
 condK (!t7)
 (K 1)
 (ref20_List_Has l id fun t11 =>
 condK (!t11)
 (K 6)
 (nR 46 l 0 29 fun t17 =>
 ref20_without t17 id fun t19 =>
 nW 46 l 0 29 t19 <|
 nR 46 l 1 29 fun t26 =>
 ref20_without t26 id fun t28 =>
 ref20_ahead t28 id fun t30 =>
 nW 46 l 1 29 t30 <|
 DrawK fun S =>
 hR S 46 l 1 29 fun t36 =>
 sI S .i64 (vS (Builtin.len_ #[29] 3 #[t36])) fun t37 =>
 hI S 46 l 2 3 .i64 fun t41 =>
 condK (decide (t37 > t41))
 (DrawK fun S =>
 hR S 46 l 1 29 fun t46 =>
 hR S 46 l 1 29 fun t50 =>
 sI S .i64 (vS (Builtin.len_ #[29] 3 #[t50])) fun t51 =>
 ArK .i64 (t51 - 1) fun t52 =>
 jI S 29 t46 .i64 t52 3 .i64 fun t54 =>
 nR 46 l 1 29 fun t59 =>
 ref20_without t59 t54 fun t61 =>
 nW 46 l 1 29 t61 <|
 nR 46 l 0 29 fun t68 =>
 ref20_ahead t68 t54 fun t70 =>
 nW 46 l 0 29 t70 <|
 K 0)
 (K 0)))
theorem ref20_List_Touch_ok {l : Value} {id : Int} {K : Int → WP} (w : World) (h : ref20_List_Touch_sh l id K w) : ref20_List_Touch l id K w :=
  fn_ok cx_ok (hi := (.n .l (.n .l (.n .l (.n .l (.n .l (.n (.n (.o (odR 0 10)) (.n (.n (.o (odR 0 13)) .l) .l)) .l))))))) (fn := Try.f20) Try.func20 (by kernel_rfl) h

/- (*tollhouse/tollhouseref20.List).Remove -/
def ref20_List_Remove_sh (l : Value) (id : Int) (K : Int → WP) : WP :=
 ref20_may id fun t6 =>
 condK (!t6)
 (K 1)
 (ref20_List_Has l id fun t10 =>
 condK (!t10)
 (K 6)
 (nR 46 l 0 29 fun t16 =>
 ref20_without t16 id fun t18 =>
 nW 46 l 0 29 t18 <|
 nR 46 l 1 29 fun t25 =>
 ref20_without t25 id fun t27 =>
 nW 46 l 1 29 t27 <|
 K 0))
theorem ref20_List_Remove_ok {l : Value} {id : Int} {K : Int → WP} (w : World) (h : ref20_List_Remove_sh l id K w) : ref20_List_Remove l id K w :=
  fn_ok cx_ok (hi := .l) (fn := Try.f21) Try.func21 (by kernel_rfl) h

/- (*tollhouse/tollhouseref20.List).Victim -/
def ref20_List_Victim_sh (l : Value) (K : Int → Bool → WP) : WP :=
 nR 46 l 0 29 fun t7 =>
 len 29 3 t7 fun t8 =>
 condK (decide (t8 > 0))
 (DrawK fun S =>
 hR S 46 l 0 29 fun t13 =>
 hR S 46 l 0 29 fun t17 =>
 sI S .i64 (vS (Builtin.len_ #[29] 3 #[t17])) fun t18 =>
 ArK .i64 (t18 - 1) fun t19 =>
 jI S 29 t13 .i64 t19 3 .i64 fun t21 =>
 K t21 true)
 (nR 46 l 1 29 fun t25 =>
 len 29 3 t25 fun t26 =>
 condK (decide (t26 > 0))
 (DrawK fun S =>
 hR S 46 l 1 29 fun t31 =>
 hR S 46 l 1 29 fun t35 =>
 sI S .i64 (vS (Builtin.len_ #[29] 3 #[t35])) fun t36 =>
 ArK .i64 (t36 - 1) fun t37 =>
 jI S 29 t31 .i64 t37 3 .i64 fun t39 =>
 K t39 true)
 (K 0 false))
theorem ref20_List_Victim_ok {l : Value} {K : Int → Bool → WP} (w : World) (h : ref20_List_Victim_sh l K w) : ref20_List_Victim l K w :=
  fn_ok cx_ok (hi := (.n .l (.n (.n .l (.n (.n (.o (odR 0 14)) .l) .l)) (.n (.n .l (.n (.n (.o (odR 0 14)) .l) .l)) .l)))) (fn := Try.f22) Try.func22 (by kernel_rfl) h

/- tollhouse/tollhouseref20.may -/
def ref20_may_sh (id : Int) (K : Bool → WP) : WP :=
 condK (decide (id ≥ 0))
 (K (decide (id < 64)))
 (K false)
theorem ref20_may_ok {id : Int} {K : Bool → WP} (w : World) (h : ref20_may_sh id K w) : ref20_may id K w :=
  fn_ok cx_ok (hi := .l) (fn := Try.f38) Try.func38 (by kernel_rfl) h

/- (*tollhouse/tollhouseref20.List).Has -/
def ref20_List_Has_sh (l : Value) (id : Int) (K : Bool → WP) : WP :=
 nR 46 l 0 29 fun t8 =>
 ref20_has t8 id fun t10 =>
 condK t10
 (K true)
 (nR 46 l 1 29 fun t15 =>
 ref20_has t15 id fun t17 =>
 K t17)
theorem ref20_List_Has_ok {l : Value} {id : Int} {K : Bool → WP} (w : World) (h : ref20_List_Has_sh l id K w) : ref20_List_Has l id K w :=
  fn_ok cx_ok (hi := .l) (fn := Try.f39) Try.func39 (by kernel_rfl) h

/- tollhouse/tollhouseref20.ahead -/
def ref20_ahead_sh (l : Value) (id : Int) (K : Value → WP) : WP :=
 oR (vS (Instr.buildSlice 29 1 #[(0, (.int .i64 id))])) fun t8 =>
 oR (vS (Builtin.append_ #[29, 29] 29 #[(.slice none 0 0), t8])) fun t9 =>
 app 29 29 29 t9 l fun t12 =>
 K t12
theorem ref20_ahead_ok {l : Value} {id : Int} {K : Value → WP} (w : World) (h : ref20_ahead_sh l id K w) : ref20_ahead l id K w :=
  fn_ok cx_ok (hi := .l) (fn := Try.f40) Try.func40 (by kernel_rfl) h

/- tollhouse/tollhouseref20.without -/
def ref20_without_sh (l : Value) (id : Int) (K : Value → WP) : WP :=
 loopK [(5, .raw), (6, (.int .i64))] (fun (j1 : Value → Int → WP) => j1 (.slice none 0 0) 0) (fun (j2 : Value → Int → WP) (out : Value) (i : Int) =>
 len 29 3 l fun t9 =>
 condK (decide (i < t9))
 (iI 29 l .i64 i 3 .i64 fun t16 =>
 condK (t16 != id)
 (iI 29 l .i64 i 3 .i64 fun t23 =>
 oR (vS (Instr.buildSlice 29 1 #[(0, (.int .i64 t23))])) fun t24 =>
 app 29 29 29 out t24 fun t25 =>
 ArK .i64 (i + 1) fun t12 =>
 j2 t25 t12)
 (ArK .i64 (i + 1) fun t12_1 =>
 j2 out t12_1))
 (K out))
theorem ref20_without_ok {l : Value} {id : Int} {K : Value → WP} (w : World) (h : ref20_without_sh l id K w) : ref20_without l id K w :=
  fn_ok cx_ok (hi := (.n .l (.n .l (.n (.n .l (.n (.p [(5, .raw), (6, (.int .i64))] .l) .l)) .l)))) (fn := Try.f41) Try.func41 (by kernel_rfl) h

/- tollhouse/tollhouseref20.has -/
def ref20_has_sh (l : Value) (id : Int) (K : Bool → WP) : WP :=
 loopK [(5, (.int .i64))] (fun (j1 : Int → WP) => j1 0) (fun (j2 : Int → WP) (i : Int) =>
 len 29 3 l fun t8 =>
 condK (decide (i < t8))
 (iI 29 l .i64 i 3 .i64 fun t15 =>
 condK (t15 == id)
 (K true)
 (ArK .i64 (i + 1) fun t11 =>
 j2 t11))
 (K false))
theorem ref20_has_ok {l : Value} {id : Int} {K : Bool → WP} (w : World) (h : ref20_has_sh l id K w) : ref20_has l id K w :=
  fn_ok cx_ok (hi := (.n .l (.n (.n .l (.n (.p [(5, (.int .i64))] .l) .l)) .l))) (fn := Try.f54) Try.func54 (by kernel_rfl) h

/- tollhouse/tollhouselaw20.awake -/
def law20_awake_sh (K : Bool → WP) : WP :=
 lru_New 2 fun t6 t6_1 =>
 joinK [(30, .bool)] (fun (j1 : Bool → WP) =>
 condK (t6_1 != 0)
 (j1 true)
 (lru_List_Add t6 1 fun t13 =>
 condK (t13 != 0)
 (j1 true)
 (lru_List_Add t6 2 fun t18 =>
 condK (t18 != 0)
 (j1 true)
 (lru_List_Add t6 3 fun t23 =>
 condK (t23 != 0)
 (j1 true)
 (lru_List_Touch t6 1 fun t28 =>
 j1 (t28 != 0))))))
 fun t30 =>
 condK t30
 (K false)
 (lru_List_Victim t6 fun t33 t33_1 =>
 condK t33_1
 (condK (t33 == 2)
 (lru_List_Tried t6 fun t43 =>
 oR (vS (Instr.buildSlice 29 2 #[(0, (.int .i64 3)), (1, (.int .i64 2))])) fun t44 =>
 ref20_Same t43 t44 fun t45 =>
 condK t45
 (lru_List_Kept t6 fun t49 =>
 oR (vS (Instr.buildSlice 29 1 #[(0, (.int .i64 1))])) fun t50 =>
 ref20_Same t49 t50 fun t51 =>
 K t51)
 (K false))
 (K false))
 (K false))
theorem law20_awake_ok {K : Bool → WP} (w : World) (h : law20_awake_sh K w) : law20_awake K w :=
  fn_ok cx_ok (hi := (.n .l (.n .l (.n (.n (.j [(30, .bool)] .l) .l) .l)))) (fn := Try.f10) Try.func10 (by kernel_rfl) h

/- tollhouse/tollhouselaw20.LruScans -/
def law20_LruScans_sh (kept : Value) (scan : Value) (K : Bool → WP) : WP :=
 lru_New 20 fun t15 t15_1 =>
 joinK [(23, .bool)] (fun (j1 : Bool → WP) =>
 law20_awake fun t18 =>
 condK (!t18)
 (j1 true)
 (j1 (t15_1 != 0)))
 fun t23 =>
 condK t23
 (K false)
 (joinK [] (fun (j2 : WP) =>
 len 22 3 kept fun t25 =>
 loopK [(26, (.int .i64))] (fun (j3 : Int → WP) => j3 0) (fun (j4 : Int → WP) (t26 : Int) =>
 condK (decide (t26 < t25))
 (iI 22 kept .i64 t26 5 .u8 fun t30 =>
 condK (t26 == 20)
 (j2)
 (oI .i64 (vS (convert 5 3 (.int .u8 t30))) fun t35 =>
 oI .i64 (bS .rem 3 (.tmp 35) (.const (.int .i64 32)) (.int .i64 t35) (.int .i64 32)) fun t36 =>
 lru_List_Add t15 t36 fun _ =>
 oI .i64 (vS (convert 5 3 (.int .u8 t30))) fun t40 =>
 oI .i64 (bS .rem 3 (.tmp 40) (.const (.int .i64 32)) (.int .i64 t40) (.int .i64 32)) fun t41 =>
 lru_List_Touch t15 t41 fun t42 =>
 condK (t42 != 0)
 (K false)
 (ArK .i64 (t26 + 1) fun t44 =>
 j4 t44)))
 (j2)))
 <|
 lru_List_Kept t15 fun t46 =>
 len 22 3 scan fun t48 =>
 loopK [(49, (.int .i64))] (fun (j5 : Int → WP) => j5 0) (fun (j6 : Int → WP) (t49 : Int) =>
 condK (decide (t49 < t48))
 (iI 22 scan .i64 t49 5 .u8 fun t53 =>
 condK (t49 == 300)
 (K true)
 (oI .i64 (vS (convert 5 3 (.int .u8 t53))) fun t58 =>
 oI .i64 (bS .rem 3 (.tmp 58) (.const (.int .i64 32)) (.int .i64 t58) (.int .i64 32)) fun t59 =>
 ArK .i64 (32 + t59) fun t60 =>
 lru_List_Add t15 t60 fun _ =>
 joinK [] (fun (j7 : WP) =>
 lru_List_Tried t15 fun t63 =>
 len 29 3 t63 fun t64 =>
 condK (decide (t64 > 3))
 (lru_List_Victim t15 fun t68 t68_1 =>
 condK (!t68_1)
 (K false)
 (condK (decide (t68 < 32))
 (K false)
 (lru_List_Remove t15 t68 fun t80 =>
 condK (t80 != 0)
 (K false)
 (j7))))
 (j7))
 <|
 lru_List_Kept t15 fun t84 =>
 ref20_Same t84 t46 fun t86 =>
 condK (!t86)
 (K false)
 (ArK .i64 (t49 + 1) fun t88 =>
 j6 t88)))
 (K true)))
theorem law20_LruScans_ok {kept : Value} {scan : Value} {K : Bool → WP} (w : World) (h : law20_LruScans_sh kept scan K w) : law20_LruScans kept scan K w :=
  fn_ok cx_ok (hi := (.n .l (.n .l (.n (.n (.j [(23, .bool)] .l) .l) (.n (.j [] (.n .l (.n (.p [(26, (.int .i64))] .l) .l))) (.n .l (.n (.n .l (.n (.p [(49, (.int .i64))] (.n .l (.n .l (.n (.n (.n .l (.n .l (.n .l (.n (.j [] .l) .l)))) .l) .l)))) .l)) .l))))))) (fn := Try.f3) Try.func3 (by kernel_rfl) h

/- tollhouse/tollhouselaw20.LruOnce -/
def law20_LruOnce_sh (kept : Int) (acts : Value) (K : Bool → WP) : WP :=
 oI .i64 (vS (convert 5 3 (.int .u8 kept))) fun t20 =>
 oI .i64 (bS .rem 3 (.tmp 20) (.const (.int .i64 65)) (.int .i64 t20) (.int .i64 65)) fun t21 =>
 lru_New t21 fun t24 t24_1 =>
 joinK [(32, .bool)] (fun (j1 : Bool → WP) =>
 law20_awake fun t27 =>
 condK (!t27)
 (j1 true)
 (j1 (t24_1 != 0)))
 fun t32 =>
 condK t32
 (K false)
 (oR (vS (Instr.alloc 36 true (.tuple #[]))) fun in_ =>
 len 35 3 acts fun t34 =>
 loopK [(35, (.int .i64))] (fun (j2 : Int → WP) => j2 0) (fun (j3 : Int → WP) (t35 : Int) =>
 condK (decide (t35 < t34))
 (iR 35 acts .i64 t35 38 fun t39 =>
 oR (vS (Instr.alloc 38 true (.tuple #[]))) fun a =>
 sto 38 a t39 <|
 condK (t35 == 300)
 (K true)
 (joinK [(11, .bool)] (fun (j4 : Bool → WP) =>
 fI 38 a 1 3 .i64 fun t43 =>
 condK (decide (t43 ≥ 0))
 (fI 38 a 1 3 .i64 fun t47 =>
 j4 (decide (t47 < 64)))
 (j4 false))
 fun may =>
 joinK [(12, (.int .i64))] (fun (j5 : Int → WP) =>
 fI 38 a 0 3 .i64 fun t51 =>
 condK (t51 == 0)
 (fI 38 a 1 3 .i64 fun t56 =>
 lru_List_Add t24 t56 fun t57 =>
 joinK [(68, .bool)] (fun (j6 : Bool → WP) =>
 condK may
 (fI 38 a 1 3 .i64 fun t61 =>
 iB 36 in_ .i64 t61 4 fun t63 =>
 oB (bS .neq 4 (.tmp 64) (.tmp 66) (.bool (!t63)) (.bool (t57 == 0))) fun t67 =>
 j6 t67)
 (j6 false))
 fun t68 =>
 condK t68
 (K false)
 (condK (t57 == 0)
 (fI 38 a 1 3 .i64 fun t72 =>
 iW 36 in_ .i64 t72 4 (.bool true) <|
 j5 t57)
 (j5 t57)))
 (condK (t51 == 1)
 (fI 38 a 1 3 .i64 fun t78 =>
 lru_List_Touch t24 t78 fun t79 =>
 joinK [(89, .bool)] (fun (j7 : Bool → WP) =>
 condK may
 (fI 38 a 1 3 .i64 fun t83 =>
 iB 36 in_ .i64 t83 4 fun t85 =>
 oB (bS .neq 4 (.tmp 85) (.tmp 87) (.bool t85) (.bool (t79 == 0))) fun t88 =>
 j7 t88)
 (j7 false))
 fun t89 =>
 condK t89
 (K false)
 (DrawK fun S =>
 condK (t79 == 0)
 (condK (decide (t21 > 0))
 (gI S 38 a 1 3 .i64 fun t102 =>
 lru_List_Kept t24 fun t98 =>
 andK S <|
 qR (vS (Instr.indexAt 29 t98 (.int .i64 0))) fun t99 =>
 rI .i64 (vS (Instr.loadAt 3 t99)) fun t100 =>
 condK (t100 != t102)
 (K false)
 (j5 t79))
 (j5 t79))
 (j5 t79)))
 (condK (t51 == 2)
 (fI 38 a 1 3 .i64 fun t109 =>
 lru_List_Remove t24 t109 fun t110 =>
 joinK [(120, .bool)] (fun (j8 : Bool → WP) =>
 condK may
 (fI 38 a 1 3 .i64 fun t114 =>
 iB 36 in_ .i64 t114 4 fun t116 =>
 oB (bS .neq 4 (.tmp 116) (.tmp 118) (.bool t116) (.bool (t110 == 0))) fun t119 =>
 j8 t119)
 (j8 false))
 fun t120 =>
 condK t120
 (K false)
 (condK (t110 == 0)
 (fI 38 a 1 3 .i64 fun t124 =>
 iW 36 in_ .i64 t124 4 (.bool false) <|
 j5 t110)
 (j5 t110)))
 (j5 0))))
 fun e =>
 joinK [(141, .bool)] (fun (j9 : Bool → WP) =>
 condK (!may)
 (fI 38 a 0 3 .i64 fun t130 =>
 condK (decide (t130 ≥ 0))
 (fI 38 a 0 3 .i64 fun t135 =>
 condK (decide (t135 ≤ 2))
 (j9 (e != 1))
 (j9 false))
 (j9 false))
 (j9 false))
 fun t141 =>
 condK t141
 (K false)
 (oR (vS (Instr.alloc 36 true (.tuple #[]))) fun seen =>
 lru_List_Tried t24 fun t143 =>
 lru_List_Kept t24 fun t145 =>
 app 29 29 29 t143 t145 fun t146 =>
 len 29 3 t146 fun t147 =>
 loopK [(14, (.int .i64)), (148, (.int .i64))] (fun (j10 : Int → Int → WP) => j10 0 0) (fun (j11 : Int → Int → WP) (n : Int) (t148 : Int) =>
 condK (decide (t148 < t147))
 (iI 29 t146 .i64 t148 3 .i64 fun t151 =>
 joinK [(168, .bool)] (fun (j12 : Bool → WP) =>
 condK (decide (t151 < 0))
 (j12 true)
 (condK (decide (t151 ≥ 64))
 (j12 true)
 (iB 36 seen .i64 t151 4 fun t161 =>
 condK t161
 (j12 true)
 (iB 36 in_ .i64 t151 4 fun t166 =>
 j12 (!t166)))))
 fun t168 =>
 condK t168
 (K false)
 (iW 36 seen .i64 t151 4 (.bool true) <|
 ArK .i64 (n + 1) fun t172 =>
 ArK .i64 (t148 + 1) fun t173 =>
 j11 t172 t173))
 (lR 36 in_ fun t174 =>
 loopK [(14, (.int .i64)), (175, (.int .i64))] (fun (j13 : Int → Int → WP) => j13 n 0) (fun (j14 : Int → Int → WP) (n_1 : Int) (t175 : Int) =>
 condK (decide (t175 < 64))
 (oB (vS (Instr.index 36 t174 (.int .i64 t175))) fun t177 =>
 condK t177
 (ArK .i64 (n_1 - 1) fun t180 =>
 ArK .i64 (t175 + 1) fun t181 =>
 j14 t180 t181)
 (ArK .i64 (t175 + 1) fun t181_1 =>
 j14 n_1 t181_1))
 (condK (n_1 != 0)
 (K false)
 (lru_List_Kept t24 fun t186 =>
 len 29 3 t186 fun t187 =>
 condK (decide (t187 > t21))
 (K false)
 (ArK .i64 (t35 + 1) fun t191 =>
 j3 t191)))))))))
 (K true)))
theorem law20_LruOnce_ok {kept : Int} {acts : Value} {K : Bool → WP} (w : World) (h : law20_LruOnce_sh kept acts K w) : law20_LruOnce kept acts K w :=
  fn_ok cx_ok (hi := (.n .l (.n .l (.n .l (.n (.n (.j [(32, .bool)] .l) .l) (.n .l (.n (.n .l (.n (.p [(35, (.int .i64))] (.n .l (.n .l (.n (.n (.n .l (.n .l (.n (.j [(11, .bool)] .l) (.n .l (.n (.j [(12, (.int .i64))] (.n .l (.n (.n .l (.n (.n .l (.n (.n (.j [(68, .bool)] .l) .l) .l)) (.n .l (.n (.n .l (.n (.n (.j [(89, .bool)] .l) .l) (.n (.o (.cons 0 (.cons 1 (.cons 2 (.cons 3 (.cons 4 (.cons 5 (.cons 6 (.cons 7 (.cons 11 (.cons 12 (.cons 8 (.cons 9 (.rd 10 (.cons 13 (.cons 14 .nil)))))))))))))))) .l))) (.n .l (.n (.n .l (.n (.n (.j [(120, .bool)] .l) .l) .l)) .l)))))) .l))) (.n (.n (.j [(141, .bool)] .l) .l) (.n .l (.n .l (.n (.n .l (.n (.p [(14, (.int .i64)), (148, (.int .i64))] (.n .l (.n .l (.n (.n (.n .l (.n (.n (.j [(168, .bool)] .l) .l) .l)) .l) .l)))) .l)) (.n (.n .l (.n (.p [(14, (.int .i64)), (175, (.int .i64))] .l) .l)) .l)))))))))) .l) .l)))) .l)) .l))))))) (fn := Try.f4) Try.func4 (by kernel_rfl) h

/- tollhouse/tollhouselaw20.LruPlays -/
def law20_LruPlays_sh (kept : Int) (acts : Value) (K : Bool → WP) : WP :=
 law20_awake fun t23 =>
 condK (!t23)
 (K false)
 (lru_New kept fun t27 t27_1 =>
 ref20_New kept fun t32 t32_1 =>
 joinK [(44, .bool)] (fun (j1 : Bool → WP) =>
 condK (t27_1 != t32_1)
 (j1 true)
 (oB (bS .eql 23 (.tmp 39) (.const (.pointer none)) t27 (.pointer none)) fun t40 =>
 oB (bS .eql 40 (.tmp 41) (.const (.pointer none)) t32 (.pointer none)) fun t42 =>
 oB (bS .neq 4 (.tmp 40) (.tmp 42) (.bool t40) (.bool t42)) fun t43 =>
 j1 t43))
 fun t44 =>
 condK t44
 (K false)
 (oB (bS .eql 40 (.tmp 45) (.const (.pointer none)) t32 (.pointer none)) fun t46 =>
 condK t46
 (K true)
 (len 35 3 acts fun t48 =>
 loopK [(5, .raw), (49, (.int .i64))] (fun (j2 : Value → Int → WP) => j2 t27 0) (fun (j3 : Value → Int → WP) (l : Value) (t49 : Int) =>
 condK (decide (t49 < t48))
 (iR 35 acts .i64 t49 38 fun t53 =>
 oR (vS (Instr.alloc 38 true (.tuple #[]))) fun a =>
 sto 38 a t53 <|
 condK (t49 == 300)
 (K true)
 (joinK [(5, .raw), (11, (.int .i64)), (12, (.int .i64))] (fun (j4 : Value → Int → Int → WP) =>
 fI 38 a 0 3 .i64 fun t57 =>
 condK (t57 == 0)
 (DrawK fun S =>
 gI S 38 a 1 3 .i64 fun t62 =>
 gI S 38 a 1 3 .i64 fun t66 =>
 lru_List_Add l t62 fun t63 =>
 andK S <|
 ref20_List_Add t32 t66 fun t67 =>
 andK S <|
 j4 l t63 t67)
 (condK (t57 == 1)
 (DrawK fun S =>
 gI S 38 a 1 3 .i64 fun t72 =>
 gI S 38 a 1 3 .i64 fun t76 =>
 lru_List_Touch l t72 fun t73 =>
 andK S <|
 ref20_List_Touch t32 t76 fun t77 =>
 andK S <|
 j4 l t73 t77)
 (condK (t57 == 2)
 (DrawK fun S =>
 gI S 38 a 1 3 .i64 fun t82 =>
 gI S 38 a 1 3 .i64 fun t86 =>
 lru_List_Remove l t82 fun t83 =>
 andK S <|
 ref20_List_Remove t32 t86 fun t87 =>
 andK S <|
 j4 l t83 t87)
 (condK (t57 == 3)
 (lru_List_Victim l fun t92 t92_1 =>
 ref20_List_Victim t32 fun t97 t97_1 =>
 condK (t92 != t97)
 (K false)
 (oB (bS .neq 4 (.tmp 104) (.tmp 105) (.bool t92_1) (.bool t97_1)) fun t106 =>
 condK t106
 (K false)
 (condK t92_1
 (lru_List_Remove l t92 fun t111 =>
 ref20_List_Remove t32 t97 fun t114 =>
 j4 l t111 t114)
 (j4 l 0 0))))
 (condK (t57 == 4)
 (lru_List_Copy l fun t118 =>
 lru_List_Add l 5 fun _ =>
 lru_List_Touch l 6 fun _ =>
 lru_List_Remove l 7 fun _ =>
 j4 t118 0 0)
 (j4 l 0 0))))))
 fun l_1 e f =>
 lru_List_Victim l_1 fun t128 t128_1 =>
 ref20_List_Victim t32 fun t133 t133_1 =>
 joinK [(172, .bool)] (fun (j5 : Bool → WP) =>
 DrawK fun S =>
 condK (e != f)
 (j5 true)
 (qB (bS .eql 23 (.tmp 140) (.const (.pointer none)) l_1 (.pointer none)) fun t141 =>
 condK t141
 (j5 true)
 (condK (t128 != t133)
 (j5 true)
 (qB (bS .neq 4 (.tmp 149) (.tmp 150) (.bool t128_1) (.bool t133_1)) fun t151 =>
 condK t151
 (j5 true)
 (hR S 46 t32 0 29 fun t159 =>
 lru_List_Tried l_1 fun t155 =>
 andK S <|
 ref20_Same t155 t159 fun t160 =>
 andK S <|
 condK (!t160)
 (j5 true)
 (hR S 46 t32 1 29 fun t169 =>
 lru_List_Kept l_1 fun t165 =>
 andK S <|
 ref20_Same t165 t169 fun t170 =>
 andK S <|
 j5 (!t170)))))))
 fun t172 =>
 condK t172
 (K false)
 (lru_List_Tried l_1 fun t174 =>
 len 29 3 t174 fun t175 =>
 loopK [(176, (.int .i64))] (fun (j6 : Int → WP) => j6 0) (fun (j7 : Int → WP) (t176 : Int) =>
 condK (decide (t176 < t175))
 (lru_List_Tried l_1 fun t180 =>
 iW 29 t180 .i64 t176 3 (.int .i64 (-1)) <|
 ArK .i64 (t176 + 1) fun t183 =>
 j7 t183)
 (ArK .i64 (t49 + 1) fun t184 =>
 j3 l_1 t184)))))
 (K true)))))
theorem law20_LruPlays_ok {kept : Int} {acts : Value} {K : Bool → WP} (w : World) (h : law20_LruPlays_sh kept acts K w) : law20_LruPlays kept acts K w :=
  fn_ok cx_ok (hi := (.n .l (.n .l (.n .l (.n .l (.n (.n (.j [(44, .bool)] .l) .l) (.n .l (.n (.n .l (.n (.p [(5, .raw), (49, (.int .i64))] (.n .l (.n .l (.n (.n (.n .l (.n .l (.n .l (.n (.j [(5, .raw), (11, (.int .i64)), (12, (.int .i64))] (.n .l (.n (.n .l (.n (.o (odL [0, 1, 2, 4, 5, 6, 3, 7, 8, 9])) (.n .l (.n (.o (odL [0, 1, 2, 4, 5, 6, 3, 7, 8, 9])) (.n .l (.n (.o (odL [0, 1, 2, 4, 5, 6, 3, 7, 8, 9])) .l)))))) .l))) (.n .l (.n .l (.n (.n (.j [(172, .bool)] (.o (odL [0, 1, 2, 3, 4, 5, 6, 7, 8, 9, 10, 11, 12, 13, 14, 15, 16, 17, 18, 20, 21, 22, 23, 19, 24, 25, 26, 27, 28, 30, 31, 32, 33, 29, 34, 35, 36]))) .l) (.n .l (.n (.p [(176, (.int .i64))] .l) .l))))))))) .l) .l)))) .l)) .l)))))))) (fn := Try.f5) Try.func5 (by kernel_rfl) h

/- tollhouse/tollhouselaw20.LruKnown -/
def law20_LruKnown_sh (K : Bool → WP) : WP :=
 lru_New 2 fun t24 t24_1 =>
 joinK [(34, .bool)] (fun (j1 : Bool → WP) =>
 law20_awake fun t28 =>
 condK (!t28)
 (j1 true)
 (j1 (t24_1 != 0)))
 fun t34 =>
 condK t34
 (K false)
 (lru_List_Victim t24 fun _ t37_1 =>
 oR (vS (Instr.buildSlice 29 3 #[(0, (.int .i64 1)), (1, (.int .i64 2)), (2, (.int .i64 3))])) fun t40 =>
 len 29 3 t40 fun t41 =>
 loopK [(42, (.int .i64))] (fun (j2 : Int → WP) => j2 0) (fun (j3 : Int → WP) (t42 : Int) =>
 condK (decide (t42 < t41))
 (iI 29 t40 .i64 t42 3 .i64 fun t45 =>
 lru_List_Add t24 t45 fun _ =>
 ArK .i64 (t42 + 1) fun t49 =>
 j3 t49)
 (oR (vS (Instr.buildSlice 29 3 #[(0, (.int .i64 1)), (1, (.int .i64 2)), (2, (.int .i64 3))])) fun t50 =>
 len 29 3 t50 fun t51 =>
 loopK [(52, (.int .i64))] (fun (j4 : Int → WP) => j4 0) (fun (j5 : Int → WP) (t52 : Int) =>
 condK (decide (t52 < t51))
 (iI 29 t50 .i64 t52 3 .i64 fun t55 =>
 lru_List_Touch t24 t55 fun _ =>
 ArK .i64 (t52 + 1) fun t59 =>
 j5 t59)
 (lru_List_Victim t24 fun t62 t62_1 =>
 lru_New 0 fun t66 t66_1 =>
 lru_List_Add t66 5 fun _ =>
 lru_List_Add t66 6 fun _ =>
 lru_List_Touch t66 5 fun t74 =>
 lru_New (-1) fun _ t76_1 =>
 lru_New 65 fun _ t80_1 =>
 lru_New 64 fun _ t84_1 =>
 lru_List_Victim (.pointer none) fun _ t89_1 =>
 condK (!t37_1)
 (condK t62_1
 (condK (t62 == 1)
 (lru_List_Tried t24 fun t103 =>
 oR (vS (Instr.buildSlice 29 1 #[(0, (.int .i64 1))])) fun t104 =>
 ref20_Same t103 t104 fun t105 =>
 condK t105
 (lru_List_Kept t24 fun t109 =>
 oR (vS (Instr.buildSlice 29 2 #[(0, (.int .i64 3)), (1, (.int .i64 2))])) fun t110 =>
 ref20_Same t109 t110 fun t111 =>
 condK t111
 (condK (t66_1 == 0)
 (condK (t74 == 0)
 (lru_List_Tried t66 fun t123 =>
 oR (vS (Instr.buildSlice 29 2 #[(0, (.int .i64 5)), (1, (.int .i64 6))])) fun t124 =>
 ref20_Same t123 t124 fun t125 =>
 condK t125
 (condK (t76_1 == 1)
 (condK (t80_1 == 1)
 (condK (t84_1 == 0)
 (condK (!t89_1)
 (lru_List_Add t24 3 fun t145 =>
 condK (t145 == 9)
 (lru_List_Touch t24 9 fun t150 =>
 condK (t150 == 6)
 (lru_List_Remove t24 9 fun t155 =>
 condK (t155 == 6)
 (lru_List_Add t24 64 fun t160 =>
 condK (t160 == 1)
 (lru_List_Touch t24 (-1) fun t165 =>
 condK (t165 == 1)
 (lru_List_Remove t24 64 fun t170 =>
 condK (t170 == 1)
 (lru_List_Add (.pointer none) 1 fun t175 =>
 condK (t175 == 2)
 (lru_List_Touch (.pointer none) 1 fun t180 =>
 condK (t180 == 2)
 (lru_List_Remove (.pointer none) 1 fun t185 =>
 condK (t185 == 2)
 (lru_List_Tried (.pointer none) fun t190 =>
 len 29 3 t190 fun t191 =>
 condK (t191 == 0)
 (lru_List_Kept (.pointer none) fun t196 =>
 len 29 3 t196 fun t197 =>
 condK (t197 == 0)
 (lru_List_Copy (.pointer none) fun t202 =>
 oB (bS .eql 23 (.tmp 202) (.const (.pointer none)) t202 (.pointer none)) fun t203 =>
 K t203)
 (K false))
 (K false))
 (K false))
 (K false))
 (K false))
 (K false))
 (K false))
 (K false))
 (K false))
 (K false))
 (K false))
 (K false))
 (K false))
 (K false))
 (K false))
 (K false))
 (K false))
 (K false))
 (K false))
 (K false))
 (K false))
 (K false))
 (K false))))))
theorem law20_LruKnown_ok {K : Bool → WP} (w : World) (h : law20_LruKnown_sh K w) : law20_LruKnown K w :=
  fn_ok cx_ok (hi := (.n .l (.n .l (.n (.n (.j [(34, .bool)] .l) .l) (.n .l (.n (.n .l (.n (.p [(42, (.int .i64))] .l) .l)) (.n (.n .l (.n (.p [(52, (.int .i64))] .l) .l)) .l))))))) (fn := Try.f6) Try.func6 (by kernel_rfl) h

end Go.Proofs.Ytgbihlbgkkpciaa
