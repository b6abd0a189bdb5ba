/-
  FUNCTIONS AS PLAIN TERMS, printed by shx.py.
-/
import Derived.Test.YtfofnagocedlgaaGreatDoorWd
set_option linter.unusedVariables false
set_option maxRecDepth 100000
namespace Go.Proofs.YtfofnagocedlgaaGreatDoor
open Go Sh
/- tollhouse/lru.New -/
def lru_New_sh (kept : Int) (K : Value → Int → WP) : WP :=
 condK (decide (kept < 0))
 (K (.pointer none) 1)
 (condK (decide (kept > 64))
 (K (.pointer none) 1)
 (oR (vS (Instr.makeMap 104 none)) fun t10 =>
 oR (vS (Instr.build 107 #[(0, t10), (2, (.int .i64 kept))])) fun t12 =>
 oR (vS (Instr.box 107 t12)) fun t13 =>
 K t13 0))
theorem lru_New_ok {kept : Int} {K : Value → Int → WP} (w : World) (h : lru_New_sh kept K w) : lru_New kept K w :=
  fn_ok cx_ok (hi := .l) (fn := Tryz.f36) Tryz.func36 (by kernel_rfl) h

/- (*tollhouse/lru.List).Add -/
def lru_List_Add_sh (l : Value) (id : Int) (K : Int → WP) : WP :=
 lru_List_ready l id false fun t8 =>
 condK (t8 != 0)
 (K t8)
 (lru_List_put l id (.complex .f64 0 0) fun _ =>
 K 0)
theorem lru_List_Add_ok {l : Value} {id : Int} {K : Int → WP} (w : World) (h : lru_List_Add_sh l id K w) : lru_List_Add l id K w :=
  fn_ok cx_ok (hi := .l) (fn := Tryz.f45) Tryz.func45 (by kernel_rfl) h

/- (*tollhouse/lru.List).Touch -/
def lru_List_Touch_sh (l : Value) (id : Int) (K : Int → WP) : WP :=
 lru_List_ready l id true fun t9 =>
 condK (t9 != 0)
 (K t9)
 (lru_List_put l id (.complex .f64 0 4607182418800017408) fun _ =>
 lru_List_Kept l fun t17 =>
 len 108 3 t17 fun t19 =>
 nI 107 l 2 3 .i64 fun t23 =>
 condK (decide (t19 > t23))
 (len 108 3 t17 fun t28 =>
 ArK .i64 (t28 - 1) fun t29 =>
 iI 108 t17 .i64 t29 3 .i64 fun t31 =>
 lru_List_put l t31 (.complex .f64 0 0) fun _ =>
 K 0)
 (K 0))
theorem lru_List_Touch_ok {l : Value} {id : Int} {K : Int → WP} (w : World) (h : lru_List_Touch_sh l id K w) : lru_List_Touch l id K w :=
  fn_ok cx_ok (hi := .l) (fn := Tryz.f47) Tryz.func47 (by kernel_rfl) h

/- (*tollhouse/lru.List).Kept -/
def lru_List_Kept_sh (l : Value) (K : Value → WP) : WP :=
 lru_List_in l (.complex .f64 0 4607182418800017408) fun t4 =>
 K t4
theorem lru_List_Kept_ok {l : Value} {K : Value → WP} (w : World) (h : lru_List_Kept_sh l K w) : lru_List_Kept l K w :=
  fn_ok cx_ok (hi := .l) (fn := Tryz.f71) Tryz.func71 (by kernel_rfl) h

/- (*tollhouse/lru.List).Tried -/
def lru_List_Tried_sh (l : Value) (K : Value → WP) : WP :=
 lru_List_in l (.complex .f64 0 0) fun t4 =>
 K t4
theorem lru_List_Tried_ok {l : Value} {K : Value → WP} (w : World) (h : lru_List_Tried_sh l K w) : lru_List_Tried l K w :=
  fn_ok cx_ok (hi := .l) (fn := Tryz.f70) Tryz.func70 (by kernel_rfl) h

/- (*tollhouse/lru.List).Victim -/
def lru_List_Victim_sh (l : Value) (K : Int → Bool → WP) : WP :=
 lru_List_Tried l fun t7 =>
 lru_List_Kept l fun t9 =>
 oR (vS (Instr.buildSlice 110 2 #[(0, t7), (1, t9)])) fun t10 =>
 len 110 3 t10 fun t11 =>
 loopK [(12, (.int .i64))] (fun (j1 : Int → WP) => j1 0) (fun (j2 : Int → WP) (t12 : Int) =>
 condK (decide (t12 < t11))
 (iR 110 t10 .i64 t12 108 fun t15 =>
 len 108 3 t15 fun t17 =>
 condK (decide (t17 > 0))
 (len 108 3 t15 fun t21 =>
 ArK .i64 (t21 - 1) fun t22 =>
 iI 108 t15 .i64 t22 3 .i64 fun t24 =>
 K t24 true)
 (ArK .i64 (t12 + 1) fun t25 =>
 j2 t25))
 (K 0 false))
theorem lru_List_Victim_ok {l : Value} {K : Int → Bool → WP} (w : World) (h : lru_List_Victim_sh l K w) : lru_List_Victim l K w :=
  fn_ok cx_ok (hi := (.n .l (.n (.n .l (.n (.p [(12, (.int .i64))] .l) .l)) .l))) (fn := Tryz.f40) Tryz.func40 (by kernel_rfl) h

/- (*tollhouse/lru.List).Remove -/
def lru_List_Remove_sh (l : Value) (id : Int) (K : Int → WP) : WP :=
 lru_List_ready l id true fun t8 =>
 condK (t8 != 0)
 (K t8)
 (nR 107 l 0 104 fun t15 =>
 oR (vS (Builtin.delete_ #[104, 3] 0 #[t15, (.int .i64 id)])) fun _ =>
 K 0)
theorem lru_List_Remove_ok {l : Value} {id : Int} {K : Int → WP} (w : World) (h : lru_List_Remove_sh l id K w) : lru_List_Remove l id K w :=
  fn_ok cx_ok (hi := .l) (fn := Tryz.f72) Tryz.func72 (by kernel_rfl) h

/- (*tollhouse/lru.List).Copy -/
def lru_List_Copy_sh (l : Value) (K : Value → WP) : WP :=
 oB (bS .eql 65 (.tmp 4) (.const (.pointer none)) l (.pointer none)) fun t5 =>
 condK t5
 (K (.pointer none))
 (NilK l <|
 lR 107 l fun t8 =>
 oR (vS (Instr.alloc 107 true (.tuple #[]))) fun x =>
 sto 107 x t8 <|
 nR 107 l 0 104 fun t12 =>
 maps_Clone_int_complex128 t12 fun t13 =>
 fW 107 x 0 104 t13 <|
 K x)
theorem lru_List_Copy_ok {l : Value} {K : Value → WP} (w : World) (h : lru_List_Copy_sh l K w) : lru_List_Copy l K w :=
  fn_ok cx_ok (hi := .l) (fn := Tryz.f60) Tryz.func60 (by kernel_rfl) h

/- (*tollhouse/lru.List).ready -/
def lru_List_ready_sh (l : Value) (id : Int) (there : Bool) (K : Int → WP) : WP :=
 joinK [(17, .bool)] (fun (j1 : Bool → WP) =>
 oB (bS .eql 65 (.tmp 9) (.const (.pointer none)) l (.pointer none)) fun t10 =>
 condK t10
 (j1 true)
 (nR 107 l 0 104 fun t15 =>
 oB (bS .eql 104 (.tmp 15) (.const (.map none)) t15 (.map none)) fun t16 =>
 j1 t16))
 fun t17 =>
 condK t17
 (K 2)
 (joinK [(23, .bool)] (fun (j2 : Bool → WP) =>
 condK (decide (id < 0))
 (j2 true)
 (j2 (decide (id ≥ 64))))
 fun t23 =>
 condK t23
 (K 1)
 (nR 107 l 0 104 fun t28 =>
 OpK P (.tup [.raw, .bool]) (vS (Instr.lookup 104 t28 (.int .i64 id) true)) fun _ t30_1 =>
 condK t30_1
 (condK (!there)
 (K 9)
 (condK (!t30_1)
 (condK there
 (K 6)
 (K 0))
 (K 0)))
 (condK (!t30_1)
 (condK there
 (K 6)
 (K 0))
 (K 0))))
theorem lru_List_ready_ok {l : Value} {id : Int} {there : Bool} {K : Int → WP} (w : World) (h : lru_List_ready_sh l id there K w) : lru_List_ready l id there K w :=
  fn_ok cx_ok (hi := (.n .l (.n (.n (.j [(17, .bool)] .l) .l) (.n (.n (.j [(23, .bool)] .l) .l) .l)))) (fn := Tryz.f75) Tryz.func75 (by kernel_rfl) h

/- (*tollhouse/lru.List).put -/
def lru_List_put_sh (l : Value) (id : Int) (segment : Value) (K : Value → WP) : WP :=
 nR 107 l 1 105 fun t9 =>
 oR (bS .add 105 (.tmp 9) (.const (.float .f64 4607182418800017408)) t9 (.float .f64 4607182418800017408)) fun t10 =>
 nW 107 l 1 105 t10 <|
 DrawK fun S =>
 hR S 107 l 0 104 fun t16 =>
 hR S 107 l 1 105 fun t21 =>
 qR (vS (Builtin.complex_ #[105, 105] 114 #[t21, (.float .f64 0)])) fun t22 =>
 qR (bS .add 114 (.tmp 22) (.tmp 23) t22 segment) fun t24 =>
 oR (uS (Instr.mapUpdate 104 t16 (.int .i64 id) t24)) fun _ =>
 K (.tuple #[])
theorem lru_List_put_ok {l : Value} {id : Int} {segment : Value} {K : Value → WP} (w : World) (h : lru_List_put_sh l id segment K w) : lru_List_put l id segment K w :=
  fn_ok cx_ok (hi := (.n .l (.o (odR 0 13)))) (fn := Tryz.f76) Tryz.func76 (by kernel_rfl) h

/- (*tollhouse/lru.List).in -/
def lru_List_in_sh (l : Value) (segment : Value) (K : Value → WP) : WP :=
 oR (vS (Instr.box 65 l)) fun l_1 =>
 lR 65 l_1 fun t8 =>
 oB (bS .eql 65 (.tmp 8) (.const (.pointer none)) t8 (.pointer none)) fun t9 =>
 condK t9
 (K (.slice none 0 0))
 (lR 65 l_1 fun t10 =>
 nR 107 t10 0 104 fun t13 =>
 oR (vS (Instr.range 104 t13)) fun t14 =>
 loopK [(5, .raw)] (fun (j1 : Value → WP) => j1 (.slice none 0 0)) (fun (j2 : Value → WP) (out : Value) =>
 NxK P (vS (Instr.next t14 false 0)) .raw .raw
 (slices_SortFunc_int out (.func (.func 100) #[] #[l_1]) fun _ =>
 K out)
 fun _ _ =>
 EnK P (vS (Instr.entry t14)) (.int .i64) .raw fun u_2 u_3 =>
 oR (vS (Builtin.imag_ #[114] 105 #[u_3])) fun t21 =>
 oR (vS (Builtin.imag_ #[114] 105 #[segment])) fun t23 =>
 oB (bS .eql 105 (.tmp 21) (.tmp 23) t21 t23) fun t24 =>
 condK t24
 (oR (vS (Instr.buildSlice 108 1 #[(0, (.int .i64 u_2))])) fun t27 =>
 app 108 108 108 out t27 fun t28 =>
 j2 t28)
 (j2 out)))
theorem lru_List_in_ok {l : Value} {segment : Value} {K : Value → WP} (w : World) (h : lru_List_in_sh l segment K w) : lru_List_in l segment K w :=
  fn_ok cx_ok (hi := (.n .l (.n .l (.n .l (.n (.n .l (.n (.p [(5, .raw)] (.n .l (.n .l (.n (.n (.e (.int .i64) .raw) .l) .l)))) .l)) .l))))) (fn := Tryz.f90) Tryz.func90 (by kernel_rfl) h

/- (*tollhouse/lru.List).in$1 -/
def lru_List_in_c1_sh (a : Int) (b : Int) (t2 : Value) (K : Int → WP) : WP :=
 DrawK fun S =>
 sR S (vS (Instr.loadAt 65 t2)) fun t6 =>
 hR S 107 t6 0 104 fun t9 =>
 sR S (vS (Instr.lookup 104 t9 (.int .i64 b) false)) fun t11 =>
 qR (vS (Builtin.real_ #[114] 105 #[t11])) fun t12 =>
 sR S (vS (Instr.loadAt 65 t2)) fun t13 =>
 hR S 107 t13 0 104 fun t16 =>
 sR S (vS (Instr.lookup 104 t16 (.int .i64 a) false)) fun t18 =>
 qR (vS (Builtin.real_ #[114] 105 #[t18])) fun t19 =>
 cmp_Compare_float64 t12 t19 fun t20 =>
 andK S <|
 K t20
theorem lru_List_in_c1_ok {a : Int} {b : Int} {t2 : Value} {K : Int → WP} (w : World) (h : lru_List_in_c1_sh a b t2 K w) : lru_List_in_c1 a b t2 K w :=
  fn_ok cx_ok (hi := (.n .l (.n (.o (odR 0 16)) .l))) (fn := Tryz.f100) Tryz.func100 (by kernel_rfl) h

/- maps.Clone[map[int]complex128,int,complex128] -/
def maps_Clone_int_complex128_sh (m : Value) (K : Value → WP) : WP :=
 oB (bS .eql 104 (.tmp 3) (.const (.map none)) m (.map none)) fun t4 =>
 condK t4
 (K (.map none))
 (oR (vS (Instr.makeInterface 104 m)) fun t6 =>
 oR (callFunc 92 #[t6]) fun t7 =>
 oR (vS (Instr.typeAssert t7 20 104 false)) fun t8 =>
 K t8)
theorem maps_Clone_int_complex128_ok {m : Value} {K : Value → WP} (w : World) (h : maps_Clone_int_complex128_sh m K w) : maps_Clone_int_complex128 m K w :=
  fn_ok cx_ok (hi := .l) (fn := Tryz.f83) Tryz.func83 (by kernel_rfl) h

/- cmp.Compare[float64] -/
def cmp_Compare_float64_sh (x : Value) (y : Value) (K : Int → WP) : WP :=
 cmp_isNaN_float64 x fun t8 =>
 cmp_isNaN_float64 y fun t10 =>
 condK t8
 (condK t10
 (K 0)
 (K (-1)))
 (condK t10
 (K 1)
 (oB (bS .lss 105 (.tmp 14) (.tmp 15) x y) fun t16 =>
 condK t16
 (K (-1))
 (oB (bS .gtr 105 (.tmp 17) (.tmp 18) x y) fun t19 =>
 condK t19
 (K 1)
 (K 0))))
theorem cmp_Compare_float64_ok {x : Value} {y : Value} {K : Int → WP} (w : World) (h : cmp_Compare_float64_sh x y K w) : cmp_Compare_float64 x y K w :=
  fn_ok cx_ok (hi := .l) (fn := Tryz.f101) Tryz.func101 (by kernel_rfl) h

/- cmp.isNaN[float64] -/
def cmp_isNaN_float64_sh (x : Value) (K : Bool → WP) : WP :=
 oB (bS .neq 105 (.tmp 3) (.tmp 4) x x) fun t5 =>
 K t5
theorem cmp_isNaN_float64_ok {x : Value} {K : Bool → WP} (w : World) (h : cmp_isNaN_float64_sh x K w) : cmp_isNaN_float64 x K w :=
  fn_ok cx_ok (hi := .l) (fn := Tryz.f107) Tryz.func107 (by kernel_rfl) h

/- tollhouse/tollhouseref20.New -/
def ref20_New_sh (kept : Int) (K : Value → Int → WP) : WP :=
 condK (decide (kept < 0))
 (K (.pointer none) 1)
 (condK (decide (kept > 64))
 (K (.pointer none) 1)
 (oR (vS (Instr.build 117 #[(2, (.int .i64 kept))])) fun t11 =>
 oR (vS (Instr.box 117 t11)) fun t12 =>
 K t12 0))
theorem ref20_New_ok {kept : Int} {K : Value → Int → WP} (w : World) (h : ref20_New_sh kept K w) : ref20_New kept K w :=
  fn_ok cx_ok (hi := .l) (fn := Tryz.f52) Tryz.func52 (by kernel_rfl) h

/- (*tollhouse/tollhouseref20.List).Add -/
def ref20_List_Add_sh (l : Value) (id : Int) (K : Int → WP) : WP :=
 ref20_may id fun t6 =>
 condK (!t6)
 (K 1)
 (ref20_List_Has l id fun t10 =>
 condK t10
 (K 9)
 (nR 117 l 0 108 fun t15 =>
 ref20_ahead t15 id fun t17 =>
 nW 117 l 0 108 t17 <|
 K 0))
theorem ref20_List_Add_ok {l : Value} {id : Int} {K : Int → WP} (w : World) (h : ref20_List_Add_sh l id K w) : ref20_List_Add l id K w :=
  fn_ok cx_ok (hi := .l) (fn := Tryz.f57) Tryz.func57 (by kernel_rfl) h

/- (*tollhouse/tollhouseref20.List).Touch -/
def ref20_List_Touch_sh (l : Value) (id : Int) (K : Int → WP) : WP :=
 ref20_may id fun t7 =>
 condK (!t7)
 (K 1)
 (ref20_List_Has l id fun t11 =>
 condK (!t11)
 (K 6)
 (nR 117 l 0 108 fun t17 =>
 ref20_without t17 id fun t19 =>
 nW 117 l 0 108 t19 <|
 nR 117 l 1 108 fun t26 =>
 ref20_without t26 id fun t28 =>
 ref20_ahead t28 id fun t30 =>
 nW 117 l 1 108 t30 <|
 DrawK fun S =>
 hR S 117 l 1 108 fun t36 =>
 sI S .i64 (vS (Builtin.len_ #[108] 3 #[t36])) fun t37 =>
 hI S 117 l 2 3 .i64 fun t41 =>
 condK (decide (t37 > t41))
 (DrawK fun S =>
 hR S 117 l 1 108 fun t46 =>
 hR S 117 l 1 108 fun t50 =>
 sI S .i64 (vS (Builtin.len_ #[108] 3 #[t50])) fun t51 =>
 ArK .i64 (t51 - 1) fun t52 =>
 jI S 108 t46 .i64 t52 3 .i64 fun t54 =>
 nR 117 l 1 108 fun t59 =>
 ref20_without t59 t54 fun t61 =>
 nW 117 l 1 108 t61 <|
 nR 117 l 0 108 fun t68 =>
 ref20_ahead t68 t54 fun t70 =>
 nW 117 l 0 108 t70 <|
 K 0)
 (K 0)))
theorem ref20_List_Touch_ok {l : Value} {id : Int} {K : Int → WP} (w : World) (h : ref20_List_Touch_sh l id K w) : ref20_List_Touch l id K w :=
  fn_ok cx_ok (hi := (.n .l (.n .l (.n .l (.n .l (.n .l (.n (.n (.o (odR 0 10)) (.n (.n (.o (odR 0 13)) .l) .l)) .l))))))) (fn := Tryz.f59) Tryz.func59 (by kernel_rfl) h

/- (*tollhouse/tollhouseref20.List).Remove -/
def ref20_List_Remove_sh (l : Value) (id : Int) (K : Int → WP) : WP :=
 ref20_may id fun t6 =>
 condK (!t6)
 (K 1)
 (ref20_List_Has l id fun t10 =>
 condK (!t10)
 (K 6)
 (nR 117 l 0 108 fun t16 =>
 ref20_without t16 id fun t18 =>
 nW 117 l 0 108 t18 <|
 nR 117 l 1 108 fun t25 =>
 ref20_without t25 id fun t27 =>
 nW 117 l 1 108 t27 <|
 K 0))
theorem ref20_List_Remove_ok {l : Value} {id : Int} {K : Int → WP} (w : World) (h : ref20_List_Remove_sh l id K w) : ref20_List_Remove l id K w :=
  fn_ok cx_ok (hi := .l) (fn := Tryz.f78) Tryz.func78 (by kernel_rfl) h

/- (*tollhouse/tollhouseref20.List).Victim -/
def ref20_List_Victim_sh (l : Value) (K : Int → Bool → WP) : WP :=
 nR 117 l 0 108 fun t7 =>
 len 108 3 t7 fun t8 =>
 condK (decide (t8 > 0))
 (DrawK fun S =>
 hR S 117 l 0 108 fun t13 =>
 hR S 117 l 0 108 fun t17 =>
 sI S .i64 (vS (Builtin.len_ #[108] 3 #[t17])) fun t18 =>
 ArK .i64 (t18 - 1) fun t19 =>
 jI S 108 t13 .i64 t19 3 .i64 fun t21 =>
 K t21 true)
 (nR 117 l 1 108 fun t25 =>
 len 108 3 t25 fun t26 =>
 condK (decide (t26 > 0))
 (DrawK fun S =>
 hR S 117 l 1 108 fun t31 =>
 hR S 117 l 1 108 fun t35 =>
 sI S .i64 (vS (Builtin.len_ #[108] 3 #[t35])) fun t36 =>
 ArK .i64 (t36 - 1) fun t37 =>
 jI S 108 t31 .i64 t37 3 .i64 fun t39 =>
 K t39 true)
 (K 0 false))
theorem ref20_List_Victim_ok {l : Value} {K : Int → Bool → WP} (w : World) (h : ref20_List_Victim_sh l K w) : ref20_List_Victim l K w :=
  fn_ok cx_ok (hi := (.n .l (.n (.n .l (.n (.n (.o (odR 0 14)) .l) .l)) (.n (.n .l (.n (.n (.o (odR 0 14)) .l) .l)) .l)))) (fn := Tryz.f56) Tryz.func56 (by kernel_rfl) h

/- tollhouse/tollhouseref20.may -/
def ref20_may_sh (id : Int) (K : Bool → WP) : WP :=
 condK (decide (id ≥ 0))
 (K (decide (id < 64)))
 (K false)
theorem ref20_may_ok {id : Int} {K : Bool → WP} (w : World) (h : ref20_may_sh id K w) : ref20_may id K w :=
  fn_ok cx_ok (hi := .l) (fn := Tryz.f79) Tryz.func79 (by kernel_rfl) h

/- (*tollhouse/tollhouseref20.List).Has -/
def ref20_List_Has_sh (l : Value) (id : Int) (K : Bool → WP) : WP :=
 nR 117 l 0 108 fun t8 =>
 ref20_has t8 id fun t10 =>
 condK t10
 (K true)
 (nR 117 l 1 108 fun t15 =>
 ref20_has t15 id fun t17 =>
 K t17)
theorem ref20_List_Has_ok {l : Value} {id : Int} {K : Bool → WP} (w : World) (h : ref20_List_Has_sh l id K w) : ref20_List_Has l id K w :=
  fn_ok cx_ok (hi := .l) (fn := Tryz.f80) Tryz.func80 (by kernel_rfl) h

/- tollhouse/tollhouseref20.ahead -/
def ref20_ahead_sh (l : Value) (id : Int) (K : Value → WP) : WP :=
 oR (vS (Instr.buildSlice 108 1 #[(0, (.int .i64 id))])) fun t8 =>
 oR (vS (Builtin.append_ #[108, 108] 108 #[(.slice none 0 0), t8])) fun t9 =>
 app 108 108 108 t9 l fun t12 =>
 K t12
theorem ref20_ahead_ok {l : Value} {id : Int} {K : Value → WP} (w : World) (h : ref20_ahead_sh l id K w) : ref20_ahead l id K w :=
  fn_ok cx_ok (hi := .l) (fn := Tryz.f81) Tryz.func81 (by kernel_rfl) h

/- tollhouse/tollhouseref20.without -/
def ref20_without_sh (l : Value) (id : Int) (K : Value → WP) : WP :=
 loopK [(5, .raw), (6, (.int .i64))] (fun (j1 : Value → Int → WP) => j1 (.slice none 0 0) 0) (fun (j2 : Value → Int → WP) (out : Value) (i : Int) =>
 len 108 3 l fun t9 =>
 condK (decide (i < t9))
 (iI 108 l .i64 i 3 .i64 fun t16 =>
 condK (t16 != id)
 (iI 108 l .i64 i 3 .i64 fun t23 =>
 oR (vS (Instr.buildSlice 108 1 #[(0, (.int .i64 t23))])) fun t24 =>
 app 108 108 108 out t24 fun t25 =>
 ArK .i64 (i + 1) fun t12 =>
 j2 t25 t12)
 (ArK .i64 (i + 1) fun t12_1 =>
 j2 out t12_1))
 (K out))
theorem ref20_without_ok {l : Value} {id : Int} {K : Value → WP} (w : World) (h : ref20_without_sh l id K w) : ref20_without l id K w :=
  fn_ok cx_ok (hi := (.n .l (.n .l (.n (.n .l (.n (.p [(5, .raw), (6, (.int .i64))] .l) .l)) .l)))) (fn := Tryz.f82) Tryz.func82 (by kernel_rfl) h

/- tollhouse/tollhouseref20.has -/
def ref20_has_sh (l : Value) (id : Int) (K : Bool → WP) : WP :=
 loopK [(5, (.int .i64))] (fun (j1 : Int → WP) => j1 0) (fun (j2 : Int → WP) (i : Int) =>
 len 108 3 l fun t8 =>
 condK (decide (i < t8))
 (iI 108 l .i64 i 3 .i64 fun t15 =>
 condK (t15 == id)
 (K true)
 (ArK .i64 (i + 1) fun t11 =>
 j2 t11))
 (K false))
theorem ref20_has_ok {l : Value} {id : Int} {K : Bool → WP} (w : World) (h : ref20_has_sh l id K w) : ref20_has l id K w :=
  fn_ok cx_ok (hi := (.n .l (.n (.n .l (.n (.p [(5, (.int .i64))] .l) .l)) .l))) (fn := Tryz.f91) Tryz.func91 (by kernel_rfl) h

end Go.Proofs.YtfofnagocedlgaaGreatDoor
