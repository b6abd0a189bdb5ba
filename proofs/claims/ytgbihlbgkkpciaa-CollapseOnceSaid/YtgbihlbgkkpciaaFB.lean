/-
  FUNCTIONS AS PLAIN TERMS, printed by shx.py.
-/
import Derived.Test.YtgbihlbgkkpciaaWd
set_option linter.unusedVariables false
set_option maxRecDepth 100000
namespace Go.Proofs.Ytgbihlbgkkpciaa
open Go Sh
/- tollhouse/collapse.New -/
def collapse_New_sh (waiters : Int) (K : Value → Int → WP) : WP :=
 condK (decide (waiters < 0))
 (K (.pointer none) 1)
 (condK (decide (waiters > 16))
 (K (.pointer none) 1)
 (oR (vS (Instr.makeMap 85 none)) fun t10 =>
 oR (vS (Instr.build 87 #[(0, t10), (1, (.int .i64 waiters))])) fun t12 =>
 oR (vS (Instr.box 87 t12)) fun t13 =>
 K t13 0))
theorem collapse_New_ok {waiters : Int} {K : Value → Int → WP} (w : World) (h : collapse_New_sh waiters K w) : collapse_New waiters K w :=
  fn_ok cx_ok (hi := .l) (fn := Try.f24) Try.func24 (by kernel_rfl) h

/- tollhouse/tollhouselaw24.awake -/
def law24_awake_sh (K : Bool → WP) : WP :=
 collapse_New 1 fun t15 t15_1 =>
 joinK [(24, .bool)] (fun (j1 : Bool → WP) =>
 condK (t15_1 != 0)
 (j1 true)
 (collapse_Table_Begin t15 2 (⟨#[117]⟩ : ByteArray) true 0 fun t22 =>
 j1 (t22 != 0)))
 fun t24 =>
 condK t24
 (K false)
 (collapse_Table_Join t15 (⟨#[117]⟩ : ByteArray) 1 fun t27 t27_1 =>
 collapse_Table_Join t15 (⟨#[117]⟩ : ByteArray) 3 fun _ t32_1 =>
 collapse_Table_Join t15 (⟨#[118]⟩ : ByteArray) 3 fun _ t37_1 =>
 collapse_Table_Leave t15 1 fun t41 =>
 collapse_Table_Join t15 (⟨#[117]⟩ : ByteArray) 3 fun t44 t44_1 =>
 collapse_Table_End t15 2 fun t49 t49_1 =>
 oR (vS (Instr.alloc 66 true (.tuple #[]))) fun j =>
 sto 66 j t49 <|
 condK (t27 == 2)
 (condK (t27_1 == 0)
 (condK (t32_1 == 33)
 (condK (t37_1 == 6)
 (condK t41
 (condK (t44 == 2)
 (condK (t44_1 == 0)
 (condK (t49_1 == 0)
 (fI 66 j 3 3 .i64 fun t83 =>
 condK (t83 == 0)
 (fR 66 j 4 29 fun t88 =>
 oR (vS (Instr.buildSlice 29 1 #[(0, (.int .i64 3))])) fun t89 =>
 ref20_Same t88 t89 fun t90 =>
 K t90)
 (K false))
 (K false))
 (K false))
 (K false))
 (K false))
 (K false))
 (K false))
 (K false))
 (K false))
theorem law24_awake_ok {K : Bool → WP} (w : World) (h : law24_awake_sh K w) : law24_awake K w :=
  fn_ok cx_ok (hi := (.n .l (.n .l (.n (.n (.j [(24, .bool)] .l) .l) .l)))) (fn := Try.f25) Try.func25 (by kernel_rfl) h

/- tollhouse/tollhouselaw24.CollapseOnce$1 -/
def law24_CollapseOnce_c1_sh (slot : Int) (t1 : Value) (K : Value → WP) : WP :=
 lR 53 t1 fun t8 =>
 oR (vS (Instr.range 53 t8)) fun t9 =>
 loopK [] (fun (j1 : WP) => j1) (fun (j2 : WP) =>
 NxK P (vS (Instr.next t9 false 0)) .raw .raw
 (K (.tuple #[]))
 fun _ _ =>
 EnK P (vS (Instr.entry t9)) (.int .i64) .raw fun u_2 u_3 =>
 len 29 3 u_3 fun t16 =>
 loopK [(5, .raw), (17, (.int .i64))] (fun (j3 : Value → Int → WP) => j3 (.slice none 0 0) 0) (fun (j4 : Value → Int → WP) (left : Value) (t17 : Int) =>
 condK (decide (t17 < t16))
 (iI 29 u_3 .i64 t17 3 .i64 fun t20 =>
 condK (t20 != slot)
 (oR (vS (Instr.buildSlice 29 1 #[(0, (.int .i64 t20))])) fun t26 =>
 app 29 29 29 left t26 fun t27 =>
 ArK .i64 (t17 + 1) fun t28 =>
 j4 t27 t28)
 (ArK .i64 (t17 + 1) fun t28_1 =>
 j4 left t28_1))
 (lR 53 t1 fun t29 =>
 oR (uS (Instr.mapUpdate 53 t29 (.int .i64 u_2) left)) fun _ =>
 j2)))
theorem law24_CollapseOnce_c1_ok {slot : Int} {t1 : Value} {K : Value → WP} (w : World) (h : law24_CollapseOnce_c1_sh slot t1 K w) : law24_CollapseOnce_c1 slot t1 K w :=
  fn_ok cx_ok (hi := (.n .l (.n (.p [] (.n .l (.n .l (.n (.n (.e (.int .i64) .raw) (.n .l (.n (.n .l (.n (.p [(5, .raw), (17, (.int .i64))] .l) .l)) .l))) .l)))) .l))) (fn := Try.f26) Try.func26 (by kernel_rfl) h

/- (*tollhouse/collapse.Table).Begin -/
def collapse_Table_Begin_sh (t : Value) (conn : Int) (url : ByteArray) (shared : Bool) (leader : Int) (K : Int → WP) : WP :=
 joinK [(13, .bool)] (fun (j1 : Bool → WP) =>
 oB (bS .eql 49 (.tmp 14) (.const (.pointer none)) t (.pointer none)) fun t15 =>
 condK t15
 (j1 true)
 (nR 87 t 0 85 fun t20 =>
 oB (bS .eql 85 (.tmp 20) (.const (.map none)) t20 (.map none)) fun t21 =>
 j1 t21))
 fun t13 =>
 condK t13
 (K 2)
 (joinK [(23, .bool)] (fun (j2 : Bool → WP) =>
 condK (decide (conn < 0))
 (j2 true)
 (condK (decide (conn ≥ 8))
 (j2 true)
 (collapse_slot leader fun t32 =>
 j2 (!t32))))
 fun t23 =>
 condK t23
 (K 1)
 (collapse_Table_Of t leader fun _ t38_1 =>
 joinK [(50, .bool)] (fun (j3 : Bool → WP) =>
 condK t38_1
 (j3 true)
 (nR 87 t 0 85 fun t46 =>
 oR (vS (Instr.lookup 85 t46 (.int .i64 conn) false)) fun t48 =>
 oB (bS .neq 88 (.tmp 48) (.const (.pointer none)) t48 (.pointer none)) fun t49 =>
 j3 t49))
 fun t50 =>
 condK t50
 (K 9)
 (nR 87 t 0 85 fun t54 =>
 oR (vS (Instr.build 66 #[(0, (.string url)), (1, (.bool shared)), (3, (.int .i64 leader))])) fun t59 =>
 oR (vS (Instr.box 66 t59)) fun t60 =>
 oR (uS (Instr.mapUpdate 85 t54 (.int .i64 conn) t60)) fun _ =>
 K 0)))
theorem collapse_Table_Begin_ok {t : Value} {conn : Int} {url : ByteArray} {shared : Bool} {leader : Int} {K : Int → WP} (w : World) (h : collapse_Table_Begin_sh t conn url shared leader K w) : collapse_Table_Begin t conn url shared leader K w :=
  fn_ok cx_ok (hi := (.n .l (.n (.n (.n (.j [(13, .bool)] .l) (.n .l (.n (.j [(23, .bool)] .l) .l))) .l) (.n (.n .l (.n (.j [(50, .bool)] .l) .l)) .l)))) (fn := Try.f27) Try.func27 (by kernel_rfl) h

/- (*tollhouse/collapse.Table).Join -/
def collapse_Table_Join_sh (t : Value) (url : ByteArray) (n : Int) (K : Int → Int → WP) : WP :=
 oR (vS (Instr.box 9 (.string url))) fun url_1 =>
 joinK [(12, .bool)] (fun (j1 : Bool → WP) =>
 oB (bS .eql 49 (.tmp 13) (.const (.pointer none)) t (.pointer none)) fun t14 =>
 condK t14
 (j1 true)
 (nR 87 t 0 85 fun t19 =>
 oB (bS .eql 85 (.tmp 19) (.const (.map none)) t19 (.map none)) fun t20 =>
 j1 t20))
 fun t12 =>
 condK t12
 (K (-1) 2)
 (collapse_slot n fun t24 =>
 condK (!t24)
 (K (-1) 1)
 (collapse_Table_Of t n fun _ t29_1 =>
 condK t29_1
 (K (-1) 9)
 (collapse_Table_least t (.func (.func 45) #[] #[url_1]) fun t36 t36_1 =>
 condK (!t36_1)
 (K (-1) 6)
 (DrawK fun S =>
 hI S 87 t 1 3 .i64 fun t46 =>
 collapse_Table_Waiting t fun t42 =>
 andK S <|
 condK (decide (t42 ≥ t46))
 (K (-1) 33)
 (DrawK fun S =>
 hR S 87 t 0 85 fun t51 =>
 sR S (vS (Instr.lookup 85 t51 (.int .i64 t36) false)) fun t53 =>
 hR S 87 t 0 85 fun t57 =>
 sR S (vS (Instr.lookup 85 t57 (.int .i64 t36) false)) fun t59 =>
 hR S 66 t59 4 29 fun t62 =>
 oR (vS (Instr.buildSlice 29 1 #[(0, (.int .i64 n))])) fun t64 =>
 andK S <|
 app 29 29 29 t62 t64 fun t65 =>
 andK S <|
 NilK t53 <|
 qR (vS (Instr.fieldAt 66 t53 4)) fun t67 =>
 sto 29 t67 t65 <|
 K t36 0)))))
theorem collapse_Table_Join_ok {t : Value} {url : ByteArray} {n : Int} {K : Int → Int → WP} (w : World) (h : collapse_Table_Join_sh t url n K w) : collapse_Table_Join t url n K w :=
  fn_ok cx_ok (hi := (.n .l (.n (.n (.n (.j [(12, .bool)] .l) .l) .l) (.n .l (.n .l (.n .l (.n (.n (.o (odL [0, 2, 3, 4, 5, 1, 6])) .l) (.n (.o (odR 0 21)) .l)))))))) (fn := Try.f28) Try.func28 (by kernel_rfl) h

/- (*tollhouse/collapse.Table).Leave -/
def collapse_Table_Leave_sh (t : Value) (slot : Int) (K : Bool → WP) : WP :=
 oR (vS (Instr.box 3 (.int .i64 slot))) fun slot_1 =>
 lI 3 .i64 slot_1 fun t10 =>
 collapse_Table_Of t t10 fun t11 t11_1 =>
 condK (!t11_1)
 (K false)
 (nR 87 t 0 85 fun t19 =>
 oR (vS (Instr.lookup 85 t19 (.int .i64 t11) false)) fun t21 =>
 joinK [] (fun (j1 : WP) =>
 DrawK fun S =>
 hI S 66 t21 3 3 .i64 fun t25 =>
 sI S .i64 (vS (Instr.loadAt 3 slot_1)) fun t26 =>
 condK (t25 == t26)
 (nW 66 t21 3 3 (.int .i64 (-1)) <|
 j1)
 (j1))
 <|
 nR 66 t21 4 29 fun t35 =>
 slices_DeleteFunc_int t35 (.func (.func 47) #[] #[slot_1]) fun t37 =>
 nW 66 t21 4 29 t37 <|
 K true)
theorem collapse_Table_Leave_ok {t : Value} {slot : Int} {K : Bool → WP} (w : World) (h : collapse_Table_Leave_sh t slot K w) : collapse_Table_Leave t slot K w :=
  fn_ok cx_ok (hi := (.n .l (.n .l (.n .l (.n .l (.n (.j [] (.n (.o (odR 0 6)) .l)) .l)))))) (fn := Try.f29) Try.func29 (by kernel_rfl) h

/- (*tollhouse/collapse.Table).Spoil -/
def collapse_Table_Spoil_sh (t : Value) (url : ByteArray) (K : Int → WP) : WP :=
 oB (bS .neq 49 (.tmp 8) (.const (.pointer none)) t (.pointer none)) fun t9 =>
 condK t9
 (nR 87 t 0 85 fun t13 =>
 oR (vS (Instr.range 85 t13)) fun t14 =>
 loopK [(5, (.int .i64))] (fun (j1 : Int → WP) => j1 0) (fun (j2 : Int → WP) (n : Int) =>
 NxK P (vS (Instr.next t14 false 0)) .raw .raw
 (K n)
 fun _ _ =>
 EnK P (vS (Instr.entry t14)) .raw .raw fun _ u_3 =>
 nS 66 u_3 0 9 fun t22 =>
 oB (bS .eql 9 (.tmp 22) (.tmp 23) (.string t22) (.string url)) fun t24 =>
 condK t24
 (nW 66 u_3 2 4 (.bool true) <|
 ArK .i64 (n + 1) fun t29 =>
 j2 t29)
 (j2 n)))
 (K 0)
theorem collapse_Table_Spoil_ok {t : Value} {url : ByteArray} {K : Int → WP} (w : World) (h : collapse_Table_Spoil_sh t url K w) : collapse_Table_Spoil t url K w :=
  fn_ok cx_ok (hi := (.n .l (.n .l (.n (.n .l (.n (.n .l (.n (.p [(5, (.int .i64))] (.n .l (.n .l (.n (.n (.e .raw .raw) .l) .l)))) .l)) .l)) .l)))) (fn := Try.f30) Try.func30 (by kernel_rfl) h

/- (*tollhouse/collapse.Table).End -/
def collapse_Table_End_sh (t : Value) (conn : Int) (K : Value → Int → WP) : WP :=
 oR (vS (Instr.alloc 66 true (.tuple #[]))) fun t4 =>
 joinK [(16, .bool)] (fun (j1 : Bool → WP) =>
 oB (bS .eql 49 (.tmp 8) (.const (.pointer none)) t (.pointer none)) fun t9 =>
 condK t9
 (j1 true)
 (nR 87 t 0 85 fun t14 =>
 oB (bS .eql 85 (.tmp 14) (.const (.map none)) t14 (.map none)) fun t15 =>
 j1 t15))
 fun t16 =>
 condK t16
 (oR (vS (Instr.build 66 #[])) fun t17 =>
 sto 66 t4 t17 <|
 rR (vS (do loadVar 66 (← asAddr t4))) fun u_1 =>
 K u_1 2)
 (nR 87 t 0 85 fun t22 =>
 OpK P (.tup [.raw, .bool]) (vS (Instr.lookup 85 t22 (.int .i64 conn) true)) fun t24 t24_1 =>
 condK (!t24_1)
 (oR (vS (Instr.build 66 #[])) fun t29 =>
 sto 66 t4 t29 <|
 rR (vS (do loadVar 66 (← asAddr t4))) fun u_3 =>
 K u_3 6)
 (nR 87 t 0 85 fun t33 =>
 oR (vS (Builtin.delete_ #[85, 3] 0 #[t33, (.int .i64 conn)])) fun _ =>
 collapse_copied t24 fun t36 =>
 sto 66 t4 t36 <|
 rR (vS (do loadVar 66 (← asAddr t4))) fun u_6 =>
 K u_6 0))
theorem collapse_Table_End_ok {t : Value} {conn : Int} {K : Value → Int → WP} (w : World) (h : collapse_Table_End_sh t conn K w) : collapse_Table_End t conn K w :=
  fn_ok cx_ok (hi := (.n .l (.n (.n (.j [(16, .bool)] .l) .l) .l))) (fn := Try.f31) Try.func31 (by kernel_rfl) h

/- (*tollhouse/collapse.Table).Waiting -/
def collapse_Table_Waiting_sh (t : Value) (K : Int → WP) : WP :=
 oB (bS .neq 49 (.tmp 6) (.const (.pointer none)) t (.pointer none)) fun t7 =>
 condK t7
 (nR 87 t 0 85 fun t11 =>
 oR (vS (Instr.range 85 t11)) fun t12 =>
 loopK [(3, (.int .i64))] (fun (j1 : Int → WP) => j1 0) (fun (j2 : Int → WP) (n : Int) =>
 NxK P (vS (Instr.next t12 false 0)) .raw .raw
 (K n)
 fun _ _ =>
 EnK P (vS (Instr.entry t12)) .raw .raw fun _ u_3 =>
 nR 66 u_3 4 29 fun t21 =>
 len 29 3 t21 fun t22 =>
 ArK .i64 (n + t22) fun t23 =>
 j2 t23))
 (K 0)
theorem collapse_Table_Waiting_ok {t : Value} {K : Int → WP} (w : World) (h : collapse_Table_Waiting_sh t K w) : collapse_Table_Waiting t K w :=
  fn_ok cx_ok (hi := (.n .l (.n .l (.n (.n .l (.n (.n .l (.n (.p [(3, (.int .i64))] (.n .l (.n .l (.n (.n (.e .raw .raw) .l) .l)))) .l)) .l)) .l)))) (fn := Try.f32) Try.func32 (by kernel_rfl) h

/- (*tollhouse/collapse.Table).Job -/
def collapse_Table_Job_sh (t : Value) (conn : Int) (K : Value → Bool → WP) : WP :=
 oR (vS (Instr.alloc 66 true (.tuple #[]))) fun t4 =>
 oB (bS .eql 49 (.tmp 8) (.const (.pointer none)) t (.pointer none)) fun t9 =>
 condK t9
 (oR (vS (Instr.build 66 #[])) fun t10 =>
 sto 66 t4 t10 <|
 rR (vS (do loadVar 66 (← asAddr t4))) fun u_1 =>
 K u_1 false)
 (nR 87 t 0 85 fun t15 =>
 OpK P (.tup [.raw, .bool]) (vS (Instr.lookup 85 t15 (.int .i64 conn) true)) fun t17 t17_1 =>
 condK (!t17_1)
 (oR (vS (Instr.build 66 #[])) fun t22 =>
 sto 66 t4 t22 <|
 rR (vS (do loadVar 66 (← asAddr t4))) fun u_3 =>
 K u_3 false)
 (collapse_copied t17 fun t24 =>
 sto 66 t4 t24 <|
 rR (vS (do loadVar 66 (← asAddr t4))) fun u_5 =>
 K u_5 true))
theorem collapse_Table_Job_ok {t : Value} {conn : Int} {K : Value → Bool → WP} (w : World) (h : collapse_Table_Job_sh t conn K w) : collapse_Table_Job t conn K w :=
  fn_ok cx_ok (hi := .l) (fn := Try.f33) Try.func33 (by kernel_rfl) h

/- (*tollhouse/collapse.Table).Of -/
def collapse_Table_Of_sh (t : Value) (slot : Int) (K : Int → Bool → WP) : WP :=
 oR (vS (Instr.box 3 (.int .i64 slot))) fun slot_1 =>
 collapse_Table_least t (.func (.func 49) #[] #[slot_1]) fun t8 t8_1 =>
 K t8 t8_1
theorem collapse_Table_Of_ok {t : Value} {slot : Int} {K : Int → Bool → WP} (w : World) (h : collapse_Table_Of_sh t slot K w) : collapse_Table_Of t slot K w :=
  fn_ok cx_ok (hi := .l) (fn := Try.f34) Try.func34 (by kernel_rfl) h

/- tollhouse/collapse.slot -/
def collapse_slot_sh (n : Int) (K : Bool → WP) : WP :=
 condK (decide (n ≥ 0))
 (K (decide (n < 16)))
 (K false)
theorem collapse_slot_ok {n : Int} {K : Bool → WP} (w : World) (h : collapse_slot_sh n K w) : collapse_slot n K w :=
  fn_ok cx_ok (hi := .l) (fn := Try.f43) Try.func43 (by kernel_rfl) h

/- (*tollhouse/collapse.Table).least -/
def collapse_Table_least_sh (t : Value) (will : Value) (K : Int → Bool → WP) : WP :=
 oB (bS .eql 49 (.tmp 8) (.const (.pointer none)) t (.pointer none)) fun t9 =>
 condK t9
 (K (-1) false)
 (nR 87 t 0 85 fun t13 =>
 maps_Keys_int_Job t13 fun t14 =>
 slices_Sorted_int t14 fun t15 =>
 len 29 3 t15 fun t16 =>
 loopK [(17, (.int .i64))] (fun (j1 : Int → WP) => j1 0) (fun (j2 : Int → WP) (t17 : Int) =>
 condK (decide (t17 < t16))
 (iI 29 t15 .i64 t17 3 .i64 fun t20 =>
 nR 87 t 0 85 fun t25 =>
 oR (vS (Instr.lookup 85 t25 (.int .i64 t20) false)) fun t27 =>
 oB (callS will #[t27]) fun t28 =>
 condK t28
 (K t20 true)
 (ArK .i64 (t17 + 1) fun t30 =>
 j2 t30))
 (K (-1) false)))
theorem collapse_Table_least_ok {t : Value} {will : Value} {K : Int → Bool → WP} (w : World) (h : collapse_Table_least_sh t will K w) : collapse_Table_least t will K w :=
  fn_ok cx_ok (hi := (.n .l (.n .l (.n (.n .l (.n (.p [(17, (.int .i64))] .l) .l)) .l)))) (fn := Try.f44) Try.func44 (by kernel_rfl) h

/- (*tollhouse/collapse.Table).Join$1 -/
def collapse_Table_Join_c1_sh (j : Value) (t1 : Value) (K : Bool → WP) : WP :=
 DrawK fun S =>
 hS S 66 j 0 9 fun t7 =>
 sS S (vS (Instr.loadAt 9 t1)) fun t8 =>
 qB (bS .eql 9 (.tmp 7) (.tmp 8) (.string t7) (.string t8)) fun t9 =>
 condK t9
 (hB S 66 j 1 4 fun t14 =>
 condK t14
 (hB S 66 j 2 4 fun t20 =>
 K (!t20))
 (K false))
 (K false)
theorem collapse_Table_Join_c1_ok {j : Value} {t1 : Value} {K : Bool → WP} (w : World) (h : collapse_Table_Join_c1_sh j t1 K w) : collapse_Table_Join_c1 j t1 K w :=
  fn_ok cx_ok (hi := (.n .l (.n (.o (odR 0 20)) .l))) (fn := Try.f45) Try.func45 (by kernel_rfl) h

/- slices.DeleteFunc[[]int,int] -/
def slices_DeleteFunc_int_sh (s : Value) (del : Value) (K : Value → WP) : WP :=
 slices_IndexFunc_int s del fun t10 =>
 condK (t10 == (-1))
 (K s)
 (ArK .i64 (t10 + 1) fun t15 =>
 loopK [(5, (.int .i64)), (6, (.int .i64))] (fun (j1 : Int → Int → WP) => j1 t10 t15) (fun (j2 : Int → Int → WP) (i : Int) (j : Int) =>
 len 29 3 s fun t18 =>
 condK (decide (j < t18))
 (iI 29 s .i64 j 3 .i64 fun t25 =>
 oB (callS del #[(.int .i64 t25)]) fun t28 =>
 condK (!t28)
 (iW 29 s .i64 i 3 (.int .i64 t25) <|
 ArK .i64 (i + 1) fun t35 =>
 ArK .i64 (j + 1) fun t21 =>
 j2 t35 t21)
 (ArK .i64 (j + 1) fun t21_1 =>
 j2 i t21_1))
 (oR (vS (Instr.sliceAt 29 s (some (.int .i64 i)) none none)) fun t38 =>
 oR (vS (Builtin.clear_ #[29] 0 #[t38])) fun _ =>
 oR (vS (Instr.sliceAt 29 s none (some (.int .i64 i)) none)) fun t41 =>
 K t41)))
theorem slices_DeleteFunc_int_ok {s : Value} {del : Value} {K : Value → WP} (w : World) (h : slices_DeleteFunc_int_sh s del K w) : slices_DeleteFunc_int s del K w :=
  fn_ok cx_ok (hi := (.n .l (.n .l (.n .l (.n (.n .l (.n (.p [(5, (.int .i64)), (6, (.int .i64))] .l) .l)) .l))))) (fn := Try.f46) Try.func46 (by kernel_rfl) h

/- (*tollhouse/collapse.Table).Leave$1 -/
def collapse_Table_Leave_c1_sh (n : Int) (t1 : Value) (K : Bool → WP) : WP :=
 lI 3 .i64 t1 fun t5 =>
 K (n == t5)
theorem collapse_Table_Leave_c1_ok {n : Int} {t1 : Value} {K : Bool → WP} (w : World) (h : collapse_Table_Leave_c1_sh n t1 K w) : collapse_Table_Leave_c1 n t1 K w :=
  fn_ok cx_ok (hi := .l) (fn := Try.f47) Try.func47 (by kernel_rfl) h

/- tollhouse/collapse.copied -/
def collapse_copied_sh (j : Value) (K : Value → WP) : WP :=
 oR (vS (Instr.alloc 66 true (.tuple #[]))) fun t2 =>
 NilK j <|
 lR 66 j fun t6 =>
 oR (vS (Instr.alloc 66 true (.tuple #[]))) fun x =>
 sto 66 x t6 <|
 nR 66 j 4 29 fun t10 =>
 slices_Clone_int t10 fun t11 =>
 fW 66 x 4 29 t11 <|
 lR 66 x fun t13 =>
 sto 66 t2 t13 <|
 rR (vS (do loadVar 66 (← asAddr t2))) fun u_3 =>
 K u_3
theorem collapse_copied_ok {j : Value} {K : Value → WP} (w : World) (h : collapse_copied_sh j K w) : collapse_copied j K w :=
  fn_ok cx_ok (hi := .l) (fn := Try.f48) Try.func48 (by kernel_rfl) h

/- (*tollhouse/collapse.Table).Of$1 -/
def collapse_Table_Of_c1_sh (j : Value) (t1 : Value) (K : Bool → WP) : WP :=
 DrawK fun S =>
 hI S 66 j 3 3 .i64 fun t7 =>
 sI S .i64 (vS (Instr.loadAt 3 t1)) fun t8 =>
 condK (t7 == t8)
 (sI S .i64 (vS (Instr.loadAt 3 t1)) fun t11 =>
 condK (decide (t11 ≥ 0))
 (K true)
 (hR S 66 j 4 29 fun t18 =>
 sI S .i64 (vS (Instr.loadAt 3 t1)) fun t19 =>
 slices_Contains_int t18 t19 fun t20 =>
 andK S <|
 K t20))
 (hR S 66 j 4 29 fun t18_1 =>
 sI S .i64 (vS (Instr.loadAt 3 t1)) fun t19_1 =>
 slices_Contains_int t18_1 t19_1 fun t20_1 =>
 andK S <|
 K t20_1)
theorem collapse_Table_Of_c1_ok {j : Value} {t1 : Value} {K : Bool → WP} (w : World) (h : collapse_Table_Of_c1_sh j t1 K w) : collapse_Table_Of_c1 j t1 K w :=
  fn_ok cx_ok (hi := (.n .l (.n (.o (odR 0 19)) .l))) (fn := Try.f49) Try.func49 (by kernel_rfl) h

/- slices.Contains[[]int,int] -/
def slices_Contains_int_sh (s : Value) (v : Int) (K : Bool → WP) : WP :=
 slices_Index_int s v fun t7 =>
 K (decide (t7 ≥ 0))
theorem slices_Contains_int_ok {s : Value} {v : Int} {K : Bool → WP} (w : World) (h : slices_Contains_int_sh s v K w) : slices_Contains_int s v K w :=
  fn_ok cx_ok (hi := .l) (fn := Try.f50) Try.func50 (by kernel_rfl) h

/- slices.IndexFunc[[]int,int] -/
def slices_IndexFunc_int_sh (s : Value) (f : Value) (K : Int → WP) : WP :=
 len 29 3 s fun t7 =>
 loopK [(8, (.int .i64))] (fun (j1 : Int → WP) => j1 0) (fun (j2 : Int → WP) (t8 : Int) =>
 condK (decide (t8 < t7))
 (iI 29 s .i64 t8 3 .i64 fun t15 =>
 oB (callS f #[(.int .i64 t15)]) fun t16 =>
 condK t16
 (K t8)
 (ArK .i64 (t8 + 1) fun t18 =>
 j2 t18))
 (K (-1)))
theorem slices_IndexFunc_int_ok {s : Value} {f : Value} {K : Int → WP} (w : World) (h : slices_IndexFunc_int_sh s f K w) : slices_IndexFunc_int s f K w :=
  fn_ok cx_ok (hi := (.n .l (.n (.n .l (.n (.p [(8, (.int .i64))] .l) .l)) .l))) (fn := Try.f58) Try.func58 (by kernel_rfl) h

/- slices.Clone[[]int,int] -/
def slices_Clone_int_sh (s : Value) (K : Value → WP) : WP :=
 oB (bS .eql 29 (.tmp 3) (.const (.slice none 0 0)) s (.slice none 0 0)) fun t4 =>
 condK t4
 (K (.slice none 0 0))
 (oR (vS (Instr.buildSlice 29 0 #[])) fun t5 =>
 app 29 29 29 t5 s fun t7 =>
 K t7)
theorem slices_Clone_int_ok {s : Value} {K : Value → WP} (w : World) (h : slices_Clone_int_sh s K w) : slices_Clone_int s K w :=
  fn_ok cx_ok (hi := .l) (fn := Try.f59) Try.func59 (by kernel_rfl) h

/- slices.Index[[]int,int] -/
def slices_Index_int_sh (s : Value) (v : Int) (K : Int → WP) : WP :=
 len 29 3 s fun t7 =>
 loopK [(8, (.int .i64))] (fun (j1 : Int → WP) => j1 0) (fun (j2 : Int → WP) (t8 : Int) =>
 condK (decide (t8 < t7))
 (iI 29 s .i64 t8 3 .i64 fun t15 =>
 condK (v == t15)
 (K t8)
 (ArK .i64 (t8 + 1) fun t18 =>
 j2 t18))
 (K (-1)))
theorem slices_Index_int_ok {s : Value} {v : Int} {K : Int → WP} (w : World) (h : slices_Index_int_sh s v K w) : slices_Index_int s v K w :=
  fn_ok cx_ok (hi := (.n .l (.n (.n .l (.n (.p [(8, (.int .i64))] .l) .l)) .l))) (fn := Try.f60) Try.func60 (by kernel_rfl) h

/- math/bits.Len -/
def bits_Len_sh (x : Int) (K : Int → WP) : WP :=
 bits_Len64 x fun t7 =>
 K t7
theorem bits_Len_ok {x : Int} {K : Int → WP} (w : World) (h : bits_Len_sh x K w) : bits_Len x K w :=
  fn_ok cx_ok (hi := .l) (fn := Try.f62) Try.func62 (by kernel_rfl) h

/- math/bits.Len64 -/
def bits_Len64_sh (x : Int) (K : Int → WP) : WP :=
 joinK [(0, (.int .u64)), (2, (.int .i64))] (fun (j1 : Int → Int → WP) =>
 condK (decide (x ≥ 4294967296))
 (oI .u64 (bS .shr 122 (.tmp 5) (.const (.int .u64 32)) (.int .u64 x) (.int .u64 32)) fun t6 =>
 j1 t6 32)
 (j1 x 0))
 fun x_1 n =>
 joinK [(0, (.int .u64)), (2, (.int .i64))] (fun (j2 : Int → Int → WP) =>
 condK (decide (x_1 ≥ 65536))
 (oI .u64 (bS .shr 122 (.tmp 9) (.const (.int .u64 16)) (.int .u64 x_1) (.int .u64 16)) fun t10 =>
 ArK .i64 (n + 16) fun t12 =>
 j2 t10 t12)
 (j2 x_1 n))
 fun x_2 n_1 =>
 condK (decide (x_2 ≥ 256))
 (oI .u64 (bS .shr 122 (.tmp 15) (.const (.int .u64 8)) (.int .u64 x_2) (.int .u64 8)) fun t16 =>
 ArK .i64 (n_1 + 8) fun t18 =>
 oI .u8 (vS (convert 122 5 (.int .u64 t16))) fun t21 =>
 oI .u8 (vS (Instr.index 9 (.string (⟨#[0, 1, 2, 2, 3, 3, 3, 3, 4, 4, 4, 4, 4, 4, 4, 4, 5, 5, 5, 5, 5, 5, 5, 5, 5, 5, 5, 5, 5, 5, 5, 5, 6, 6, 6, 6, 6, 6, 6, 6, 6, 6, 6, 6, 6, 6, 6, 6, 6, 6, 6, 6, 6, 6, 6, 6, 6, 6, 6, 6, 6, 6, 6, 6, 7, 7, 7, 7, 7, 7, 7, 7, 7, 7, 7, 7, 7, 7, 7, 7, 7, 7, 7, 7, 7, 7, 7, 7, 7, 7, 7, 7, 7, 7, 7, 7, 7, 7, 7, 7, 7, 7, 7, 7, 7, 7, 7, 7, 7, 7, 7, 7, 7, 7, 7, 7, 7, 7, 7, 7, 7, 7, 7, 7, 7, 7, 7, 7, 8, 8, 8, 8, 8, 8, 8, 8, 8, 8, 8, 8, 8, 8, 8, 8, 8, 8, 8, 8, 8, 8, 8, 8, 8, 8, 8, 8, 8, 8, 8, 8, 8, 8, 8, 8, 8, 8, 8, 8, 8, 8, 8, 8, 8, 8, 8, 8, 8, 8, 8, 8, 8, 8, 8, 8, 8, 8, 8, 8, 8, 8, 8, 8, 8, 8, 8, 8, 8, 8, 8, 8, 8, 8, 8, 8, 8, 8, 8, 8, 8, 8, 8, 8, 8, 8, 8, 8, 8, 8, 8, 8, 8, 8, 8, 8, 8, 8, 8, 8, 8, 8, 8, 8, 8, 8, 8, 8, 8, 8, 8, 8, 8, 8, 8, 8, 8, 8, 8, 8, 8, 8, 8, 8, 8, 8, 8, 8]⟩ : ByteArray)) (.int .u8 t21))) fun t22 =>
 oI .i64 (vS (convert 5 3 (.int .u8 t22))) fun t23 =>
 ArK .i64 (t18 + t23) fun t24 =>
 K t24)
 (oI .u8 (vS (convert 122 5 (.int .u64 x_2))) fun t21_1 =>
 oI .u8 (vS (Instr.index 9 (.string (⟨#[0, 1, 2, 2, 3, 3, 3, 3, 4, 4, 4, 4, 4, 4, 4, 4, 5, 5, 5, 5, 5, 5, 5, 5, 5, 5, 5, 5, 5, 5, 5, 5, 6, 6, 6, 6, 6, 6, 6, 6, 6, 6, 6, 6, 6, 6, 6, 6, 6, 6, 6, 6, 6, 6, 6, 6, 6, 6, 6, 6, 6, 6, 6, 6, 7, 7, 7, 7, 7, 7, 7, 7, 7, 7, 7, 7, 7, 7, 7, 7, 7, 7, 7, 7, 7, 7, 7, 7, 7, 7, 7, 7, 7, 7, 7, 7, 7, 7, 7, 7, 7, 7, 7, 7, 7, 7, 7, 7, 7, 7, 7, 7, 7, 7, 7, 7, 7, 7, 7, 7, 7, 7, 7, 7, 7, 7, 7, 7, 8, 8, 8, 8, 8, 8, 8, 8, 8, 8, 8, 8, 8, 8, 8, 8, 8, 8, 8, 8, 8, 8, 8, 8, 8, 8, 8, 8, 8, 8, 8, 8, 8, 8, 8, 8, 8, 8, 8, 8, 8, 8, 8, 8, 8, 8, 8, 8, 8, 8, 8, 8, 8, 8, 8, 8, 8, 8, 8, 8, 8, 8, 8, 8, 8, 8, 8, 8, 8, 8, 8, 8, 8, 8, 8, 8, 8, 8, 8, 8, 8, 8, 8, 8, 8, 8, 8, 8, 8, 8, 8, 8, 8, 8, 8, 8, 8, 8, 8, 8, 8, 8, 8, 8, 8, 8, 8, 8, 8, 8, 8, 8, 8, 8, 8, 8, 8, 8, 8, 8, 8, 8, 8, 8, 8, 8, 8, 8]⟩ : ByteArray)) (.int .u8 t21_1))) fun t22_1 =>
 oI .i64 (vS (convert 5 3 (.int .u8 t22_1))) fun t23_1 =>
 ArK .i64 (n_1 + t23_1) fun t24_1 =>
 K t24_1)
theorem bits_Len64_ok {x : Int} {K : Int → WP} (w : World) (h : bits_Len64_sh x K w) : bits_Len64 x K w :=
  fn_ok cx_ok (hi := (.n .l (.n (.j [(0, (.int .u64)), (2, (.int .i64))] .l) (.n (.j [(0, (.int .u64)), (2, (.int .i64))] .l) .l)))) (fn := Try.f76) Try.func76 (by kernel_rfl) h

/- slices.Sort[[]int,int] -/
def slices_Sort_int_sh (x : Value) (K : Value → WP) : WP :=
 len 29 3 x fun t4 =>
 oI .u64 (vS (convert 3 109 (.int .i64 t4))) fun t8 =>
 bits_Len t8 fun t9 =>
 slices_pdqsortOrdered_int x 0 t4 t9 fun _ =>
 K (.tuple #[])
theorem slices_Sort_int_ok {x : Value} {K : Value → WP} (w : World) (h : slices_Sort_int_sh x K w) : slices_Sort_int x K w :=
  fn_ok cx_ok (hi := .l) (fn := Try.f65) Try.func65 (by kernel_rfl) h

/- slices.pdqsortOrdered[int] -/
def slices_pdqsortOrdered_int_sh (data : Value) (a : Int) (b : Int) (limit : Int) (K : Value → WP) : WP :=
 loopK [(1, (.int .i64)), (2, (.int .i64)), (3, (.int .i64)), (8, .bool), (9, .bool)] (fun (j1 : Int → Int → Int → Bool → Bool → WP) => j1 a b limit true true) (fun (j2 : Int → Int → Int → Bool → Bool → WP) (a_1 : Int) (b_1 : Int) (limit_1 : Int) (wasBalanced : Bool) (wasPartitioned : Bool) =>
 ArK .i64 (b_1 - a_1) fun t21 =>
 condK (decide (t21 ≤ 12))
 (slices_insertionSortOrdered_int data a_1 b_1 fun _ =>
 K (.tuple #[]))
 (condK (limit_1 == 0)
 (slices_heapSortOrdered_int data a_1 b_1 fun _ =>
 K (.tuple #[]))
 (joinK [(3, (.int .i64))] (fun (j3 : Int → WP) =>
 condK (!wasBalanced)
 (slices_breakPatternsOrdered_int data a_1 b_1 fun _ =>
 ArK .i64 (limit_1 - 1) fun t41 =>
 j3 t41)
 (j3 limit_1))
 fun limit_2 =>
 slices_choosePivotOrdered_int data a_1 b_1 fun t46 t46_1 =>
 joinK [(11, (.int .i64)), (12, (.int .i64))] (fun (j4 : Int → Int → WP) =>
 condK (t46_1 == 2)
 (slices_reverseRangeOrdered_int data a_1 b_1 fun _ =>
 ArK .i64 (b_1 - 1) fun t56 =>
 ArK .i64 (t46 - a_1) fun t59 =>
 ArK .i64 (t56 - t59) fun t60 =>
 j4 t60 1)
 (j4 t46 t46_1))
 fun pivot hint =>
 joinK [] (fun (j5 : WP) =>
 joinK [(68, .bool)] (fun (j6 : Bool → WP) =>
 condK wasBalanced
 (condK wasPartitioned
 (j6 (hint == 1))
 (j6 false))
 (j6 false))
 fun t68 =>
 condK t68
 (slices_partialInsertionSortOrdered_int data a_1 b_1 fun t72 =>
 condK t72
 (K (.tuple #[]))
 (j5))
 (j5))
 <|
 joinK [(87, .bool)] (fun (j7 : Bool → WP) =>
 DrawK fun S =>
 condK (decide (a_1 > 0))
 (ArK .i64 (a_1 - 1) fun t78 =>
 jI S 29 data .i64 t78 3 .i64 fun t80 =>
 jI S 29 data .i64 pivot 3 .i64 fun t84 =>
 cmp_Less_int t80 t84 fun t85 =>
 j7 (!t85))
 (j7 false))
 fun t87 =>
 condK t87
 (slices_partitionEqualOrdered_int data a_1 b_1 pivot fun t92 =>
 j2 t92 b_1 limit_2 wasBalanced wasPartitioned)
 (slices_partitionOrdered_int data a_1 b_1 pivot fun t99 t99_1 =>
 ArK .i64 (t99 - a_1) fun t105 =>
 ArK .i64 (b_1 - t99) fun t108 =>
 oI .i64 (bS .quo 3 (.tmp 109) (.const (.int .i64 8)) (.int .i64 t21) (.int .i64 8)) fun t110 =>
 condK (decide (t105 < t108))
 (slices_pdqsortOrdered_int data a_1 t99 limit_2 fun _ =>
 ArK .i64 (t99 + 1) fun t123 =>
 j2 t123 b_1 limit_2 (decide (t105 ≥ t110)) t99_1)
 (ArK .i64 (t99 + 1) fun t129 =>
 slices_pdqsortOrdered_int data t129 b_1 limit_2 fun _ =>
 j2 a_1 t99 limit_2 (decide (t108 ≥ t110)) t99_1)))))
theorem slices_pdqsortOrdered_int_ok {data : Value} {a : Int} {b : Int} {limit : Int} {K : Value → WP} (w : World) (h : slices_pdqsortOrdered_int_sh data a b limit K w) : slices_pdqsortOrdered_int data a b limit K w :=
  fn_ok cx_ok (hi := (.n .l (.n .l (.n (.p [(1, (.int .i64)), (2, (.int .i64)), (3, (.int .i64)), (8, .bool), (9, .bool)] (.n (.n .l (.n .l (.n .l (.n (.j [(3, (.int .i64))] .l) (.n .l (.n (.j [(11, (.int .i64)), (12, (.int .i64))] .l) (.n (.j [] (.n (.j [(68, .bool)] .l) .l)) (.n (.n (.j [(87, .bool)] (.o (odR 0 15))) .l) .l)))))))) .l)) .l)))) (fn := Try.f78) Try.func78 (by kernel_rfl) h

/- slices.insertionSortOrdered[int] -/
def slices_insertionSortOrdered_int_sh (data : Value) (a : Int) (b : Int) (K : Value → WP) : WP :=
 ArK .i64 (a + 1) fun t9 =>
 loopK [(6, (.int .i64))] (fun (j1 : Int → WP) => j1 t9) (fun (j2 : Int → WP) (i : Int) =>
 condK (decide (i < b))
 (loopK [(7, (.int .i64))] (fun (j3 : Int → WP) => j3 i) (fun (j4 : Int → WP) (j : Int) =>
 joinK [(30, .bool)] (fun (j5 : Bool → WP) =>
 DrawK fun S =>
 condK (decide (j > a))
 (jI S 29 data .i64 j 3 .i64 fun t23 =>
 ArK .i64 (j - 1) fun t26 =>
 jI S 29 data .i64 t26 3 .i64 fun t28 =>
 cmp_Less_int t23 t28 fun t29 =>
 j5 t29)
 (j5 false))
 fun t30 =>
 condK t30
 (DrawK fun S =>
 ArK .i64 (j - 1) fun t37 =>
 ArK .i64 (j - 1) fun t40 =>
 jI S 29 data .i64 t40 3 .i64 fun t42 =>
 jI S 29 data .i64 j 3 .i64 fun t46 =>
 qR (vS (Instr.indexAt 29 data (.int .i64 j))) fun t47 =>
 sto 3 t47 (.int .i64 t42) <|
 qR (vS (Instr.indexAt 29 data (.int .i64 t37))) fun t48 =>
 sto 3 t48 (.int .i64 t46) <|
 ArK .i64 (j - 1) fun t32 =>
 j4 t32)
 (ArK .i64 (i + 1) fun t14 =>
 j2 t14)))
 (K (.tuple #[])))
theorem slices_insertionSortOrdered_int_ok {data : Value} {a : Int} {b : Int} {K : Value → WP} (w : World) (h : slices_insertionSortOrdered_int_sh data a b K w) : slices_insertionSortOrdered_int data a b K w :=
  fn_ok cx_ok (hi := (.n .l (.n (.p [(6, (.int .i64))] (.n .l (.n (.n (.n .l (.n (.p [(7, (.int .i64))] (.n (.n (.j [(30, .bool)] (.o (odR 0 15))) .l) (.n (.n (.o (odR 0 18)) .l) .l))) .l)) .l) .l))) .l))) (fn := Try.f84) Try.func84 (by kernel_rfl) h

/- cmp.Less[int] -/
def cmp_Less_int_sh (x : Int) (y : Int) (K : Bool → WP) : WP :=
 cmp_isNaN_int x fun t6 =>
 condK t6
 (cmp_isNaN_int y fun t9 =>
 condK (!t9)
 (K true)
 (K (decide (x < y))))
 (K (decide (x < y)))
theorem cmp_Less_int_ok {x : Int} {y : Int} {K : Bool → WP} (w : World) (h : cmp_Less_int_sh x y K w) : cmp_Less_int x y K w :=
  fn_ok cx_ok (hi := .l) (fn := Try.f90) Try.func90 (by kernel_rfl) h

/- cmp.isNaN[int] -/
def cmp_isNaN_int_sh (x : Int) (K : Bool → WP) : WP :=
 K (x != x)
theorem cmp_isNaN_int_ok {x : Int} {K : Bool → WP} (w : World) (h : cmp_isNaN_int_sh x K w) : cmp_isNaN_int x K w :=
  fn_ok cx_ok (hi := .l) (fn := Try.f97) Try.func97 (by kernel_rfl) h

/- slices.AppendSeq[[]int,int] -/
def slices_AppendSeq_int_sh (s : Value) (seq : Value) (K : Value → WP) : WP :=
 oR (vS (Instr.box 29 s)) fun s_1 =>
 RfK P seq [(.int .i64)] (fun (l1 : Nat) (t7 : Int) (d1 : Dn) =>
 BgK P l1 <|
 lR 29 s_1 fun t8 =>
 oR (vS (Instr.buildSlice 29 1 #[(0, (.int .i64 t7))])) fun t10 =>
 app 29 29 29 t8 t10 fun t11 =>
 sto 29 s_1 t11 <|
 d1 none) fun (r1 : Nat) => JmK
 (lR 29 s_1 fun t12 =>
 TkK P r1 <|
 K t12)
 (fun _ => False)
 []
theorem slices_AppendSeq_int_ok {s : Value} {seq : Value} {K : Value → WP} (w : World) (h : slices_AppendSeq_int_sh s seq K w) : slices_AppendSeq_int s seq K w :=
  fn_ok cx_ok (hi := (.n .l (.n (.n .l (.n (.f [(.int .i64)] false [] .l .l) .l)) .l))) (fn := Try.f77) Try.func77 (by kernel_rfl) h

/- slices.Collect[int] -/
def slices_Collect_int_sh (seq : Value) (K : Value → WP) : WP :=
 slices_AppendSeq_int (.slice none 0 0) seq fun t4 =>
 K t4
theorem slices_Collect_int_ok {seq : Value} {K : Value → WP} (w : World) (h : slices_Collect_int_sh seq K w) : slices_Collect_int seq K w :=
  fn_ok cx_ok (hi := .l) (fn := Try.f64) Try.func64 (by kernel_rfl) h

/- slices.Sorted[int] -/
def slices_Sorted_int_sh (seq : Value) (K : Value → WP) : WP :=
 slices_Collect_int seq fun t5 =>
 slices_Sort_int t5 fun _ =>
 K t5
theorem slices_Sorted_int_ok {seq : Value} {K : Value → WP} (w : World) (h : slices_Sorted_int_sh seq K w) : slices_Sorted_int seq K w :=
  fn_ok cx_ok (hi := .l) (fn := Try.f56) Try.func56 (by kernel_rfl) h

/- maps.Keys[map[int]*tollhouse/collapse.Job,int,*tollhouse/collapse.Job] -/
def maps_Keys_int_Job_sh (m : Value) (K : Value → WP) : WP :=
 oR (vS (Instr.box 85 m)) fun m_1 =>
 K (.func (.func 66) #[] #[m_1])
theorem maps_Keys_int_Job_ok {m : Value} {K : Value → WP} (w : World) (h : maps_Keys_int_Job_sh m K w) : maps_Keys_int_Job m K w :=
  fn_ok cx_ok (hi := .l) (fn := Try.f57) Try.func57 (by kernel_rfl) h

/- maps.Keys[map[int]*tollhouse/collapse.Job,int,*tollhouse/collapse.Job]$1 -/
def maps_Keys_int_Job_c1_sh (yield : Value) (t1 : Value) (K : Value → WP) : WP :=
 lR 85 t1 fun t4 =>
 oR (vS (Instr.range 85 t4)) fun t5 =>
 loopK [] (fun (j1 : WP) => j1) (fun (j2 : WP) =>
 NxK P (vS (Instr.next t5 false 0)) .raw .raw
 (K (.tuple #[]))
 fun _ _ =>
 EnK P (vS (Instr.entry t5)) (.int .i64) .raw fun u_2 _ =>
 oB (callS yield #[(.int .i64 u_2)]) fun t12 =>
 condK (!t12)
 (K (.tuple #[]))
 (j2))
theorem maps_Keys_int_Job_c1_ok {yield : Value} {t1 : Value} {K : Value → WP} (w : World) (h : maps_Keys_int_Job_c1_sh yield t1 K w) : maps_Keys_int_Job_c1 yield t1 K w :=
  fn_ok cx_ok (hi := (.n .l (.n (.p [] (.n .l (.n .l (.n (.n (.e (.int .i64) .raw) .l) .l)))) .l))) (fn := Try.f66) Try.func66 (by kernel_rfl) h

/- tollhouse/tollhouselaw24.CollapseKnown -/
def law24_CollapseKnown_sh (K : Bool → WP) : WP :=
 collapse_New 16 fun t39 t39_1 =>
 joinK [(49, .bool)] (fun (j1 : Bool → WP) =>
 law24_awake fun t43 =>
 condK (!t43)
 (j1 true)
 (j1 (t39_1 != 0)))
 fun t49 =>
 condK t49
 (K false)
 (collapse_Table_Begin t39 0 (⟨#[117]⟩ : ByteArray) true 0 fun t51 =>
 collapse_Table_Begin t39 0 (⟨#[118]⟩ : ByteArray) true 1 fun t53 =>
 collapse_Table_Begin t39 1 (⟨#[118]⟩ : ByteArray) true 0 fun t55 =>
 collapse_Table_Begin t39 8 (⟨#[118]⟩ : ByteArray) true 1 fun t57 =>
 collapse_Table_Begin t39 1 (⟨#[118]⟩ : ByteArray) true 16 fun t59 =>
 collapse_Table_Begin t39 1 (⟨#[118]⟩ : ByteArray) false (-1) fun t61 =>
 collapse_Table_Begin t39 1 (⟨#[118]⟩ : ByteArray) false 5 fun t63 =>
 collapse_Table_Join t39 (⟨#[118]⟩ : ByteArray) 2 fun _ t66_1 =>
 collapse_Table_Join t39 (⟨#[117]⟩ : ByteArray) 0 fun _ t71_1 =>
 collapse_Table_Join t39 (⟨#[117]⟩ : ByteArray) 16 fun _ t76_1 =>
 collapse_Table_Spoil t39 (⟨#[117]⟩ : ByteArray) fun t80 =>
 collapse_Table_Join t39 (⟨#[117]⟩ : ByteArray) 4 fun _ t83_1 =>
 collapse_Table_Leave t39 0 fun t87 =>
 collapse_Table_Leave t39 0 fun t89 =>
 collapse_Table_End t39 0 fun t92 t92_1 =>
 oR (vS (Instr.alloc 66 true (.tuple #[]))) fun x =>
 sto 66 x t92 <|
 collapse_Table_End t39 0 fun t97 t97_1 =>
 oR (vS (Instr.alloc 66 true (.tuple #[]))) fun t23_ =>
 sto 66 t23_ t97 <|
 collapse_New 17 fun _ t101_1 =>
 collapse_New (-1) fun _ t105_1 =>
 collapse_Table_Join (.pointer none) (⟨#[117]⟩ : ByteArray) 0 fun _ t110_1 =>
 collapse_Table_End (.pointer none) 0 fun t115 t115_1 =>
 oR (vS (Instr.alloc 66 true (.tuple #[]))) fun t32_ =>
 sto 66 t32_ t115 <|
 collapse_Table_Job (.pointer none) 0 fun t120 t120_1 =>
 oR (vS (Instr.alloc 66 true (.tuple #[]))) fun t34_ =>
 sto 66 t34_ t120 <|
 collapse_Table_Of (.pointer none) 0 fun t125 t125_1 =>
 condK (t51 == 0)
 (condK (t53 == 9)
 (condK (t55 == 9)
 (condK (t57 == 1)
 (condK (t59 == 1)
 (condK (t61 == 1)
 (condK (t63 == 0)
 (condK (t66_1 == 6)
 (condK (t71_1 == 9)
 (condK (t76_1 == 1)
 (condK (t80 == 1)
 (condK (t83_1 == 6)
 (condK t87
 (condK (!t89)
 (condK (t92_1 == 0)
 (fI 66 x 3 3 .i64 fun t187 =>
 condK (t187 == (-1))
 (fB 66 x 2 4 fun t192 =>
 condK t192
 (condK (t97_1 == 6)
 (condK (t101_1 == 1)
 (condK (t105_1 == 1)
 (condK (t110_1 == 2)
 (condK (t115_1 == 2)
 (condK (!t120_1)
 (condK (t125 == (-1))
 (condK (!t125_1)
 (collapse_Table_Begin (.pointer none) 0 (⟨#[]⟩ : ByteArray) false 0 fun t228 =>
 condK (t228 == 2)
 (collapse_Table_Leave (.pointer none) 0 fun t233 =>
 condK (!t233)
 (collapse_Table_Spoil (.pointer none) (⟨#[]⟩ : ByteArray) fun t238 =>
 condK (t238 == 0)
 (collapse_Table_Waiting (.pointer none) fun t243 =>
 K (t243 == 0))
 (K false))
 (K false))
 (K false))
 (K false))
 (K false))
 (K false))
 (K false))
 (K false))
 (K false))
 (K false))
 (K false))
 (K false))
 (K false))
 (K false))
 (K false))
 (K false))
 (K false))
 (K false))
 (K false))
 (K false))
 (K false))
 (K false))
 (K false))
 (K false))
 (K false))
 (K false))
 (K false))
 (K false))
theorem law24_CollapseKnown_ok {K : Bool → WP} (w : World) (h : law24_CollapseKnown_sh K w) : law24_CollapseKnown K w :=
  fn_ok cx_ok (hi := (.n .l (.n .l (.n (.n (.j [(49, .bool)] .l) .l) .l)))) (fn := Try.f8) Try.func8 (by kernel_rfl) h

/- tollhouse/tollhouselaw24.CollapseOnce -/
def law24_CollapseOnce_sh (waiters : Int) (l : Value) (K : Bool → WP) : WP :=
 oI .i64 (vS (convert 5 3 (.int .u8 waiters))) fun t28 =>
 oI .i64 (bS .rem 3 (.tmp 28) (.const (.int .i64 17)) (.int .i64 t28) (.int .i64 17)) fun t29 =>
 collapse_New t29 fun t32 t32_1 =>
 joinK [(40, .bool)] (fun (j1 : Bool → WP) =>
 law24_awake fun t35 =>
 condK (!t35)
 (j1 true)
 (j1 (t32_1 != 0)))
 fun t40 =>
 condK t40
 (K false)
 (oR (vS (Instr.makeMap 52 none)) fun t41 =>
 oR (vS (Instr.makeMap 53 none)) fun t42 =>
 oR (vS (Instr.alloc 53 true (.tuple #[]))) fun joined =>
 sto 53 joined t42 <|
 oR (vS (Instr.makeMap 55 none)) fun t44 =>
 len 48 3 l fun t46 =>
 loopK [(47, (.int .i64))] (fun (j2 : Int → WP) => j2 0) (fun (j3 : Int → WP) (t47 : Int) =>
 condK (decide (t47 < t46))
 (iR 48 l .i64 t47 57 fun t51 =>
 oR (vS (Instr.alloc 57 true (.tuple #[]))) fun a =>
 sto 57 a t51 <|
 condK (t47 == 200)
 (K true)
 (joinK [] (fun (j4 : WP) =>
 fI 57 a 0 3 .i64 fun t55 =>
 condK (t55 == 0)
 (fI 57 a 1 3 .i64 fun t60 =>
 fS 57 a 3 9 fun t62 =>
 fB 57 a 4 4 fun t64 =>
 fI 57 a 2 3 .i64 fun t66 =>
 collapse_Table_Begin t32 t60 t62 t64 t66 fun t67 =>
 condK (t67 == 0)
 (DrawK fun S =>
 sR S (vS (Instr.loadAt 53 joined)) fun t69 =>
 gI S 57 a 1 3 .i64 fun t71 =>
 gI S 57 a 1 3 .i64 fun t74 =>
 gI S 57 a 1 3 .i64 fun t77 =>
 gI S 57 a 2 3 .i64 fun t79 =>
 gS S 57 a 3 9 fun t82 =>
 qR (vS (Instr.build 60 #[(0, (.string t82))])) fun t83 =>
 oR (vS (Instr.buildSlice 29 1 #[(0, (.int .i64 t79))])) fun t80 =>
 andK S <|
 oR (uS (Instr.mapUpdate 53 t69 (.int .i64 t71) t80)) fun _ =>
 andK S <|
 oR (uS (Instr.mapUpdate 52 t41 (.int .i64 t74) (.int .i64 0))) fun _ =>
 andK S <|
 oR (uS (Instr.mapUpdate 55 t44 (.int .i64 t77) t83)) fun _ =>
 j4)
 (j4))
 (condK (t55 == 1)
 (fS 57 a 3 9 fun t89 =>
 fI 57 a 2 3 .i64 fun t91 =>
 collapse_Table_Join t32 t89 t91 fun t92 t92_1 =>
 condK (t92_1 == 0)
 (joinK [(109, .bool)] (fun (j5 : Bool → WP) =>
 oI .i64 (vS (Instr.lookup 52 t41 (.int .i64 t92) false)) fun t99 =>
 condK (decide (t99 > 0))
 (j5 true)
 (oR (vS (Instr.lookup 55 t44 (.int .i64 t92) false)) fun t104 =>
 oS (vS (Instr.field 60 t104 0)) fun t105 =>
 fS 57 a 3 9 fun t107 =>
 oB (bS .neq 9 (.tmp 105) (.tmp 107) (.string t105) (.string t107)) fun t108 =>
 j5 t108))
 fun t109 =>
 condK t109
 (K false)
 (DrawK fun S =>
 sR S (vS (Instr.loadAt 53 joined)) fun t110 =>
 sR S (vS (Instr.loadAt 53 joined)) fun t112 =>
 sR S (vS (Instr.lookup 53 t112 (.int .i64 t92) false)) fun t114 =>
 gI S 57 a 2 3 .i64 fun t116 =>
 oR (vS (Instr.buildSlice 29 1 #[(0, (.int .i64 t116))])) fun t117 =>
 andK S <|
 app 29 29 29 t114 t117 fun t118 =>
 andK S <|
 oR (uS (Instr.mapUpdate 53 t110 (.int .i64 t92) t118)) fun _ =>
 j4))
 (j4))
 (condK (t55 == 2)
 (fI 57 a 2 3 .i64 fun t123 =>
 collapse_Table_Leave t32 t123 fun t124 =>
 condK t124
 (fI 57 a 2 3 .i64 fun t127 =>
 oR (callS (.func (.func 26) #[] #[joined]) #[(.int .i64 t127)]) fun _ =>
 j4)
 (j4))
 (condK (t55 == 3)
 (fS 57 a 3 9 fun t133 =>
 collapse_Table_Spoil t32 t133 fun _ =>
 oR (vS (Instr.range 55 t44)) fun t136 =>
 loopK [] (fun (j6 : WP) => j6) (fun (j7 : WP) =>
 NxK P (vS (Instr.next t136 false 0)) .raw .raw
 (j4)
 fun _ _ =>
 EnK P (vS (Instr.entry t136)) (.int .i64) .raw fun u_8 u_9 =>
 oR (vS (Instr.alloc 60 true (.tuple #[]))) fun u_10 =>
 sto 60 u_10 u_9 <|
 fS 60 u_10 0 9 fun t143 =>
 fS 57 a 3 9 fun t145 =>
 oB (bS .eql 9 (.tmp 143) (.tmp 145) (.string t143) (.string t145)) fun t146 =>
 condK t146
 (oR (uS (Instr.mapUpdate 52 t41 (.int .i64 u_8) (.int .i64 1))) fun _ =>
 j7)
 (j7)))
 (condK (t55 == 4)
 (fI 57 a 1 3 .i64 fun t154 =>
 collapse_Table_End t32 t154 fun t155 t155_1 =>
 oR (vS (Instr.alloc 66 true (.tuple #[]))) fun j =>
 sto 66 j t155 <|
 condK (t155_1 != 0)
 (j4)
 (joinK [(20, .raw)] (fun (j8 : Value → WP) =>
 fI 66 j 3 3 .i64 fun t161 =>
 condK (decide (t161 ≥ 0))
 (fI 66 j 3 3 .i64 fun t165 =>
 oR (vS (Instr.buildSlice 29 1 #[(0, (.int .i64 t165))])) fun t166 =>
 oR (vS (Builtin.append_ #[29, 29] 29 #[(.slice none 0 0), t166])) fun t167 =>
 j8 t167)
 (j8 (.slice none 0 0)))
 fun all =>
 fR 66 j 4 29 fun t170 =>
 app 29 29 29 all t170 fun t171 =>
 joinK [(199, .bool)] (fun (j9 : Bool → WP) =>
 len 29 3 t171 fun t173 =>
 lR 53 joined fun t174 =>
 fI 57 a 1 3 .i64 fun t176 =>
 oR (vS (Instr.lookup 53 t174 (.int .i64 t176) false)) fun t177 =>
 len 29 3 t177 fun t178 =>
 condK (t173 != t178)
 (j9 true)
 (fB 66 j 2 4 fun t182 =>
 fI 57 a 1 3 .i64 fun t185 =>
 oI .i64 (vS (Instr.lookup 52 t41 (.int .i64 t185) false)) fun t186 =>
 oB (bS .neq 4 (.tmp 182) (.tmp 187) (.bool t182) (.bool (decide (t186 > 0)))) fun t188 =>
 condK t188
 (j9 true)
 (fS 66 j 0 9 fun t192 =>
 fI 57 a 1 3 .i64 fun t195 =>
 oR (vS (Instr.lookup 55 t44 (.int .i64 t195) false)) fun t196 =>
 oS (vS (Instr.field 60 t196 0)) fun t197 =>
 oB (bS .neq 9 (.tmp 192) (.tmp 197) (.string t192) (.string t197)) fun t198 =>
 j9 t198)))
 fun t199 =>
 condK t199
 (K false)
 (len 29 3 t171 fun t201 =>
 loopK [(202, (.int .i64))] (fun (j10 : Int → WP) => j10 0) (fun (j11 : Int → WP) (t202 : Int) =>
 condK (decide (t202 < t201))
 (DrawK fun S =>
 jI S 29 t171 .i64 t202 3 .i64 fun t208 =>
 sR S (vS (Instr.loadAt 53 joined)) fun t209 =>
 gI S 57 a 1 3 .i64 fun t211 =>
 sR S (vS (Instr.lookup 53 t209 (.int .i64 t211) false)) fun t212 =>
 jI S 29 t212 .i64 t202 3 .i64 fun t215 =>
 condK (t208 != t215)
 (K false)
 (ArK .i64 (t202 + 1) fun t217 =>
 j11 t217))
 (lR 53 joined fun t218 =>
 fI 57 a 1 3 .i64 fun t220 =>
 oR (vS (Builtin.delete_ #[53, 3] 0 #[t218, (.int .i64 t220)])) fun _ =>
 fI 57 a 1 3 .i64 fun t223 =>
 oR (vS (Builtin.delete_ #[55, 3] 0 #[t44, (.int .i64 t223)])) fun _ =>
 j4)))))
 (j4))))))
 <|
 oR (vS (Instr.makeMap 52 none)) fun t224 =>
 lR 53 joined fun t225 =>
 oR (vS (Instr.range 53 t225)) fun t226 =>
 loopK [] (fun (j12 : WP) => j12) (fun (j13 : WP) =>
 NxK P (vS (Instr.next t226 false 0)) .raw .raw
 (collapse_Table_Waiting t32 fun t245 =>
 condK (decide (t245 > t29))
 (K false)
 (ArK .i64 (t47 + 1) fun t248 =>
 j3 t248))
 fun _ _ =>
 EnK P (vS (Instr.entry t226)) .raw .raw fun _ u_19 =>
 len 29 3 u_19 fun t232 =>
 loopK [(233, (.int .i64))] (fun (j14 : Int → WP) => j14 0) (fun (j15 : Int → WP) (t233 : Int) =>
 condK (decide (t233 < t232))
 (iI 29 u_19 .i64 t233 3 .i64 fun t236 =>
 oI .i64 (vS (Instr.lookup 52 t224 (.int .i64 t236) false)) fun t239 =>
 condK (decide (t239 > 0))
 (K false)
 (oR (uS (Instr.mapUpdate 52 t224 (.int .i64 t236) (.int .i64 1))) fun _ =>
 ArK .i64 (t233 + 1) fun t243 =>
 j15 t243))
 (j13)))))
 (K true)))
theorem law24_CollapseOnce_ok {waiters : Int} {l : Value} {K : Bool → WP} (w : World) (h : law24_CollapseOnce_sh waiters l K w) : law24_CollapseOnce waiters l K w :=
  fn_ok cx_ok (hi := (.n .l (.n .l (.n .l (.n (.n (.j [(40, .bool)] .l) .l) (.n .l (.n .l (.n .l (.n .l (.n (.n .l (.n (.p [(47, (.int .i64))] (.n .l (.n .l (.n (.n (.n .l (.n .l (.n (.j [] (.n .l (.n (.n .l (.n (.n .l (.n (.o (odL [0, 1, 2, 3, 4, 5, 6, 7, 8, 9, 10, 12, 13, 14, 11, 15, 16, 17])) .l)) (.n .l (.n (.n .l (.n .l (.n (.n (.n (.j [(109, .bool)] .l) .l) (.o (odR 0 10))) .l))) (.n .l (.n .l (.n .l (.n (.n .l (.n .l (.n (.p [] (.n .l (.n .l (.n (.n (.e (.int .i64) .raw) .l) .l)))) .l))) (.n .l (.n (.n .l (.n .l (.n .l (.n (.j [(20, .raw)] .l) (.n .l (.n (.n (.j [(199, .bool)] .l) .l) (.n (.n .l (.n (.p [(202, (.int .i64))] (.n .l (.n .l (.n (.n (.n .l (.n (.o (odR 0 12)) .l)) .l) .l)))) .l)) .l))))))) .l)))))))))) .l))) (.n .l (.n (.n .l (.n (.p [] (.n .l (.n .l (.n (.n (.e .raw .raw) (.n .l (.n (.p [(233, (.int .i64))] .l) .l))) .l)))) .l)) .l))))) .l) .l)))) .l)) .l)))))))))) (fn := Try.f7) Try.func7 (by kernel_rfl) h

/- tollhouse/tollhouseref20.Same -/
def ref20_Same_sh (a : Value) (b : Value) (K : Bool → WP) : WP :=
 len 29 3 a fun t7 =>
 len 29 3 b fun t9 =>
 condK (t7 != t9)
 (K false)
 (loopK [(5, (.int .i64))] (fun (j1 : Int → WP) => j1 0) (fun (j2 : Int → WP) (i : Int) =>
 len 29 3 a fun t13 =>
 condK (decide (i < t13))
 (DrawK fun S =>
 jI S 29 a .i64 i 3 .i64 fun t20 =>
 jI S 29 b .i64 i 3 .i64 fun t24 =>
 condK (t20 != t24)
 (K false)
 (ArK .i64 (i + 1) fun t16 =>
 j2 t16))
 (K true)))
theorem ref20_Same_ok {a : Value} {b : Value} {K : Bool → WP} (w : World) (h : ref20_Same_sh a b K w) : ref20_Same a b K w :=
  fn_ok cx_ok (hi := (.n .l (.n .l (.n (.n .l (.n (.p [(5, (.int .i64))] (.n .l (.n (.n (.n (.o (odR 0 9)) .l) .l) .l))) .l)) .l)))) (fn := Try.f17) Try.func17 (by kernel_rfl) h

end Go.Proofs.Ytgbihlbgkkpciaa
