/-
  FUNCTIONS AS PLAIN TERMS, printed by shx.py.
-/
import Derived.Test.YtoneapgooihajaaDoorWd
set_option linter.unusedVariables false
set_option maxRecDepth 100000
namespace Go.Proofs.YtoneapgooihajaaDoor
open Go Sh
/- tollhouse/shell.Text -/
def shell_Text_sh (l : Value) (K : ByteArray → Int → WP) : WP :=
 shell_written_Event l (.func (.func 32) #[] #[]) fun t5 t5_1 =>
 K t5 t5_1
theorem shell_Text_ok {l : Value} {K : ByteArray → Int → WP} (w : World) (h : shell_Text_sh l K w) : shell_Text l K w :=
  fn_ok cx_ok (hi := .l) (fn := Tryd.f22) Tryd.func22 (by kernel_rfl) h

/- tollhouse/shell.Parse -/
def shell_Parse_sh (s : ByteArray) (K : Value → Int → Int → WP) : WP :=
 oR (vS (Instr.alloc 29 true (.tuple #[]))) fun t2 =>
 oR (vS (Instr.alloc 3 true (.tuple #[]))) fun t3 =>
 oR (vS (Instr.alloc 30 true (.tuple #[]))) fun t4 =>
 len 9 3 (.string s) fun t10 =>
 condK (decide (t10 > 131072))
 (sto 29 t2 (.slice none 0 0) <|
 sto 3 t3 (.int .i64 0) <|
 sto 30 t4 (.int .i64 3) <|
 rR (vS (do loadVar 29 (← asAddr t2))) fun u_3 =>
 rI .i64 (vS (do loadVar 3 (← asAddr t3))) fun u_4 =>
 rI .i64 (vS (do loadVar 30 (← asAddr t4))) fun u_5 =>
 K u_3 u_4 u_5)
 (oR (vS (Instr.alloc 29 true (.tuple #[]))) fun l =>
 strings_Lines s fun t13 =>
 RfK P t13 [.str] (fun (l1 : Nat) (t14 : ByteArray) (d1 : Dn) =>
 BgK P l1 <|
 shell_event t14 fun t17 t17_1 =>
 oR (vS (Instr.alloc 58 true (.tuple #[]))) fun e =>
 sto 58 e t17 <|
 condK (!t17_1)
 (DrawK fun S =>
 sR S (vS (Instr.loadAt 29 l)) fun t22 =>
 sI S .i64 (vS (Builtin.len_ #[29] 3 #[t22])) fun t23 =>
 ArK .i64 (t23 + 1) fun t24 =>
 sto 29 t2 (.slice none 0 0) <|
 andK S <|
 sto 3 t3 (.int .i64 t24) <|
 sto 30 t4 (.int .i64 5) <|
 d1 (some .ret))
 (lR 29 l fun t25 =>
 lR 58 e fun t26 =>
 oR (vS (Instr.buildSlice 29 1 #[(0, t26)])) fun t27 =>
 app 29 29 29 t25 t27 fun t28 =>
 sto 29 l t28 <|
 d1 none)) fun (r1 : Nat) => JmK
 (lR 29 l fun t29 =>
 sto 29 t2 t29 <|
 sto 3 t3 (.int .i64 0) <|
 sto 30 t4 (.int .i64 0) <|
 TkK P r1 <|
 rR (vS (do loadVar 29 (← asAddr t2))) fun u_14 =>
 rI .i64 (vS (do loadVar 3 (← asAddr t3))) fun u_15 =>
 rI .i64 (vS (do loadVar 30 (← asAddr t4))) fun u_16 =>
 K u_14 u_15 u_16)
 (TkK P r1 <|
 rR (vS (do loadVar 29 (← asAddr t2))) fun u_17 =>
 rI .i64 (vS (do loadVar 3 (← asAddr t3))) fun u_18 =>
 rI .i64 (vS (do loadVar 30 (← asAddr t4))) fun u_19 =>
 K u_17 u_18 u_19)
 [])
theorem shell_Parse_ok {s : ByteArray} {K : Value → Int → Int → WP} (w : World) (h : shell_Parse_sh s K w) : shell_Parse s K w :=
  fn_ok cx_ok (hi := (.n .l (.n .l (.n .l (.n (.n .l (.n (.f [.str] true [] .l (.n (.n .l (.n (.n .l (.n (.n (.o (odR 0 6)) .l) .l)) .l)) .l)) .l)) .l))))) (fn := Tryd.f12) Tryd.func12 (by kernel_rfl) h

/- tollhouse/tollhouseref31.Same -/
def ref31_Same_sh (a : Value) (b : Value) (K : Bool → WP) : WP :=
 len 34 3 a fun t7 =>
 len 34 3 b fun t9 =>
 condK (t7 != t9)
 (K false)
 (loopK [(5, (.int .i64))] (fun (j1 : Int → WP) => j1 0) (fun (j2 : Int → WP) (i : Int) =>
 len 34 3 a fun t13 =>
 condK (decide (i < t13))
 (joinK [(68, .bool)] (fun (j3 : Bool → WP) =>
 DrawK fun S =>
 qR (vS (Instr.indexAt 34 a (.int .i64 i))) fun t19 =>
 gI S 68 t19 0 3 .i64 fun t21 =>
 qR (vS (Instr.indexAt 34 b (.int .i64 i))) fun t24 =>
 gI S 68 t24 0 3 .i64 fun t26 =>
 condK (t21 != t26)
 (j3 true)
 (qR (vS (Instr.indexAt 34 a (.int .i64 i))) fun t31 =>
 gI S 68 t31 1 3 .i64 fun t33 =>
 qR (vS (Instr.indexAt 34 b (.int .i64 i))) fun t36 =>
 gI S 68 t36 1 3 .i64 fun t38 =>
 condK (t33 != t38)
 (j3 true)
 (qR (vS (Instr.indexAt 34 a (.int .i64 i))) fun t44 =>
 gI S 68 t44 2 3 .i64 fun t46 =>
 qR (vS (Instr.indexAt 34 b (.int .i64 i))) fun t49 =>
 gI S 68 t49 2 3 .i64 fun t51 =>
 condK (t46 != t51)
 (j3 true)
 (qR (vS (Instr.indexAt 34 a (.int .i64 i))) fun t57 =>
 gR S 68 t57 3 22 fun t59 =>
 sS S (vS (convert 22 9 t59)) fun t60 =>
 qR (vS (Instr.indexAt 34 b (.int .i64 i))) fun t63 =>
 gR S 68 t63 3 22 fun t65 =>
 sS S (vS (convert 22 9 t65)) fun t66 =>
 qB (bS .neq 9 (.tmp 60) (.tmp 66) (.string t60) (.string t66)) fun t67 =>
 j3 t67))))
 fun t68 =>
 condK t68
 (K false)
 (ArK .i64 (i + 1) fun t16 =>
 j2 t16))
 (K true)))
theorem ref31_Same_ok {a : Value} {b : Value} {K : Bool → WP} (w : World) (h : ref31_Same_sh a b K w) : ref31_Same a b K w :=
  fn_ok cx_ok (hi := (.n .l (.n .l (.n (.n .l (.n (.p [(5, (.int .i64))] (.n .l (.n (.n (.n (.j [(68, .bool)] (.o (odR 0 52))) .l) .l) .l))) .l)) .l)))) (fn := Tryd.f13) Tryd.func13 (by kernel_rfl) h

/- tollhouse/tollhouselaw31.theirs -/
def law31_theirs_sh (l : Value) (K : Value → WP) : WP :=
 loopK [(3, .raw), (4, (.int .i64))] (fun (j1 : Value → Int → WP) => j1 (.slice none 0 0) 0) (fun (j2 : Value → Int → WP) (out : Value) (i : Int) =>
 len 29 3 l fun t7 =>
 condK (decide (i < t7))
 (iR 29 l .i64 i 58 fun t15 =>
 oR (vS (Instr.buildSlice 34 1 #[(0, t15)])) fun t16 =>
 app 34 34 34 out t16 fun t17 =>
 ArK .i64 (i + 1) fun t10 =>
 j2 t17 t10)
 (K out))
theorem law31_theirs_ok {l : Value} {K : Value → WP} (w : World) (h : law31_theirs_sh l K w) : law31_theirs l K w :=
  fn_ok cx_ok (hi := (.n .l (.n .l (.n (.n .l (.n (.p [(3, .raw), (4, (.int .i64))] .l) .l)) .l)))) (fn := Tryd.f14) Tryd.func14 (by kernel_rfl) h

/- tollhouse/tollhouselaw31.wakes -/
def law31_wakes_sh (K : Bool → WP) : WP :=
 shell_Unquote (⟨#[34, 97, 34, 120]⟩ : ByteArray) fun t18 t18_1 t18_2 =>
 shell_Unquote (⟨#[34, 92, 120, 54, 49, 34]⟩ : ByteArray) fun _ _ t23_2 =>
 oR (vS (Instr.buildSlice 22 2 #[(0, (.int .u8 104)), (1, (.int .u8 105))])) fun t28 =>
 oR (vS (convert 22 22 t28)) fun t29 =>
 oR (vS (Instr.build 58 #[(0, (.int .i64 2)), (1, (.int .i64 1)), (2, (.int .i64 2)), (3, t29)])) fun t30 =>
 oR (vS (Instr.build 58 #[(0, (.int .i64 8)), (2, (.int .i64 3))])) fun t31 =>
 oR (vS (Instr.buildSlice 29 2 #[(0, t30), (1, t31)])) fun t32 =>
 shell_Text t32 fun t33 t33_1 =>
 oR (vS (Instr.build 60 #[(0, (.int .i64 3)), (2, (.int .i64 1)), (4, (.string (⟨#[97]⟩ : ByteArray))), (5, (.int .i64 80))])) fun t37 =>
 oR (vS (Instr.build 62 #[(1, t37)])) fun t38 =>
 oR (vS (Instr.build 60 #[(0, (.int .i64 2)), (1, (.int .i64 3))])) fun t39 =>
 oR (vS (Instr.build 62 #[(0, (.int .i64 2)), (1, t39)])) fun t40 =>
 oR (vS (Instr.buildSlice 46 2 #[(0, t38), (1, t40)])) fun t41 =>
 oR (vS (Instr.build 49 #[(0, (.int .i64 8)), (2, t41)])) fun t42 =>
 oR (vS (Instr.build 49 #[(0, (.int .i64 1)), (1, (.int .i64 9))])) fun t43 =>
 oR (vS (Instr.buildSlice 42 2 #[(0, t42), (1, t43)])) fun t44 =>
 shell_Rows t44 fun t45 t45_1 =>
 shell_Parse (⟨#[116, 105, 99, 107, 32, 45, 49, 10, 111, 112, 101, 110, 32, 48, 32, 53, 10]⟩ : ByteArray) fun t49 t49_1 t49_2 =>
 shell_Parse (⟨#[116, 105, 99, 107, 32, 48, 49, 10]⟩ : ByteArray) fun _ t54_1 t54_2 =>
 oR (vS (Instr.buildSlice 22 5 #[(0, (.int .u8 97)), (1, (.int .u8 32)), (2, (.int .u8 34)), (3, (.int .u8 13)), (4, (.int .u8 255))])) fun t58 =>
 oR (vS (convert 22 22 t58)) fun t59 =>
 shell_Quote t59 fun t60 =>
 oB (bS .eql 9 (.tmp 60) (.const (.string (⟨#[34, 97, 32, 92, 34, 92, 120, 48, 100, 92, 120, 102, 102, 34]⟩ : ByteArray))) (.string t60) (.string (⟨#[34, 97, 32, 92, 34, 92, 120, 48, 100, 92, 120, 102, 102, 34]⟩ : ByteArray))) fun t61 =>
 condK t61
 (oS (vS (convert 22 9 t18)) fun t64 =>
 oB (bS .eql 9 (.tmp 64) (.const (.string (⟨#[97]⟩ : ByteArray))) (.string t64) (.string (⟨#[97]⟩ : ByteArray))) fun t65 =>
 condK t65
 (oB (bS .eql 9 (.tmp 68) (.const (.string (⟨#[120]⟩ : ByteArray))) (.string t18_1) (.string (⟨#[120]⟩ : ByteArray))) fun t69 =>
 condK t69
 (condK t18_2
 (condK (!t23_2)
 (condK (t33_1 == 0)
 (oB (bS .eql 9 (.tmp 83) (.const (.string (⟨#[100, 97, 116, 97, 32, 49, 32, 50, 32, 34, 104, 105, 34, 10, 116, 105, 99, 107, 32, 51, 10]⟩ : ByteArray))) (.string t33) (.string (⟨#[100, 97, 116, 97, 32, 49, 32, 50, 32, 34, 104, 105, 34, 10, 116, 105, 99, 107, 32, 51, 10]⟩ : ByteArray))) fun t84 =>
 condK t84
 (condK (t45_1 == 0)
 (oB (bS .eql 9 (.tmp 91) (.const (.string (⟨#[116, 105, 99, 107, 32, 111, 107, 10, 62, 32, 48, 32, 106, 111, 105, 110, 32, 49, 32, 34, 97, 34, 32, 56, 48, 10, 62, 32, 50, 32, 115, 104, 117, 116, 32, 51, 10, 111, 112, 101, 110, 32, 101, 114, 114, 111, 114, 32, 57, 10]⟩ : ByteArray))) (.string t45) (.string (⟨#[116, 105, 99, 107, 32, 111, 107, 10, 62, 32, 48, 32, 106, 111, 105, 110, 32, 49, 32, 34, 97, 34, 32, 56, 48, 10, 62, 32, 50, 32, 115, 104, 117, 116, 32, 51, 10, 111, 112, 101, 110, 32, 101, 114, 114, 111, 114, 32, 57, 10]⟩ : ByteArray))) fun t92 =>
 condK t92
 (condK (t49_2 == 0)
 (condK (t49_1 == 0)
 (len 29 3 t49 fun t104 =>
 condK (t104 == 2)
 (oR (vS (Instr.indexAt 29 t49 (.int .i64 0))) fun t109 =>
 fI 58 t109 2 3 .i64 fun t111 =>
 condK (t111 == (-1))
 (oR (vS (Instr.indexAt 29 t49 (.int .i64 1))) fun t116 =>
 fI 58 t116 2 3 .i64 fun t118 =>
 condK (t118 == 5)
 (condK (t54_1 == 1)
 (K (t54_2 == 5))
 (K false))
 (K false))
 (K false))
 (K false))
 (K false))
 (K false))
 (K false))
 (K false))
 (K false))
 (K false))
 (K false))
 (K false))
 (K false))
 (K false))
 (K false)
theorem law31_wakes_ok {K : Bool → WP} (w : World) (h : law31_wakes_sh K w) : law31_wakes K w :=
  fn_ok cx_ok (hi := .l) (fn := Tryd.f11) Tryd.func11 (by kernel_rfl) h

/- tollhouse/tollhouselaw31.rows -/
def law31_rows_sh (l : Value) (K : Value → WP) : WP :=
 loopK [(3, .raw), (4, (.int .i64))] (fun (j1 : Value → Int → WP) => j1 (.slice none 0 0) 0) (fun (j2 : Value → Int → WP) (out : Value) (i : Int) =>
 len 37 3 l fun t9 =>
 condK (decide (i < t9))
 (DrawK fun S =>
 qR (vS (Instr.indexAt 37 l (.int .i64 i))) fun t15 =>
 gI S 41 t15 0 3 .i64 fun t17 =>
 qR (vS (Instr.indexAt 37 l (.int .i64 i))) fun t20 =>
 gI S 41 t20 1 3 .i64 fun t22 =>
 qR (vS (Instr.build 49 #[(0, (.int .i64 t17)), (1, (.int .i64 t22))])) fun t23 =>
 oR (vS (Instr.alloc 49 true (.tuple #[]))) fun x =>
 andK S <|
 sto 49 x t23 <|
 loopK [(6, (.int .i64))] (fun (j3 : Int → WP) => j3 0) (fun (j4 : Int → WP) (k : Int) =>
 joinK [(41, .bool)] (fun (j5 : Bool → WP) =>
 oR (vS (Instr.indexAt 37 l (.int .i64 i))) fun t27 =>
 fR 41 t27 2 38 fun t29 =>
 len 38 3 t29 fun t30 =>
 condK (decide (k < t30))
 (oR (vS (Instr.indexAt 37 l (.int .i64 i))) fun t36 =>
 fR 41 t36 3 39 fun t38 =>
 len 39 3 t38 fun t39 =>
 j5 (decide (k < t39)))
 (j5 false))
 fun t41 =>
 condK t41
 (DrawK fun S =>
 gR S 49 x 2 46 fun t45 =>
 qR (vS (Instr.indexAt 37 l (.int .i64 i))) fun t48 =>
 gR S 41 t48 2 38 fun t50 =>
 jI S 38 t50 .i64 k 3 .i64 fun t53 =>
 qR (vS (Instr.indexAt 37 l (.int .i64 i))) fun t56 =>
 gR S 41 t56 3 39 fun t58 =>
 jR S 39 t58 .i64 k 69 fun t61 =>
 qR (vS (Instr.build 62 #[(0, (.int .i64 t53)), (1, t61)])) fun t62 =>
 oR (vS (Instr.buildSlice 46 1 #[(0, t62)])) fun t63 =>
 andK S <|
 app 46 46 46 t45 t63 fun t64 =>
 andK S <|
 qR (vS (Instr.fieldAt 49 x 2)) fun t65 =>
 sto 46 t65 t64 <|
 ArK .i64 (k + 1) fun t43 =>
 j4 t43)
 (lR 49 x fun t67 =>
 oR (vS (Instr.buildSlice 42 1 #[(0, t67)])) fun t68 =>
 app 42 42 42 out t68 fun t69 =>
 ArK .i64 (i + 1) fun t12 =>
 j2 t69 t12)))
 (K out))
theorem law31_rows_ok {l : Value} {K : Value → WP} (w : World) (h : law31_rows_sh l K w) : law31_rows l K w :=
  fn_ok cx_ok (hi := (.n .l (.n .l (.n (.n .l (.n (.p [(3, .raw), (4, (.int .i64))] (.n .l (.n (.n (.n (.o (odR 0 13)) (.n (.n .l (.n (.p [(6, (.int .i64))] (.n (.n (.j [(41, .bool)] .l) .l) (.n (.n (.o (odR 0 23)) .l) .l))) .l)) .l)) .l) .l))) .l)) .l)))) (fn := Tryd.f15) Tryd.func15 (by kernel_rfl) h

/- tollhouse/shell.Rows -/
def shell_Rows_sh (l : Value) (K : ByteArray → Int → WP) : WP :=
 shell_written_Row l (.func (.func 26) #[] #[]) fun t5 t5_1 =>
 K t5 t5_1
theorem shell_Rows_ok {l : Value} {K : ByteArray → Int → WP} (w : World) (h : shell_Rows_sh l K w) : shell_Rows l K w :=
  fn_ok cx_ok (hi := .l) (fn := Tryd.f16) Tryd.func16 (by kernel_rfl) h

/- tollhouse/shell.ParseRows -/
def shell_ParseRows_sh (s : ByteArray) (K : Value → Int → Int → WP) : WP :=
 oR (vS (Instr.alloc 42 true (.tuple #[]))) fun t2 =>
 oR (vS (Instr.alloc 3 true (.tuple #[]))) fun t3 =>
 oR (vS (Instr.alloc 30 true (.tuple #[]))) fun t4 =>
 len 9 3 (.string s) fun t14 =>
 condK (decide (t14 > 131072))
 (sto 42 t2 (.slice none 0 0) <|
 sto 3 t3 (.int .i64 0) <|
 sto 30 t4 (.int .i64 3) <|
 rR (vS (do loadVar 42 (← asAddr t2))) fun u_3 =>
 rI .i64 (vS (do loadVar 3 (← asAddr t3))) fun u_4 =>
 rI .i64 (vS (do loadVar 30 (← asAddr t4))) fun u_5 =>
 K u_3 u_4 u_5)
 (oR (vS (Instr.alloc 42 true (.tuple #[]))) fun l =>
 oR (vS (Instr.alloc 3 true (.tuple #[]))) fun n =>
 sto 3 n (.int .i64 0) <|
 strings_Lines s fun t17 =>
 RfK P t17 [.str] (fun (l1 : Nat) (t18 : ByteArray) (d1 : Dn) =>
 BgK P l1 <|
 lI 3 .i64 n fun t19 =>
 ArK .i64 (t19 + 1) fun t20 =>
 sto 3 n (.int .i64 t20) <|
 strings_HasPrefix t18 (⟨#[62]⟩ : ByteArray) fun t22 =>
 condK t22
 (shell_sent t18 fun t25 t25_1 =>
 oR (vS (Instr.alloc 62 true (.tuple #[]))) fun x =>
 sto 62 x t25 <|
 lR 42 l fun t28 =>
 len 42 3 t28 fun t29 =>
 ArK .i64 (t29 - 1) fun t30 =>
 joinK [(52, .bool)] (fun (j2 : Bool → WP) =>
 condK (!t25_1)
 (j2 true)
 (condK (decide (t30 < 0))
 (j2 true)
 (lR 42 l fun t38 =>
 oR (vS (Instr.indexAt 42 t38 (.int .i64 t30))) fun t40 =>
 fI 49 t40 0 3 .i64 fun t42 =>
 condK (t42 != 8)
 (j2 true)
 (lR 42 l fun t46 =>
 oR (vS (Instr.indexAt 42 t46 (.int .i64 t30))) fun t48 =>
 fI 49 t48 1 30 .i64 fun t50 =>
 j2 (t50 != 0)))))
 fun t52 =>
 condK t52
 (DrawK fun S =>
 sI S .i64 (vS (Instr.loadAt 3 n)) fun t53 =>
 sto 42 t2 (.slice none 0 0) <|
 andK S <|
 sto 3 t3 (.int .i64 t53) <|
 sto 30 t4 (.int .i64 5) <|
 d1 (some .ret))
 (DrawK fun S =>
 sR S (vS (Instr.loadAt 42 l)) fun t54 =>
 sR S (vS (Instr.loadAt 42 l)) fun t56 =>
 qR (vS (Instr.indexAt 42 t56 (.int .i64 t30))) fun t58 =>
 gR S 49 t58 2 46 fun t60 =>
 sR S (vS (Instr.loadAt 62 x)) fun t61 =>
 oR (vS (Instr.buildSlice 46 1 #[(0, t61)])) fun t62 =>
 andK S <|
 app 46 46 46 t60 t62 fun t63 =>
 andK S <|
 qR (vS (Instr.indexAt 42 t54 (.int .i64 t30))) fun t64 =>
 qR (vS (Instr.fieldAt 49 t64 2)) fun t65 =>
 sto 46 t65 t63 <|
 d1 none))
 (shell_row t18 fun t68 t68_1 =>
 oR (vS (Instr.alloc 49 true (.tuple #[]))) fun r =>
 sto 49 r t68 <|
 condK (!t68_1)
 (DrawK fun S =>
 sI S .i64 (vS (Instr.loadAt 3 n)) fun t73 =>
 sto 42 t2 (.slice none 0 0) <|
 andK S <|
 sto 3 t3 (.int .i64 t73) <|
 sto 30 t4 (.int .i64 5) <|
 d1 (some .ret))
 (lR 42 l fun t74 =>
 lR 49 r fun t75 =>
 oR (vS (Instr.buildSlice 42 1 #[(0, t75)])) fun t76 =>
 app 42 42 42 t74 t76 fun t77 =>
 sto 42 l t77 <|
 d1 none))) fun (r1 : Nat) => JmK
 (lR 42 l fun t78 =>
 sto 42 t2 t78 <|
 sto 3 t3 (.int .i64 0) <|
 sto 30 t4 (.int .i64 0) <|
 TkK P r1 <|
 rR (vS (do loadVar 42 (← asAddr t2))) fun u_21 =>
 rI .i64 (vS (do loadVar 3 (← asAddr t3))) fun u_22 =>
 rI .i64 (vS (do loadVar 30 (← asAddr t4))) fun u_23 =>
 K u_21 u_22 u_23)
 (TkK P r1 <|
 rR (vS (do loadVar 42 (← asAddr t2))) fun u_24 =>
 rI .i64 (vS (do loadVar 3 (← asAddr t3))) fun u_25 =>
 rI .i64 (vS (do loadVar 30 (← asAddr t4))) fun u_26 =>
 K u_24 u_25 u_26)
 [])
theorem shell_ParseRows_ok {s : ByteArray} {K : Value → Int → Int → WP} (w : World) (h : shell_ParseRows_sh s K w) : shell_ParseRows s K w :=
  fn_ok cx_ok (hi := (.n .l (.n .l (.n .l (.n .l (.n (.n .l (.n (.f [.str] true [] .l (.n (.n .l (.n (.n .l (.n (.n .l (.n .l (.n (.n (.j [(52, .bool)] .l) (.n (.n (.o (odR 0 4)) .l) .l)) (.n (.o (odR 0 13)) .l)))) .l)) (.n .l (.n (.n .l (.n (.n (.o (odR 0 4)) .l) .l)) .l)))) .l)) .l)) .l)))))) (fn := Tryd.f18) Tryd.func18 (by kernel_rfl) h

/- tollhouse/shell.written[tollhouse/proxy.Event] -/
def shell_written_Event_sh (l : Value) (f : Value) (K : ByteArray → Int → WP) : WP :=
 oR (vS (Instr.alloc 90 true (.tuple #[]))) fun b =>
 len 29 3 l fun t12 =>
 loopK [(13, (.int .i64))] (fun (j1 : Int → WP) => j1 0) (fun (j2 : Int → WP) (t13 : Int) =>
 condK (decide (t13 < t12))
 (iR 29 l .i64 t13 58 fun t16 =>
 oR (vS (Instr.alloc 58 true (.tuple #[]))) fun x =>
 sto 58 x t16 <|
 lR 58 x fun t19 =>
 OpK P (.tup [.str, .bool]) (callS f #[t19]) fun t20 t20_1 =>
 condK (!t20_1)
 (K (⟨#[]⟩ : ByteArray) 1)
 (strings_Builder_WriteString b t20 fun _ _ =>
 ArK .i64 (t13 + 1) fun t27 =>
 j2 t27))
 (strings_Builder_Len b fun t28 =>
 condK (decide (t28 > 131072))
 (K (⟨#[]⟩ : ByteArray) 3)
 (strings_Builder_String b fun t30 =>
 K t30 0)))
theorem shell_written_Event_ok {l : Value} {f : Value} {K : ByteArray → Int → WP} (w : World) (h : shell_written_Event_sh l f K w) : shell_written_Event l f K w :=
  fn_ok cx_ok (hi := (.n .l (.n .l (.n (.n .l (.n (.p [(13, (.int .i64))] .l) .l)) .l)))) (fn := Tryd.f31) Tryd.func31 (by kernel_rfl) h

/- tollhouse/shell.eventText -/
def shell_eventText_sh (e : Value) (K : ByteArray → Bool → WP) : WP :=
 oR (vS (Instr.box 58 e)) fun e_1 =>
 fI 58 e_1 0 3 .i64 fun t6 =>
 shell_name (⟨#[32, 111, 112, 101, 110, 32, 100, 97, 116, 97, 32, 108, 101, 97, 118, 101, 32, 106, 111, 105, 110, 101, 100, 32, 102, 97, 105, 108, 101, 100, 32, 114, 101, 112, 108, 121, 32, 101, 110, 100, 101, 100, 32, 116, 105, 99, 107]⟩ : ByteArray) t6 fun t7 =>
 fI 58 e_1 0 3 .i64 fun t10 =>
 condK (t10 == 8)
 (joinK [(2, .str), (3, .bool)] (fun (j1 : ByteArray → Bool → WP) =>
 DrawK fun S =>
 gI S 58 e_1 2 3 .i64 fun t14 =>
 gI S 58 e_1 1 3 .i64 fun t19 =>
 shell_num t14 fun t15 =>
 andK S <|
 oR (vS (Instr.buildSlice 103 2 #[(0, (.string t7)), (1, (.string t15))])) fun t16 =>
 andK S <|
 shell_line t16 fun t17 =>
 andK S <|
 condK (t19 == 0)
 (gR S 58 e_1 3 22 fun t23 =>
 sI S .i64 (vS (Builtin.len_ #[22] 3 #[t23])) fun t24 =>
 j1 t17 (t24 == 0))
 (j1 t17 false))
 fun t2 t3 =>
 K t2 t3)
 (joinK [(27, .bool)] (fun (j2 : Bool → WP) =>
 fI 58 e_1 0 3 .i64 fun t29 =>
 condK (t29 == 2)
 (j2 true)
 (fI 58 e_1 0 3 .i64 fun t33 =>
 j2 (t33 == 6)))
 fun t27 =>
 condK t27
 (DrawK fun S =>
 gI S 58 e_1 1 3 .i64 fun t38 =>
 gI S 58 e_1 2 3 .i64 fun t41 =>
 gR S 58 e_1 3 22 fun t44 =>
 shell_num t38 fun t39 =>
 andK S <|
 shell_num t41 fun t42 =>
 andK S <|
 shell_Quote t44 fun t45 =>
 andK S <|
 oR (vS (Instr.buildSlice 103 4 #[(0, (.string t7)), (1, (.string t39)), (2, (.string t42)), (3, (.string t45))])) fun t46 =>
 andK S <|
 shell_line t46 fun t47 =>
 andK S <|
 K t47 true)
 (DrawK fun S =>
 gI S 58 e_1 1 3 .i64 fun t50 =>
 gI S 58 e_1 2 3 .i64 fun t53 =>
 qB (bS .neq 9 (.tmp 57) (.const (.string (⟨#[]⟩ : ByteArray))) (.string t7) (.string (⟨#[]⟩ : ByteArray))) fun t58 =>
 shell_num t50 fun t51 =>
 andK S <|
 shell_num t53 fun t54 =>
 andK S <|
 oR (vS (Instr.buildSlice 103 3 #[(0, (.string t7)), (1, (.string t51)), (2, (.string t54))])) fun t55 =>
 andK S <|
 shell_line t55 fun t56 =>
 andK S <|
 condK t58
 (gR S 58 e_1 3 22 fun t61 =>
 sI S .i64 (vS (Builtin.len_ #[22] 3 #[t61])) fun t62 =>
 K t56 (t62 == 0))
 (K t56 false)))
theorem shell_eventText_ok {e : Value} {K : ByteArray → Bool → WP} (w : World) (h : shell_eventText_sh e K w) : shell_eventText e K w :=
  fn_ok cx_ok (hi := (.n .l (.n .l (.n (.n (.n .l (.n (.n (.j [(2, .str), (3, .bool)] (.o (odL [0, 1, 2, 6, 7, 8, 3, 4, 5, 9, 10, 11, 12, 13, 14, 15, 16]))) .l) (.n (.j [(27, .bool)] .l) (.n (.n (.o (odL [0, 1, 2, 4, 5, 7, 8, 3, 6, 9, 10, 11, 12, 13])) .l) .l)))) .l) (.n (.o (odL [0, 1, 2, 4, 5, 9, 10, 3, 6, 7, 8, 11, 12, 13, 14, 15, 16, 17, 18])) .l))))) (fn := Tryd.f32) Tryd.func32 (by kernel_rfl) h

/- strings.Lines -/
def strings_Lines_sh (s : ByteArray) (K : Value → WP) : WP :=
 oR (vS (Instr.box 9 (.string s))) fun s_1 =>
 K (.func (.func 33) #[] #[s_1])
theorem strings_Lines_ok {s : ByteArray} {K : Value → WP} (w : World) (h : strings_Lines_sh s K w) : strings_Lines s K w :=
  fn_ok cx_ok (hi := .l) (fn := Tryd.f23) Tryd.func23 (by kernel_rfl) h

/- tollhouse/shell.event -/
def shell_event_sh (s : ByteArray) (K : Value → Bool → WP) : WP :=
 oR (vS (Instr.alloc 58 true (.tuple #[]))) fun t2 =>
 strings_TrimSuffix s (⟨#[10]⟩ : ByteArray) fun t9 =>
 oR (vS (Instr.build 82 #[(0, (.string t9))])) fun t10 =>
 oR (vS (Instr.box 82 t10)) fun t11 =>
 shell_reader_place t11 (⟨#[32, 111, 112, 101, 110, 32, 100, 97, 116, 97, 32, 108, 101, 97, 118, 101, 32, 106, 111, 105, 110, 101, 100, 32, 102, 97, 105, 108, 101, 100, 32, 114, 101, 112, 108, 121, 32, 101, 110, 100, 101, 100, 32, 116, 105, 99, 107]⟩ : ByteArray) fun t13 =>
 oR (vS (Instr.build 58 #[(0, (.int .i64 t13))])) fun t14 =>
 oR (vS (Instr.alloc 58 true (.tuple #[]))) fun e =>
 sto 58 e t14 <|
 joinK [] (fun (j1 : WP) =>
 fI 58 e 0 3 .i64 fun t16 =>
 condK (t16 == 8)
 (oR (vS (Instr.fieldAt 58 e 2)) fun t25 =>
 oR (vS (Instr.buildSlice 105 1 #[(0, t25)])) fun t26 =>
 shell_reader_numbers t11 t26 fun _ =>
 j1)
 (joinK [(28, .bool)] (fun (j2 : Bool → WP) =>
 condK (t16 == 2)
 (j2 (t16 == 2))
 (j2 (t16 == 6)))
 fun t28 =>
 condK t28
 (oR (vS (Instr.fieldAt 58 e 1)) fun t32 =>
 oR (vS (Instr.fieldAt 58 e 2)) fun t33 =>
 oR (vS (Instr.buildSlice 105 2 #[(0, t32), (1, t33)])) fun t34 =>
 shell_reader_numbers t11 t34 fun _ =>
 shell_reader_word t11 fun t37 =>
 fW 58 e 3 22 t37 <|
 j1)
 (oR (vS (Instr.fieldAt 58 e 1)) fun t18 =>
 oR (vS (Instr.fieldAt 58 e 2)) fun t19 =>
 oR (vS (Instr.buildSlice 105 2 #[(0, t18), (1, t19)])) fun t20 =>
 shell_reader_numbers t11 t20 fun _ =>
 j1)))
 <|
 lR 58 e fun t40 =>
 shell_eventText t40 fun t41 t41_1 =>
 DrawK fun S =>
 sR S (vS (Instr.loadAt 58 e)) fun t44 =>
 hB S 82 t11 1 4 fun t48 =>
 condK (!t48)
 (condK t41_1
 (qB (bS .eql 9 (.tmp 54) (.tmp 55) (.string t41) (.string s)) fun t56 =>
 sto 58 t2 t44 <|
 andK S <|
 rR (vS (do loadVar 58 (← asAddr t2))) fun u_3 =>
 K u_3 t56)
 (sto 58 t2 t44 <|
 andK S <|
 rR (vS (do loadVar 58 (← asAddr t2))) fun u_5 =>
 K u_5 false))
 (sto 58 t2 t44 <|
 andK S <|
 rR (vS (do loadVar 58 (← asAddr t2))) fun u_7 =>
 K u_7 false)
theorem shell_event_ok {s : ByteArray} {K : Value → Bool → WP} (w : World) (h : shell_event_sh s K w) : shell_event s K w :=
  fn_ok cx_ok (hi := (.n .l (.n .l (.n .l (.n (.j [] (.n .l (.n (.n .l (.n .l (.n (.j [(28, .bool)] .l) .l))) .l))) (.n .l (.n (.o (odR 0 16)) .l))))))) (fn := Tryd.f24) Tryd.func24 (by kernel_rfl) h

/- tollhouse/shell.Unquote -/
def shell_Unquote_sh (s : ByteArray) (K : Value → ByteArray → Bool → WP) : WP :=
 strings_HasPrefix s (⟨#[34]⟩ : ByteArray) fun t10 =>
 condK (!t10)
 (K (.slice none 0 0) (⟨#[]⟩ : ByteArray) false)
 (oR (vS (Instr.buildSlice 22 0 #[])) fun t12 =>
 loopK [(5, .raw), (6, (.int .i64))] (fun (j1 : Value → Int → WP) => j1 t12 1) (fun (j2 : Value → Int → WP) (b : Value) (at_ : Int) =>
 len 9 3 (.string s) fun t15 =>
 condK (decide (at_ < t15))
 (oI .u8 (vS (Instr.index 9 (.string s) (.int .i64 at_))) fun t28 =>
 condK (t28 == 34)
 (DrawK fun S =>
 ArK .i64 (at_ + 1) fun t34 =>
 qS (vS (Instr.sliceAt 9 (.string s) none (some (.int .i64 t34)) none)) fun t35 =>
 shell_Quote b fun t31 =>
 qB (bS .neq 9 (.tmp 31) (.tmp 35) (.string t31) (.string t35)) fun t36 =>
 condK t36
 (K (.slice none 0 0) (⟨#[]⟩ : ByteArray) false)
 (DrawK fun S =>
 ArK .i64 (at_ + 1) fun t40 =>
 qS (vS (Instr.sliceAt 9 (.string s) (some (.int .i64 t40)) none none)) fun t41 =>
 K b t41 true))
 (joinK [(42, .bool)] (fun (j3 : Bool → WP) =>
 oI .u8 (vS (Instr.index 9 (.string s) (.int .i64 at_))) fun t45 =>
 condK (t45 == 92)
 (ArK .i64 (at_ + 3) fun t49 =>
 len 9 3 (.string s) fun t51 =>
 condK (decide (t49 < t51))
 (ArK .i64 (at_ + 1) fun t57 =>
 oI .u8 (vS (Instr.index 9 (.string s) (.int .i64 t57))) fun t58 =>
 j3 (t58 == 120))
 (j3 false))
 (j3 false))
 fun t42 =>
 condK t42
 (DrawK fun S =>
 ArK .i64 (at_ + 2) fun t63 =>
 qI .u8 (vS (Instr.index 9 (.string s) (.int .i64 t63))) fun t64 =>
 ArK .i64 (at_ + 3) fun t68 =>
 qI .u8 (vS (Instr.index 9 (.string s) (.int .i64 t68))) fun t69 =>
 strings_IndexByte (⟨#[48, 49, 50, 51, 52, 53, 54, 55, 56, 57, 97, 98, 99, 100, 101, 102]⟩ : ByteArray) t64 fun t65 =>
 strings_IndexByte (⟨#[48, 49, 50, 51, 52, 53, 54, 55, 56, 57, 97, 98, 99, 100, 101, 102]⟩ : ByteArray) t69 fun t70 =>
 joinK [(76, .bool)] (fun (j4 : Bool → WP) =>
 condK (decide (t65 < 0))
 (j4 true)
 (j4 (decide (t70 < 0))))
 fun t76 =>
 condK t76
 (K (.slice none 0 0) (⟨#[]⟩ : ByteArray) false)
 (oI .i64 (bS .shl 3 (.tmp 78) (.const (.int .u64 4)) (.int .i64 t65) (.int .u64 4)) fun t79 =>
 oI .i64 (bS .or 3 (.tmp 79) (.tmp 80) (.int .i64 t79) (.int .i64 t70)) fun t81 =>
 oI .u8 (vS (convert 3 5 (.int .i64 t81))) fun t82 =>
 oR (vS (Instr.buildSlice 22 1 #[(0, (.int .u8 t82))])) fun t83 =>
 app 22 22 22 b t83 fun t84 =>
 ArK .i64 (at_ + 3) fun t86 =>
 ArK .i64 (t86 + 1) fun t18 =>
 j2 t84 t18))
 (joinK [(87, .bool)] (fun (j5 : Bool → WP) =>
 oI .u8 (vS (Instr.index 9 (.string s) (.int .i64 at_))) fun t90 =>
 condK (t90 == 92)
 (ArK .i64 (at_ + 1) fun t94 =>
 len 9 3 (.string s) fun t96 =>
 j5 (decide (t94 < t96)))
 (j5 false))
 fun t87 =>
 condK t87
 (ArK .i64 (at_ + 1) fun t100 =>
 oI .u8 (vS (Instr.index 9 (.string s) (.int .i64 t100))) fun t104 =>
 oR (vS (Instr.buildSlice 22 1 #[(0, (.int .u8 t104))])) fun t105 =>
 app 22 22 22 b t105 fun t106 =>
 ArK .i64 (t100 + 1) fun t18_1 =>
 j2 t106 t18_1)
 (oI .u8 (vS (Instr.index 9 (.string s) (.int .i64 at_))) fun t22 =>
 oR (vS (Instr.buildSlice 22 1 #[(0, (.int .u8 t22))])) fun t23 =>
 app 22 22 22 b t23 fun t24 =>
 ArK .i64 (at_ + 1) fun t18_2 =>
 j2 t24 t18_2))))
 (K (.slice none 0 0) (⟨#[]⟩ : ByteArray) false)))
theorem shell_Unquote_ok {s : ByteArray} {K : Value → ByteArray → Bool → WP} (w : World) (h : shell_Unquote_sh s K w) : shell_Unquote s K w :=
  fn_ok cx_ok (hi := (.n .l (.n .l (.n .l (.n (.n .l (.n (.p [(5, .raw), (6, (.int .i64))] (.n .l (.n (.n (.n (.n .l (.n (.n (.n (.o (odL [0, 2, 3, 4, 5, 1, 6])) .l) (.n (.o (odR 0 8)) .l)) (.n (.j [(42, .bool)] .l) (.n (.n (.o (odL [0, 1, 2, 3, 5, 6, 7, 8, 4, 9, 10, 11])) (.n (.n (.j [(76, .bool)] .l) .l) .l)) (.n (.j [(87, .bool)] .l) .l))))) .l) .l) .l))) .l)) .l))))) (fn := Tryd.f7) Tryd.func7 (by kernel_rfl) h

/- tollhouse/shell.Quote -/
def shell_Quote_sh (b : Value) (K : ByteArray → WP) : WP :=
 oR (vS (Instr.buildSlice 22 1 #[(0, (.int .u8 34))])) fun t6 =>
 len 22 3 b fun t8 =>
 loopK [(3, .raw), (9, (.int .i64))] (fun (j1 : Value → Int → WP) => j1 t6 0) (fun (j2 : Value → Int → WP) (out : Value) (t9 : Int) =>
 condK (decide (t9 < t8))
 (iI 22 b .i64 t9 5 .u8 fun t12 =>
 joinK [(17, .bool)] (fun (j3 : Bool → WP) =>
 condK (decide (t12 < 32))
 (j3 true)
 (j3 (decide (t12 > 126))))
 fun t17 =>
 condK t17
 (DrawK fun S =>
 qI .u8 (bS .shr 5 (.tmp 25) (.const (.int .u64 4)) (.int .u8 t12) (.int .u64 4)) fun t26 =>
 qI .u8 (vS (Instr.index 9 (.string (⟨#[48, 49, 50, 51, 52, 53, 54, 55, 56, 57, 97, 98, 99, 100, 101, 102]⟩ : ByteArray)) (.int .u8 t26))) fun t27 =>
 qI .u8 (bS .and 5 (.tmp 28) (.const (.int .u8 15)) (.int .u8 t12) (.int .u8 15)) fun t29 =>
 qI .u8 (vS (Instr.index 9 (.string (⟨#[48, 49, 50, 51, 52, 53, 54, 55, 56, 57, 97, 98, 99, 100, 101, 102]⟩ : ByteArray)) (.int .u8 t29))) fun t30 =>
 oR (vS (Instr.buildSlice 22 4 #[(0, (.int .u8 92)), (1, (.int .u8 120)), (2, (.int .u8 t27)), (3, (.int .u8 t30))])) fun t31 =>
 app 22 22 22 out t31 fun t32 =>
 ArK .i64 (t9 + 1) fun t44 =>
 j2 t32 t44)
 (joinK [(33, .bool)] (fun (j4 : Bool → WP) =>
 condK (t12 == 34)
 (j4 true)
 (j4 (t12 == 92)))
 fun t33 =>
 condK t33
 (oR (vS (Instr.buildSlice 22 2 #[(0, (.int .u8 92)), (1, (.int .u8 t12))])) fun t42 =>
 app 22 22 22 out t42 fun t43 =>
 ArK .i64 (t9 + 1) fun t44_1 =>
 j2 t43 t44_1)
 (oR (vS (Instr.buildSlice 22 1 #[(0, (.int .u8 t12))])) fun t15 =>
 app 22 22 22 out t15 fun t16 =>
 ArK .i64 (t9 + 1) fun t44_2 =>
 j2 t16 t44_2)))
 (oR (vS (Instr.buildSlice 22 1 #[(0, (.int .u8 34))])) fun t46 =>
 app 22 22 22 out t46 fun t47 =>
 oS (vS (convert 22 9 t47)) fun t48 =>
 K t48))
theorem shell_Quote_ok {b : Value} {K : ByteArray → WP} (w : World) (h : shell_Quote_sh b K w) : shell_Quote b K w :=
  fn_ok cx_ok (hi := (.n .l (.n .l (.n (.n .l (.n (.p [(3, .raw), (9, (.int .i64))] (.n .l (.n .l (.n (.n (.n .l (.n (.n (.j [(17, .bool)] .l) (.n (.o (odR 0 10)) (.n (.j [(33, .bool)] .l) .l))) .l)) .l) .l)))) .l)) .l)))) (fn := Tryd.f9) Tryd.func9 (by kernel_rfl) h

/- tollhouse/shell.written[tollhouse/proxy.Row] -/
def shell_written_Row_sh (l : Value) (f : Value) (K : ByteArray → Int → WP) : WP :=
 oR (vS (Instr.alloc 90 true (.tuple #[]))) fun b =>
 len 42 3 l fun t12 =>
 loopK [(13, (.int .i64))] (fun (j1 : Int → WP) => j1 0) (fun (j2 : Int → WP) (t13 : Int) =>
 condK (decide (t13 < t12))
 (iR 42 l .i64 t13 49 fun t16 =>
 oR (vS (Instr.alloc 49 true (.tuple #[]))) fun x =>
 sto 49 x t16 <|
 lR 49 x fun t19 =>
 OpK P (.tup [.str, .bool]) (callS f #[t19]) fun t20 t20_1 =>
 condK (!t20_1)
 (K (⟨#[]⟩ : ByteArray) 1)
 (strings_Builder_WriteString b t20 fun _ _ =>
 ArK .i64 (t13 + 1) fun t27 =>
 j2 t27))
 (strings_Builder_Len b fun t28 =>
 condK (decide (t28 > 131072))
 (K (⟨#[]⟩ : ByteArray) 3)
 (strings_Builder_String b fun t30 =>
 K t30 0)))
theorem shell_written_Row_ok {l : Value} {f : Value} {K : ByteArray → Int → WP} (w : World) (h : shell_written_Row_sh l f K w) : shell_written_Row l f K w :=
  fn_ok cx_ok (hi := (.n .l (.n .l (.n (.n .l (.n (.p [(13, (.int .i64))] .l) .l)) .l)))) (fn := Tryd.f25) Tryd.func25 (by kernel_rfl) h

/- tollhouse/shell.rowText -/
def shell_rowText_sh (r : Value) (K : ByteArray → Bool → WP) : WP :=
 oR (vS (Instr.box 49 r)) fun r_1 =>
 fI 49 r_1 0 3 .i64 fun t11 =>
 shell_name (⟨#[32, 111, 112, 101, 110, 32, 100, 97, 116, 97, 32, 108, 101, 97, 118, 101, 32, 106, 111, 105, 110, 101, 100, 32, 102, 97, 105, 108, 101, 100, 32, 114, 101, 112, 108, 121, 32, 101, 110, 100, 101, 100, 32, 116, 105, 99, 107]⟩ : ByteArray) t11 fun t12 =>
 joinK [(30, .bool)] (fun (j1 : Bool → WP) =>
 oB (bS .eql 9 (.tmp 13) (.const (.string (⟨#[]⟩ : ByteArray))) (.string t12) (.string (⟨#[]⟩ : ByteArray))) fun t14 =>
 condK t14
 (j1 true)
 (fR 49 r_1 2 46 fun t17 =>
 len 46 3 t17 fun t18 =>
 condK (decide (t18 > 0))
 (fI 49 r_1 0 3 .i64 fun t22 =>
 condK (t22 != 8)
 (j1 true)
 (fI 49 r_1 1 30 .i64 fun t26 =>
 j1 (t26 != 0)))
 (j1 false)))
 fun t30 =>
 condK t30
 (K (⟨#[]⟩ : ByteArray) false)
 (fI 49 r_1 1 30 .i64 fun t32 =>
 condK (t32 != 0)
 (fI 49 r_1 1 30 .i64 fun t36 =>
 shell_num t36 fun t37 =>
 oR (vS (Instr.buildSlice 103 3 #[(0, (.string t12)), (1, (.string (⟨#[101, 114, 114, 111, 114]⟩ : ByteArray))), (2, (.string t37))])) fun t38 =>
 shell_line t38 fun t39 =>
 K t39 true)
 (oR (vS (Instr.alloc 90 true (.tuple #[]))) fun b =>
 oR (vS (Instr.buildSlice 103 2 #[(0, (.string t12)), (1, (.string (⟨#[111, 107]⟩ : ByteArray)))])) fun t41 =>
 shell_line t41 fun t42 =>
 strings_Builder_WriteString b t42 fun _ _ =>
 fR 49 r_1 2 46 fun t45 =>
 len 46 3 t45 fun t46 =>
 loopK [(47, (.int .i64))] (fun (j2 : Int → WP) => j2 0) (fun (j3 : Int → WP) (t47 : Int) =>
 condK (decide (t47 < t46))
 (iR 46 t45 .i64 t47 62 fun t50 =>
 oR (vS (Instr.alloc 62 true (.tuple #[]))) fun x =>
 sto 62 x t50 <|
 lR 62 x fun t52 =>
 shell_outText t52 fun t53 t53_1 =>
 condK (!t53_1)
 (K (⟨#[]⟩ : ByteArray) false)
 (strings_Builder_WriteString b t53 fun _ _ =>
 ArK .i64 (t47 + 1) fun t60 =>
 j3 t60))
 (strings_Builder_String b fun t61 =>
 K t61 true))))
theorem shell_rowText_ok {r : Value} {K : ByteArray → Bool → WP} (w : World) (h : shell_rowText_sh r K w) : shell_rowText r K w :=
  fn_ok cx_ok (hi := (.n .l (.n .l (.n (.n (.j [(30, .bool)] .l) .l) (.n .l (.n .l (.n .l (.n (.n .l (.n (.p [(47, (.int .i64))] .l) .l)) .l)))))))) (fn := Tryd.f26) Tryd.func26 (by kernel_rfl) h

/- tollhouse/shell.sent -/
def shell_sent_sh (s : ByteArray) (K : Value → Bool → WP) : WP :=
 oR (vS (Instr.alloc 62 true (.tuple #[]))) fun t2 =>
 strings_TrimSuffix s (⟨#[10]⟩ : ByteArray) fun t10 =>
 oR (vS (Instr.build 82 #[(0, (.string t10))])) fun t11 =>
 oR (vS (Instr.box 82 t11)) fun t12 =>
 shell_reader_plain t12 fun _ =>
 shell_reader_number t12 fun t16 =>
 oR (vS (Instr.build 62 #[(0, (.int .i64 t16))])) fun t17 =>
 oR (vS (Instr.alloc 62 true (.tuple #[]))) fun x =>
 sto 62 x t17 <|
 oR (vS (Instr.fieldAt 62 x 1)) fun t18 =>
 joinK [] (fun (j1 : WP) =>
 shell_reader_place t12 (⟨#[32, 99, 108, 105, 101, 110, 116, 32, 115, 104, 117, 116, 32, 106, 111, 105, 110, 32, 111, 114, 105, 103, 105, 110, 32, 101, 110, 100]⟩ : ByteArray) fun t21 =>
 nW 60 t18 0 3 (.int .i64 t21) <|
 nI 60 t18 0 3 .i64 fun t27 =>
 condK (t27 == 1)
 (NilK t18 <|
 oR (vS (Instr.fieldAt 60 t18 1)) fun t39 =>
 oR (vS (Instr.buildSlice 105 1 #[(0, t39)])) fun t40 =>
 shell_reader_numbers t12 t40 fun _ =>
 shell_reader_word t12 fun t44 =>
 nW 60 t18 3 22 t44 <|
 j1)
 (condK (t27 == 2)
 (NilK t18 <|
 oR (vS (Instr.fieldAt 60 t18 1)) fun t52 =>
 oR (vS (Instr.buildSlice 105 1 #[(0, t52)])) fun t53 =>
 shell_reader_numbers t12 t53 fun _ =>
 j1)
 (condK (t27 == 3)
 (NilK t18 <|
 oR (vS (Instr.fieldAt 60 t18 2)) fun t60 =>
 oR (vS (Instr.buildSlice 105 1 #[(0, t60)])) fun t61 =>
 shell_reader_numbers t12 t61 fun _ =>
 shell_reader_word t12 fun t65 =>
 oS (vS (convert 22 9 t65)) fun t66 =>
 nW 60 t18 4 9 (.string t66) <|
 NilK t18 <|
 oR (vS (Instr.fieldAt 60 t18 5)) fun t72 =>
 oR (vS (Instr.buildSlice 105 1 #[(0, t72)])) fun t73 =>
 shell_reader_numbers t12 t73 fun _ =>
 j1)
 (condK (t27 == 4)
 (NilK t18 <|
 oR (vS (Instr.fieldAt 60 t18 2)) fun t80 =>
 oR (vS (Instr.buildSlice 105 1 #[(0, t80)])) fun t81 =>
 shell_reader_numbers t12 t81 fun _ =>
 shell_reader_word t12 fun t85 =>
 nW 60 t18 3 22 t85 <|
 j1)
 (NilK t18 <|
 oR (vS (Instr.fieldAt 60 t18 2)) fun t31 =>
 oR (vS (Instr.buildSlice 105 1 #[(0, t31)])) fun t32 =>
 shell_reader_numbers t12 t32 fun _ =>
 j1)))))
 <|
 lR 62 x fun t89 =>
 shell_outText t89 fun t90 t90_1 =>
 DrawK fun S =>
 sR S (vS (Instr.loadAt 62 x)) fun t93 =>
 hB S 82 t12 1 4 fun t97 =>
 condK (!t97)
 (condK t90_1
 (qB (bS .eql 9 (.tmp 103) (.tmp 104) (.string t90) (.string s)) fun t105 =>
 sto 62 t2 t93 <|
 andK S <|
 rR (vS (do loadVar 62 (← asAddr t2))) fun u_6 =>
 K u_6 t105)
 (sto 62 t2 t93 <|
 andK S <|
 rR (vS (do loadVar 62 (← asAddr t2))) fun u_8 =>
 K u_8 false))
 (sto 62 t2 t93 <|
 andK S <|
 rR (vS (do loadVar 62 (← asAddr t2))) fun u_10 =>
 K u_10 false)
theorem shell_sent_ok {s : ByteArray} {K : Value → Bool → WP} (w : World) (h : shell_sent_sh s K w) : shell_sent s K w :=
  fn_ok cx_ok (hi := (.n .l (.n .l (.n .l (.n .l (.n .l (.n (.j [] .l) (.n .l (.n (.o (odR 0 16)) .l))))))))) (fn := Tryd.f27) Tryd.func27 (by kernel_rfl) h

/- tollhouse/shell.row -/
def shell_row_sh (s : ByteArray) (K : Value → Bool → WP) : WP :=
 oR (vS (Instr.alloc 49 true (.tuple #[]))) fun t2 =>
 strings_TrimSuffix s (⟨#[10]⟩ : ByteArray) fun t9 =>
 oR (vS (Instr.build 82 #[(0, (.string t9))])) fun t10 =>
 oR (vS (Instr.box 82 t10)) fun t11 =>
 shell_reader_place t11 (⟨#[32, 111, 112, 101, 110, 32, 100, 97, 116, 97, 32, 108, 101, 97, 118, 101, 32, 106, 111, 105, 110, 101, 100, 32, 102, 97, 105, 108, 101, 100, 32, 114, 101, 112, 108, 121, 32, 101, 110, 100, 101, 100, 32, 116, 105, 99, 107]⟩ : ByteArray) fun t13 =>
 oR (vS (Instr.build 49 #[(0, (.int .i64 t13))])) fun t14 =>
 oR (vS (Instr.alloc 49 true (.tuple #[]))) fun x =>
 sto 49 x t14 <|
 joinK [] (fun (j1 : WP) =>
 shell_reader_plain t11 fun t16 =>
 oB (bS .eql 9 (.tmp 16) (.const (.string (⟨#[101, 114, 114, 111, 114]⟩ : ByteArray))) (.string t16) (.string (⟨#[101, 114, 114, 111, 114]⟩ : ByteArray))) fun t17 =>
 condK t17
 (shell_reader_number t11 fun t19 =>
 fW 49 x 1 30 (.int .i64 t19) <|
 j1)
 (j1))
 <|
 lR 49 x fun t22 =>
 shell_rowText t22 fun t23 t23_1 =>
 DrawK fun S =>
 sR S (vS (Instr.loadAt 49 x)) fun t26 =>
 hB S 82 t11 1 4 fun t30 =>
 condK (!t30)
 (condK t23_1
 (qB (bS .eql 9 (.tmp 36) (.tmp 37) (.string t23) (.string s)) fun t38 =>
 sto 49 t2 t26 <|
 andK S <|
 rR (vS (do loadVar 49 (← asAddr t2))) fun u_3 =>
 K u_3 t38)
 (sto 49 t2 t26 <|
 andK S <|
 rR (vS (do loadVar 49 (← asAddr t2))) fun u_5 =>
 K u_5 false))
 (sto 49 t2 t26 <|
 andK S <|
 rR (vS (do loadVar 49 (← asAddr t2))) fun u_7 =>
 K u_7 false)
theorem shell_row_ok {s : ByteArray} {K : Value → Bool → WP} (w : World) (h : shell_row_sh s K w) : shell_row s K w :=
  fn_ok cx_ok (hi := (.n .l (.n .l (.n .l (.n (.j [] .l) (.n .l (.n (.o (odR 0 16)) .l))))))) (fn := Tryd.f28) Tryd.func28 (by kernel_rfl) h

/- tollhouse/shell.name -/
def shell_name_sh (names : ByteArray) (at_ : Int) (K : ByteArray → WP) : WP :=
 strings_Split names (⟨#[32]⟩ : ByteArray) fun t7 =>
 condK (decide (at_ < 1))
 (K (⟨#[]⟩ : ByteArray))
 (len 103 3 t7 fun t13 =>
 condK (decide (at_ ≥ t13))
 (K (⟨#[]⟩ : ByteArray))
 (iS 103 t7 .i64 at_ 9 fun t19 =>
 K t19))
theorem shell_name_ok {names : ByteArray} {at_ : Int} {K : ByteArray → WP} (w : World) (h : shell_name_sh names at_ K w) : shell_name names at_ K w :=
  fn_ok cx_ok (hi := .l) (fn := Tryd.f41) Tryd.func41 (by kernel_rfl) h

/- tollhouse/shell.line -/
def shell_line_sh (parts : Value) (K : ByteArray → WP) : WP :=
 strings_Join parts (⟨#[32]⟩ : ByteArray) fun t4 =>
 oS (bS .add 9 (.tmp 4) (.const (.string (⟨#[10]⟩ : ByteArray))) (.string t4) (.string (⟨#[10]⟩ : ByteArray))) fun t5 =>
 K t5
theorem shell_line_ok {parts : Value} {K : ByteArray → WP} (w : World) (h : shell_line_sh parts K w) : shell_line parts K w :=
  fn_ok cx_ok (hi := .l) (fn := Tryd.f42) Tryd.func42 (by kernel_rfl) h

/- tollhouse/shell.num -/
def shell_num_sh (n : Int) (K : ByteArray → WP) : WP :=
 strconv_Itoa n fun t4 =>
 K t4
theorem shell_num_ok {n : Int} {K : ByteArray → WP} (w : World) (h : shell_num_sh n K w) : shell_num n K w :=
  fn_ok cx_ok (hi := .l) (fn := Tryd.f43) Tryd.func43 (by kernel_rfl) h

/- tollhouse/tollhouseref31.Quote -/
def ref31_Quote_sh (b : Value) (K : ByteArray → WP) : WP :=
 oR (vS (Instr.buildSlice 22 1 #[(0, (.int .u8 34))])) fun t7 =>
 loopK [(4, .raw), (5, (.int .i64))] (fun (j1 : Value → Int → WP) => j1 t7 0) (fun (j2 : Value → Int → WP) (out : Value) (i : Int) =>
 len 22 3 b fun t10 =>
 condK (decide (i < t10))
 (iI 22 b .i64 i 5 .u8 fun t17 =>
 joinK [(23, .bool)] (fun (j3 : Bool → WP) =>
 condK (decide (t17 < 32))
 (j3 true)
 (j3 (decide (t17 > 126))))
 fun t23 =>
 condK t23
 (DrawK fun S =>
 qI .u8 (bS .quo 5 (.tmp 26) (.const (.int .u8 16)) (.int .u8 t17) (.int .u8 16)) fun t27 =>
 qI .u8 (vS (Instr.index 9 (.string (⟨#[48, 49, 50, 51, 52, 53, 54, 55, 56, 57, 97, 98, 99, 100, 101, 102]⟩ : ByteArray)) (.int .u8 t27))) fun t28 =>
 qI .u8 (bS .rem 5 (.tmp 30) (.const (.int .u8 16)) (.int .u8 t17) (.int .u8 16)) fun t31 =>
 qI .u8 (vS (Instr.index 9 (.string (⟨#[48, 49, 50, 51, 52, 53, 54, 55, 56, 57, 97, 98, 99, 100, 101, 102]⟩ : ByteArray)) (.int .u8 t31))) fun t32 =>
 oR (vS (Instr.buildSlice 22 4 #[(0, (.int .u8 92)), (1, (.int .u8 120)), (2, (.int .u8 t28)), (3, (.int .u8 t32))])) fun t33 =>
 app 22 22 22 out t33 fun t34 =>
 ArK .i64 (i + 1) fun t13 =>
 j2 t34 t13)
 (joinK [(40, .bool)] (fun (j4 : Bool → WP) =>
 condK (t17 == 34)
 (j4 true)
 (j4 (t17 == 92)))
 fun t40 =>
 condK t40
 (oR (vS (Instr.buildSlice 22 1 #[(0, (.int .u8 92))])) fun t42 =>
 app 22 22 22 out t42 fun t43 =>
 oR (vS (Instr.buildSlice 22 1 #[(0, (.int .u8 t17))])) fun t46 =>
 app 22 22 22 t43 t46 fun t47 =>
 ArK .i64 (i + 1) fun t13_1 =>
 j2 t47 t13_1)
 (oR (vS (Instr.buildSlice 22 1 #[(0, (.int .u8 t17))])) fun t46_1 =>
 app 22 22 22 out t46_1 fun t47_1 =>
 ArK .i64 (i + 1) fun t13_2 =>
 j2 t47_1 t13_2)))
 (oR (vS (Instr.buildSlice 22 1 #[(0, (.int .u8 34))])) fun t49 =>
 app 22 22 22 out t49 fun t50 =>
 oS (vS (convert 22 9 t50)) fun t51 =>
 K t51))
theorem ref31_Quote_ok {b : Value} {K : ByteArray → WP} (w : World) (h : ref31_Quote_sh b K w) : ref31_Quote b K w :=
  fn_ok cx_ok (hi := (.n .l (.n .l (.n .l (.n (.n .l (.n (.p [(4, .raw), (5, (.int .i64))] (.n .l (.n (.n (.n .l (.n (.n (.j [(23, .bool)] .l) (.n (.n (.o (odR 0 12)) .l) .l)) (.n (.n (.j [(40, .bool)] .l) .l) .l))) .l) .l))) .l)) .l))))) (fn := Tryd.f10) Tryd.func10 (by kernel_rfl) h

/- strings.Lines$1 -/
def strings_Lines_c1_sh (yield : Value) (t1 : Value) (K : Value → WP) : WP :=
 loopK [] (fun (j1 : WP) => j1) (fun (j2 : WP) =>
 lS 9 t1 fun t5 =>
 len 9 3 (.string t5) fun t6 =>
 condK (decide (t6 > 0))
 (lS 9 t1 fun t8 =>
 strings_IndexByte t8 10 fun t9 =>
 condK (decide (t9 ≥ 0))
 (DrawK fun S =>
 sS S (vS (Instr.loadAt 9 t1)) fun t12 =>
 ArK .i64 (t9 + 1) fun t14 =>
 qS (vS (Instr.sliceAt 9 (.string t12) none (some (.int .i64 t14)) none)) fun t15 =>
 sS S (vS (Instr.loadAt 9 t1)) fun t16 =>
 ArK .i64 (t9 + 1) fun t18 =>
 qS (vS (Instr.sliceAt 9 (.string t16) (some (.int .i64 t18)) none none)) fun t19 =>
 sto 9 t1 (.string t19) <|
 oB (callS yield #[(.string t15)]) fun t23 =>
 condK (!t23)
 (K (.tuple #[]))
 (j2))
 (lS 9 t1 fun t20 =>
 sto 9 t1 (.string (⟨#[]⟩ : ByteArray)) <|
 oB (callS yield #[(.string t20)]) fun t23_1 =>
 condK (!t23_1)
 (K (.tuple #[]))
 (j2)))
 (K (.tuple #[])))
theorem strings_Lines_c1_ok {yield : Value} {t1 : Value} {K : Value → WP} (w : World) (h : strings_Lines_c1_sh yield t1 K w) : strings_Lines_c1 yield t1 K w :=
  fn_ok cx_ok (hi := (.n (.p [] (.n .l (.n (.n .l (.n (.n .l (.n .l (.n (.o (odR 0 10)) .l))) .l)) .l))) .l)) (fn := Tryd.f33) Tryd.func33 (by kernel_rfl) h

/- (*tollhouse/shell.reader).place -/
def shell_reader_place_sh (r : Value) (names : ByteArray) (K : Int → WP) : WP :=
 strings_Split names (⟨#[32]⟩ : ByteArray) fun t7 =>
 shell_reader_plain r fun t9 =>
 slices_Index_string t7 t9 fun t10 =>
 nB 82 r 1 4 fun t15 =>
 condK t15
 (nW 82 r 1 4 (.bool true) <|
 K t10)
 (nW 82 r 1 4 (.bool (decide (t10 < 1))) <|
 K t10)
theorem shell_reader_place_ok {r : Value} {names : ByteArray} {K : Int → WP} (w : World) (h : shell_reader_place_sh r names K w) : shell_reader_place r names K w :=
  fn_ok cx_ok (hi := .l) (fn := Tryd.f35) Tryd.func35 (by kernel_rfl) h

/- (*tollhouse/shell.reader).numbers -/
def shell_reader_numbers_sh (r : Value) (l : Value) (K : Value → WP) : WP :=
 len 105 3 l fun t10 =>
 loopK [(11, (.int .i64))] (fun (j1 : Int → WP) => j1 0) (fun (j2 : Int → WP) (t11 : Int) =>
 condK (decide (t11 < t10))
 (iR 105 l .i64 t11 85 fun t14 =>
 oI .i64 (callS (.func (.func 46) #[r] #[]) #[]) fun t17 =>
 NilK t14 <|
 sto 3 t14 (.int .i64 t17) <|
 ArK .i64 (t11 + 1) fun t19 =>
 j2 t19)
 (K (.tuple #[])))
theorem shell_reader_numbers_ok {r : Value} {l : Value} {K : Value → WP} (w : World) (h : shell_reader_numbers_sh r l K w) : shell_reader_numbers r l K w :=
  fn_ok cx_ok (hi := (.n .l (.n .l (.n (.p [(11, (.int .i64))] .l) .l)))) (fn := Tryd.f36) Tryd.func36 (by kernel_rfl) h

/- (*tollhouse/shell.reader).word -/
def shell_reader_word_sh (r : Value) (K : Value → WP) : WP :=
 nS 82 r 0 9 fun t10 =>
 shell_Unquote t10 fun t11 t11_1 t11_2 =>
 nB 82 r 1 4 fun t19 =>
 condK t19
 (nW 82 r 1 4 (.bool true) <|
 strings_TrimPrefix t11_1 (⟨#[32]⟩ : ByteArray) fun t28 =>
 nW 82 r 0 9 (.string t28) <|
 K t11)
 (nW 82 r 1 4 (.bool (!t11_2)) <|
 strings_TrimPrefix t11_1 (⟨#[32]⟩ : ByteArray) fun t28_1 =>
 nW 82 r 0 9 (.string t28_1) <|
 K t11)
theorem shell_reader_word_ok {r : Value} {K : Value → WP} (w : World) (h : shell_reader_word_sh r K w) : shell_reader_word r K w :=
  fn_ok cx_ok (hi := .l) (fn := Tryd.f37) Tryd.func37 (by kernel_rfl) h

/- tollhouse/shell.outText -/
def shell_outText_sh (s : Value) (K : ByteArray → Bool → WP) : WP :=
 oR (vS (Instr.box 62 s)) fun s_1 =>
 fR 62 s_1 1 60 fun t8 =>
 oR (vS (Instr.alloc 60 true (.tuple #[]))) fun o =>
 sto 60 o t8 <|
 fI 60 o 0 3 .i64 fun t10 =>
 shell_name (⟨#[32, 99, 108, 105, 101, 110, 116, 32, 115, 104, 117, 116, 32, 106, 111, 105, 110, 32, 111, 114, 105, 103, 105, 110, 32, 101, 110, 100]⟩ : ByteArray) t10 fun t11 =>
 joinK [(6, .bool)] (fun (j1 : Bool → WP) =>
 DrawK fun S =>
 qB (bS .neq 9 (.tmp 12) (.const (.string (⟨#[]⟩ : ByteArray))) (.string t11) (.string (⟨#[]⟩ : ByteArray))) fun t13 =>
 condK t13
 (sR S (vS (Instr.loadAt 60 o)) fun t15 =>
 sR S (vS (Instr.loadAt 60 o)) fun t17 =>
 shell_bare t15 fun t16 =>
 andK S <|
 shell_same t16 t17 fun t18 =>
 andK S <|
 j1 t18)
 (j1 false))
 fun ok =>
 fI 60 o 0 3 .i64 fun t21 =>
 condK (t21 == 1)
 (DrawK fun S =>
 gI S 62 s_1 0 3 .i64 fun t25 =>
 gI S 60 o 1 3 .i64 fun t29 =>
 gR S 60 o 3 22 fun t32 =>
 shell_num t25 fun t26 =>
 andK S <|
 shell_num t29 fun t30 =>
 andK S <|
 shell_Quote t32 fun t33 =>
 andK S <|
 oR (vS (Instr.buildSlice 103 5 #[(0, (.string (⟨#[62]⟩ : ByteArray))), (1, (.string t26)), (2, (.string t11)), (3, (.string t30)), (4, (.string t33))])) fun t34 =>
 andK S <|
 shell_line t34 fun t35 =>
 andK S <|
 K t35 ok)
 (condK (t21 == 2)
 (DrawK fun S =>
 gI S 62 s_1 0 3 .i64 fun t40 =>
 gI S 60 o 1 3 .i64 fun t44 =>
 shell_num t40 fun t41 =>
 andK S <|
 shell_num t44 fun t45 =>
 andK S <|
 oR (vS (Instr.buildSlice 103 4 #[(0, (.string (⟨#[62]⟩ : ByteArray))), (1, (.string t41)), (2, (.string t11)), (3, (.string t45))])) fun t46 =>
 andK S <|
 shell_line t46 fun t47 =>
 andK S <|
 K t47 ok)
 (condK (t21 == 3)
 (DrawK fun S =>
 gI S 62 s_1 0 3 .i64 fun t52 =>
 gI S 60 o 2 3 .i64 fun t56 =>
 gS S 60 o 4 9 fun t59 =>
 gI S 60 o 5 3 .i64 fun t63 =>
 andK (shell_num t52 fun t53 =>
 andK S <|
 andK (shell_num t56 fun t57 =>
 andK S <|
 oR (vS (convert 9 22 (.string t59))) fun t60 =>
 andK S <|
 shell_Quote t60 fun t61 =>
 andK S <|
 shell_num t63 fun t64 =>
 andK S <|
 oR (vS (Instr.buildSlice 103 6 #[(0, (.string (⟨#[62]⟩ : ByteArray))), (1, (.string t53)), (2, (.string t11)), (3, (.string t57)), (4, (.string t61)), (5, (.string t64))])) fun t65 =>
 andK S <|
 shell_line t65 fun t66 =>
 andK S <|
 K t66 ok)
 (oR (vS (convert 9 22 (.string t59))) fun t60_1 =>
 andK S <|
 shell_num t56 fun t57_1 =>
 andK S <|
 shell_Quote t60_1 fun t61_1 =>
 andK S <|
 shell_num t63 fun t64_1 =>
 andK S <|
 oR (vS (Instr.buildSlice 103 6 #[(0, (.string (⟨#[62]⟩ : ByteArray))), (1, (.string t53)), (2, (.string t11)), (3, (.string t57_1)), (4, (.string t61_1)), (5, (.string t64_1))])) fun t65_1 =>
 andK S <|
 shell_line t65_1 fun t66_1 =>
 andK S <|
 K t66_1 ok))
 (oR (vS (convert 9 22 (.string t59))) fun t60_2 =>
 andK S <|
 shell_num t52 fun t53_1 =>
 andK S <|
 shell_num t56 fun t57_2 =>
 andK S <|
 shell_Quote t60_2 fun t61_2 =>
 andK S <|
 shell_num t63 fun t64_2 =>
 andK S <|
 oR (vS (Instr.buildSlice 103 6 #[(0, (.string (⟨#[62]⟩ : ByteArray))), (1, (.string t53_1)), (2, (.string t11)), (3, (.string t57_2)), (4, (.string t61_2)), (5, (.string t64_2))])) fun t65_2 =>
 andK S <|
 shell_line t65_2 fun t66_2 =>
 andK S <|
 K t66_2 ok))
 (condK (t21 == 4)
 (DrawK fun S =>
 gI S 62 s_1 0 3 .i64 fun t71 =>
 gI S 60 o 2 3 .i64 fun t75 =>
 gR S 60 o 3 22 fun t78 =>
 shell_num t71 fun t72 =>
 andK S <|
 shell_num t75 fun t76 =>
 andK S <|
 shell_Quote t78 fun t79 =>
 andK S <|
 oR (vS (Instr.buildSlice 103 5 #[(0, (.string (⟨#[62]⟩ : ByteArray))), (1, (.string t72)), (2, (.string t11)), (3, (.string t76)), (4, (.string t79))])) fun t80 =>
 andK S <|
 shell_line t80 fun t81 =>
 andK S <|
 K t81 ok)
 (DrawK fun S =>
 gI S 62 s_1 0 3 .i64 fun t84 =>
 gI S 60 o 2 3 .i64 fun t88 =>
 shell_num t84 fun t85 =>
 andK S <|
 shell_num t88 fun t89 =>
 andK S <|
 oR (vS (Instr.buildSlice 103 4 #[(0, (.string (⟨#[62]⟩ : ByteArray))), (1, (.string t85)), (2, (.string t11)), (3, (.string t89))])) fun t90 =>
 andK S <|
 shell_line t90 fun t91 =>
 andK S <|
 K t91 ok))))
theorem shell_outText_ok {s : Value} {K : ByteArray → Bool → WP} (w : World) (h : shell_outText_sh s K w) : shell_outText s K w :=
  fn_ok cx_ok (hi := (.n .l (.n .l (.n .l (.n (.j [(6, .bool)] (.o (odL [0, 1, 2, 3, 5, 4, 6, 7, 8]))) (.n (.n .l (.n (.n .l (.n (.n (.o (odL [0, 1, 3, 4, 5, 7, 8, 12, 2, 6, 9, 10, 11, 13, 14])) .l) (.n .l (.n (.n (.o (odL [0, 1, 3, 4, 5, 9, 2, 6, 7, 8, 10, 11])) .l) (.n .l (.n (.n (.o (.cons 0 (.cons 1 (.cons 3 (.cons 4 (.cons 5 (.cons 7 (.cons 8 (.cons 11 (.cons 12 (.cons 16 (.two 2 9 (.two 6 9 (odL [9, 10, 13, 14, 15, 17, 18]) (odL [6, 10, 13, 14, 15, 17, 18])) (odL [2, 6, 10, 13, 14, 15, 17, 18]))))))))))))) .l) (.n .l (.n (.n (.o (odL [0, 1, 3, 4, 5, 7, 8, 12, 2, 6, 9, 10, 11, 13, 14])) .l) .l)))))))) .l)) (.n (.o (odL [0, 1, 3, 4, 5, 9, 2, 6, 7, 8, 10, 11])) .l))))))) (fn := Tryd.f44) Tryd.func44 (by kernel_rfl) h

/- (*tollhouse/shell.reader).plain -/
def shell_reader_plain_sh (r : Value) (K : ByteArray → WP) : WP :=
 nS 82 r 0 9 fun t10 =>
 strings_Cut t10 (⟨#[32]⟩ : ByteArray) fun t11 t11_1 _ =>
 nW 82 r 0 9 (.string t11_1) <|
 K t11
theorem shell_reader_plain_ok {r : Value} {K : ByteArray → WP} (w : World) (h : shell_reader_plain_sh r K w) : shell_reader_plain r K w :=
  fn_ok cx_ok (hi := .l) (fn := Tryd.f45) Tryd.func45 (by kernel_rfl) h

/- (*tollhouse/shell.reader).number -/
def shell_reader_number_sh (r : Value) (K : Int → WP) : WP :=
 shell_reader_plain r fun t7 =>
 strconv_Atoi t7 fun t8 t8_1 =>
 nB 82 r 1 4 fun t15 =>
 condK t15
 (nW 82 r 1 4 (.bool true) <|
 K t8)
 (oB (bS .neq 92 (.tmp 17) (.const .nilIface) t8_1 .nilIface) fun t18 =>
 nW 82 r 1 4 (.bool t18) <|
 K t8)
theorem shell_reader_number_ok {r : Value} {K : Int → WP} (w : World) (h : shell_reader_number_sh r K w) : shell_reader_number r K w :=
  fn_ok cx_ok (hi := .l) (fn := Tryd.f46) Tryd.func46 (by kernel_rfl) h

/- tollhouse/tollhouseref31.Unquote -/
def ref31_Unquote_sh (s : ByteArray) (K : Value → ByteArray → Bool → WP) : WP :=
 joinK [(14, .bool)] (fun (j1 : Bool → WP) =>
 len 9 3 (.string s) fun t8 =>
 condK (t8 == 0)
 (j1 true)
 (oI .u8 (vS (Instr.index 9 (.string s) (.int .i64 0))) fun t12 =>
 j1 (t12 != 34)))
 fun t14 =>
 condK t14
 (K (.slice none 0 0) (⟨#[]⟩ : ByteArray) false)
 (loopK [(5, .raw), (6, (.int .i64))] (fun (j2 : Value → Int → WP) => j2 (.slice none 0 0) 1) (fun (j3 : Value → Int → WP) (b : Value) (at_ : Int) =>
 joinK [(24, .bool)] (fun (j4 : Bool → WP) =>
 len 9 3 (.string s) fun t17 =>
 condK (decide (at_ < t17))
 (oI .u8 (vS (Instr.index 9 (.string s) (.int .i64 at_))) fun t22 =>
 j4 (t22 != 34))
 (j4 false))
 fun t24 =>
 condK t24
 (oI .u8 (vS (Instr.index 9 (.string s) (.int .i64 at_))) fun t27 =>
 condK (t27 != 92)
 (oI .u8 (vS (Instr.index 9 (.string s) (.int .i64 at_))) fun t32 =>
 oR (vS (Instr.buildSlice 22 1 #[(0, (.int .u8 t32))])) fun t33 =>
 app 22 22 22 b t33 fun t34 =>
 ArK .i64 (at_ + 1) fun t36 =>
 j3 t34 t36)
 (ArK .i64 (at_ + 1) fun t38 =>
 len 9 3 (.string s) fun t40 =>
 condK (decide (t38 ≥ t40))
 (K (.slice none 0 0) (⟨#[]⟩ : ByteArray) false)
 (ArK .i64 (at_ + 1) fun t44 =>
 oI .u8 (vS (Instr.index 9 (.string s) (.int .i64 t44))) fun t45 =>
 condK (t45 != 120)
 (ArK .i64 (at_ + 1) fun t50 =>
 oI .u8 (vS (Instr.index 9 (.string s) (.int .i64 t50))) fun t51 =>
 oR (vS (Instr.buildSlice 22 1 #[(0, (.int .u8 t51))])) fun t52 =>
 app 22 22 22 b t52 fun t53 =>
 ArK .i64 (at_ + 2) fun t55 =>
 j3 t53 t55)
 (joinK [(76, .bool)] (fun (j5 : Bool → WP) =>
 ArK .i64 (at_ + 3) fun t57 =>
 len 9 3 (.string s) fun t59 =>
 condK (decide (t57 ≥ t59))
 (j5 true)
 (ArK .i64 (at_ + 2) fun t64 =>
 oI .u8 (vS (Instr.index 9 (.string s) (.int .i64 t64))) fun t65 =>
 ref31_digit t65 fun t66 =>
 condK (decide (t66 < 0))
 (j5 true)
 (ArK .i64 (at_ + 3) fun t72 =>
 oI .u8 (vS (Instr.index 9 (.string s) (.int .i64 t72))) fun t73 =>
 ref31_digit t73 fun t74 =>
 j5 (decide (t74 < 0)))))
 fun t76 =>
 condK t76
 (K (.slice none 0 0) (⟨#[]⟩ : ByteArray) false)
 (DrawK fun S =>
 ArK .i64 (at_ + 2) fun t80 =>
 qI .u8 (vS (Instr.index 9 (.string s) (.int .i64 t80))) fun t81 =>
 ArK .i64 (at_ + 3) fun t86 =>
 qI .u8 (vS (Instr.index 9 (.string s) (.int .i64 t86))) fun t87 =>
 ref31_digit t81 fun t82 =>
 andK S <|
 ArK .i64 (16 * t82) fun t83 =>
 ref31_digit t87 fun t88 =>
 andK S <|
 ArK .i64 (t83 + t88) fun t89 =>
 rI .u8 (vS (convert 3 5 (.int .i64 t89))) fun t90 =>
 oR (vS (Instr.buildSlice 22 1 #[(0, (.int .u8 t90))])) fun t91 =>
 app 22 22 22 b t91 fun t92 =>
 andK S <|
 ArK .i64 (at_ + 4) fun t94 =>
 j3 t92 t94)))))
 (DrawK fun S =>
 sI S .i64 (vS (Builtin.len_ #[9] 3 #[(.string s)])) fun t97 =>
 condK (decide (at_ ≥ t97))
 (K (.slice none 0 0) (⟨#[]⟩ : ByteArray) false)
 (ArK .i64 (at_ + 1) fun t104 =>
 qS (vS (Instr.sliceAt 9 (.string s) none (some (.int .i64 t104)) none)) fun t105 =>
 ref31_Quote b fun t101 =>
 andK S <|
 qB (bS .neq 9 (.tmp 101) (.tmp 105) (.string t101) (.string t105)) fun t106 =>
 condK t106
 (K (.slice none 0 0) (⟨#[]⟩ : ByteArray) false)
 (DrawK fun S =>
 ArK .i64 (at_ + 1) fun t111 =>
 qS (vS (Instr.sliceAt 9 (.string s) (some (.int .i64 t111)) none none)) fun t112 =>
 K b t112 true)))))
theorem ref31_Unquote_ok {s : ByteArray} {K : Value → ByteArray → Bool → WP} (w : World) (h : ref31_Unquote_sh s K w) : ref31_Unquote s K w :=
  fn_ok cx_ok (hi := (.n .l (.n (.n (.j [(14, .bool)] .l) .l) (.n .l (.n .l (.n (.n (.p [(5, .raw), (6, (.int .i64))] (.n (.n (.j [(24, .bool)] .l) .l) (.n (.n .l (.n .l (.n .l (.n (.n (.j [(76, .bool)] .l) .l) (.n (.o (.cons 0 (.cons 1 (.cons 2 (.cons 3 (.cons 4 (.cons 7 (.cons 8 (.cons 9 (.cons 10 (.cons 5 (.cons 6 (.cons 11 (.cons 12 (.rd 13 (.cons 14 (.cons 15 (.cons 16 .nil)))))))))))))))))) .l))))) .l))) .l) (.n (.n (.o (odL [0, 1, 2, 3, 4, 5, 7, 8, 9, 10, 6, 11, 12])) .l) (.n (.o (odR 0 8)) .l)))))))) (fn := Tryd.f8) Tryd.func8 (by kernel_rfl) h

/- tollhouse/shell.same -/
def shell_same_sh (a : Value) (b : Value) (K : Bool → WP) : WP :=
 oR (vS (Instr.box 60 a)) fun a_1 =>
 oR (vS (Instr.box 60 b)) fun b_1 =>
 fI 60 a_1 0 3 .i64 fun t6 =>
 fI 60 b_1 0 3 .i64 fun t8 =>
 condK (t6 == t8)
 (fI 60 a_1 1 3 .i64 fun t12 =>
 fI 60 b_1 1 3 .i64 fun t14 =>
 condK (t12 == t14)
 (fI 60 a_1 2 3 .i64 fun t19 =>
 fI 60 b_1 2 3 .i64 fun t21 =>
 condK (t19 == t21)
 (fS 60 a_1 4 9 fun t26 =>
 fS 60 b_1 4 9 fun t28 =>
 oB (bS .eql 9 (.tmp 26) (.tmp 28) (.string t26) (.string t28)) fun t29 =>
 condK t29
 (fI 60 a_1 5 3 .i64 fun t33 =>
 fI 60 b_1 5 3 .i64 fun t35 =>
 condK (t33 == t35)
 (fR 60 a_1 3 22 fun t40 =>
 oS (vS (convert 22 9 t40)) fun t41 =>
 fR 60 b_1 3 22 fun t43 =>
 oS (vS (convert 22 9 t43)) fun t44 =>
 oB (bS .eql 9 (.tmp 41) (.tmp 44) (.string t41) (.string t44)) fun t45 =>
 K t45)
 (K false))
 (K false))
 (K false))
 (K false))
 (K false)
theorem shell_same_ok {a : Value} {b : Value} {K : Bool → WP} (w : World) (h : shell_same_sh a b K w) : shell_same a b K w :=
  fn_ok cx_ok (hi := .l) (fn := Tryd.f55) Tryd.func55 (by kernel_rfl) h

/- tollhouse/shell.bare -/
def shell_bare_sh (o : Value) (K : Value → WP) : WP :=
 oR (vS (Instr.box 60 o)) fun o_1 =>
 oR (vS (Instr.alloc 60 true (.tuple #[]))) fun t2 =>
 fI 60 o_1 0 3 .i64 fun t4 =>
 condK (t4 == 1)
 (fI 60 o_1 0 3 .i64 fun t8 =>
 fI 60 o_1 1 3 .i64 fun t10 =>
 fR 60 o_1 3 22 fun t12 =>
 oR (vS (Instr.build 60 #[(0, (.int .i64 t8)), (1, (.int .i64 t10)), (3, t12)])) fun t13 =>
 sto 60 t2 t13 <|
 rR (vS (do loadVar 60 (← asAddr t2))) fun u_1 =>
 K u_1)
 (condK (t4 == 2)
 (fI 60 o_1 0 3 .i64 fun t17 =>
 fI 60 o_1 1 3 .i64 fun t19 =>
 oR (vS (Instr.build 60 #[(0, (.int .i64 t17)), (1, (.int .i64 t19))])) fun t20 =>
 sto 60 t2 t20 <|
 rR (vS (do loadVar 60 (← asAddr t2))) fun u_3 =>
 K u_3)
 (condK (t4 == 3)
 (fI 60 o_1 0 3 .i64 fun t24 =>
 fI 60 o_1 2 3 .i64 fun t26 =>
 fS 60 o_1 4 9 fun t28 =>
 fI 60 o_1 5 3 .i64 fun t30 =>
 oR (vS (Instr.build 60 #[(0, (.int .i64 t24)), (2, (.int .i64 t26)), (4, (.string t28)), (5, (.int .i64 t30))])) fun t31 =>
 sto 60 t2 t31 <|
 rR (vS (do loadVar 60 (← asAddr t2))) fun u_5 =>
 K u_5)
 (condK (t4 == 4)
 (fI 60 o_1 0 3 .i64 fun t35 =>
 fI 60 o_1 2 3 .i64 fun t37 =>
 fR 60 o_1 3 22 fun t39 =>
 oR (vS (Instr.build 60 #[(0, (.int .i64 t35)), (2, (.int .i64 t37)), (3, t39)])) fun t40 =>
 sto 60 t2 t40 <|
 rR (vS (do loadVar 60 (← asAddr t2))) fun u_7 =>
 K u_7)
 (fI 60 o_1 0 3 .i64 fun t42 =>
 fI 60 o_1 2 3 .i64 fun t44 =>
 oR (vS (Instr.build 60 #[(0, (.int .i64 t42)), (2, (.int .i64 t44))])) fun t45 =>
 sto 60 t2 t45 <|
 rR (vS (do loadVar 60 (← asAddr t2))) fun u_9 =>
 K u_9))))
theorem shell_bare_ok {o : Value} {K : Value → WP} (w : World) (h : shell_bare_sh o K w) : shell_bare o K w :=
  fn_ok cx_ok (hi := .l) (fn := Tryd.f56) Tryd.func56 (by kernel_rfl) h

/- tollhouse/tollhouseref31.digit -/
def ref31_digit_sh (c_ : Int) (K : Int → WP) : WP :=
 joinK [(8, .bool)] (fun (j1 : Bool → WP) =>
 condK (decide (c_ ≥ 48))
 (j1 (decide (c_ ≤ 57)))
 (j1 false))
 fun t8 =>
 condK t8
 (ArK .u8 (c_ - 48) fun t10 =>
 oI .i64 (vS (convert 5 3 (.int .u8 t10))) fun t11 =>
 K t11)
 (condK (decide (c_ ≥ 97))
 (condK (decide (c_ ≤ 102))
 (ArK .u8 (c_ - 97) fun t19 =>
 oI .i64 (vS (convert 5 3 (.int .u8 t19))) fun t20 =>
 ArK .i64 (t20 + 10) fun t21 =>
 K t21)
 (K (-1)))
 (K (-1)))
theorem ref31_digit_ok {c_ : Int} {K : Int → WP} (w : World) (h : ref31_digit_sh c_ K w) : ref31_digit c_ K w :=
  fn_ok cx_ok (hi := (.n .l (.n (.n (.j [(8, .bool)] .l) .l) .l))) (fn := Tryd.f21) Tryd.func21 (by kernel_rfl) h

/- (*strings.Builder).copyCheck -/
def strings_Builder_copyCheck_sh (b : Value) (K : Value → WP) : WP :=
 nR 90 b 0 88 fun t5 =>
 oB (bS .eql 88 (.tmp 5) (.const (.pointer none)) t5 (.pointer none)) fun t6 =>
 condK t6
 (oR (vS (convert 88 113 b)) fun t9 =>
 oR (callFunc 62 #[t9]) fun t10 =>
 oR (vS (convert 113 88 t10)) fun t11 =>
 nW 90 b 0 88 t11 <|
 K (.tuple #[]))
 (nR 90 b 0 88 fun t17 =>
 oB (bS .neq 88 (.tmp 17) (.tmp 18) t17 b) fun t19 =>
 condK t19
 ((fun _ => False))
 (K (.tuple #[])))
theorem strings_Builder_copyCheck_ok {b : Value} {K : Value → WP} (w : World) (h : strings_Builder_copyCheck_sh b K w) : strings_Builder_copyCheck b K w :=
  fn_ok cx_ok (hi := .l) (fn := Tryd.f52) Tryd.func52 (by kernel_rfl) h

/- (*strings.Builder).WriteString -/
def strings_Builder_WriteString_sh (b : Value) (s : ByteArray) (K : Int → Value → WP) : WP :=
 strings_Builder_copyCheck b fun _ =>
 nR 90 b 1 22 fun t12 =>
 oR (vS (Builtin.append_ #[22, 9] 22 #[t12, (.string s)])) fun t14 =>
 nW 90 b 1 22 t14 <|
 len 9 3 (.string s) fun t18 =>
 K t18 .nilIface
theorem strings_Builder_WriteString_ok {b : Value} {s : ByteArray} {K : Int → Value → WP} (w : World) (h : strings_Builder_WriteString_sh b s K w) : strings_Builder_WriteString b s K w :=
  fn_ok cx_ok (hi := .l) (fn := Tryd.f38) Tryd.func38 (by kernel_rfl) h

/- (*strings.Builder).Len -/
def strings_Builder_Len_sh (b : Value) (K : Int → WP) : WP :=
 nR 90 b 1 22 fun t6 =>
 len 22 3 t6 fun t7 =>
 K t7
theorem strings_Builder_Len_ok {b : Value} {K : Int → WP} (w : World) (h : strings_Builder_Len_sh b K w) : strings_Builder_Len b K w :=
  fn_ok cx_ok (hi := .l) (fn := Tryd.f39) Tryd.func39 (by kernel_rfl) h

/- (*strings.Builder).String -/
def strings_Builder_String_sh (b : Value) (K : ByteArray → WP) : WP :=
 DrawK fun S =>
 hR S 90 b 1 22 fun t6 =>
 hR S 90 b 1 22 fun t11 =>
 sI S .i64 (vS (Builtin.len_ #[22] 3 #[t11])) fun t12 =>
 oR (vS (Builtin.unsafeSliceData_ #[22] 106 #[t6])) fun t7 =>
 andK S <|
 oS (vS (Builtin.unsafeString_ #[106, 3] 9 #[t7, (.int .i64 t12)])) fun t13 =>
 andK S <|
 K t13
theorem strings_Builder_String_ok {b : Value} {K : ByteArray → WP} (w : World) (h : strings_Builder_String_sh b K w) : strings_Builder_String b K w :=
  fn_ok cx_ok (hi := (.n .l (.n (.o (odL [0, 1, 2, 3, 5, 6, 7, 8, 9, 4, 10, 11])) .l))) (fn := Tryd.f40) Tryd.func40 (by kernel_rfl) h

/- strings.Cut -/
def strings_Cut_sh (s : ByteArray) (sep : ByteArray) (K : ByteArray → ByteArray → Bool → WP) : WP :=
 stringslite_Cut s sep fun t9 t9_1 t9_2 =>
 K t9 t9_1 t9_2
theorem strings_Cut_ok {s : ByteArray} {sep : ByteArray} {K : ByteArray → ByteArray → Bool → WP} (w : World) (h : strings_Cut_sh s sep K w) : strings_Cut s sep K w :=
  fn_ok cx_ok (hi := .l) (fn := Tryd.f57) Tryd.func57 (by kernel_rfl) h

/- internal/stringslite.Cut -/
def stringslite_Cut_sh (s : ByteArray) (sep : ByteArray) (K : ByteArray → ByteArray → Bool → WP) : WP :=
 stringslite_Index s sep fun t10 =>
 condK (decide (t10 ≥ 0))
 (DrawK fun S =>
 qS (vS (Instr.sliceAt 9 (.string s) none (some (.int .i64 t10)) none)) fun t15 =>
 sI S .i64 (vS (Builtin.len_ #[9] 3 #[(.string sep)])) fun t19 =>
 ArK .i64 (t10 + t19) fun t20 =>
 qS (vS (Instr.sliceAt 9 (.string s) (some (.int .i64 t20)) none none)) fun t21 =>
 K t15 t21 true)
 (K s (⟨#[]⟩ : ByteArray) false)
theorem stringslite_Cut_ok {s : ByteArray} {sep : ByteArray} {K : ByteArray → ByteArray → Bool → WP} (w : World) (h : stringslite_Cut_sh s sep K w) : stringslite_Cut s sep K w :=
  fn_ok cx_ok (hi := (.n .l (.n (.n .l (.n .l (.n (.n (.o (odR 0 12)) .l) .l))) .l))) (fn := Tryd.f65) Tryd.func65 (by kernel_rfl) h

/- tollhouse/tollhouselaw31.ShellWords -/
def law31_ShellWords_sh (b : Value) (t : ByteArray) (K : Bool → WP) : WP :=
 shell_Unquote t fun t13 t13_1 t13_2 =>
 ref31_Unquote t fun t19 t19_1 t19_2 =>
 shell_Quote b fun t24 =>
 ref31_Quote b fun t26 =>
 oB (bS .eql 9 (.tmp 24) (.tmp 26) (.string t24) (.string t26)) fun t27 =>
 condK t27
 (oS (vS (convert 22 9 t13)) fun t30 =>
 oS (vS (convert 22 9 t19)) fun t32 =>
 oB (bS .eql 9 (.tmp 30) (.tmp 32) (.string t30) (.string t32)) fun t33 =>
 condK t33
 (oB (bS .eql 9 (.tmp 36) (.tmp 37) (.string t13_1) (.string t19_1)) fun t38 =>
 condK t38
 (oB (bS .eql 4 (.tmp 41) (.tmp 42) (.bool t13_2) (.bool t19_2)) fun t43 =>
 condK t43
 (law31_wakes fun t46 =>
 K t46)
 (K false))
 (K false))
 (K false))
 (K false)
theorem law31_ShellWords_ok {b : Value} {t : ByteArray} {K : Bool → WP} (w : World) (h : law31_ShellWords_sh b t K w) : law31_ShellWords b t K w :=
  fn_ok cx_ok (hi := .l) (fn := Tryd.f3) Tryd.func3 (by kernel_rfl) h

/- tollhouse/tollhouselaw31.ShellParts -/
def law31_ShellParts_sh (s : Value) (t : Value) (behind : ByteArray) (K : Bool → WP) : WP :=
 shell_Quote s fun t15 =>
 shell_Quote t fun t17 =>
 oS (bS .add 9 (.tmp 19) (.tmp 20) (.string t15) (.string behind)) fun t21 =>
 shell_Unquote t21 fun t22 t22_1 t22_2 =>
 joinK [(50, .bool)] (fun (j1 : Bool → WP) =>
 condK (!t22_2)
 (j1 true)
 (oS (vS (convert 22 9 t22)) fun t30 =>
 oS (vS (convert 22 9 s)) fun t32 =>
 oB (bS .neq 9 (.tmp 30) (.tmp 32) (.string t30) (.string t32)) fun t33 =>
 condK t33
 (j1 true)
 (oB (bS .neq 9 (.tmp 36) (.tmp 37) (.string t22_1) (.string behind)) fun t38 =>
 condK t38
 (j1 true)
 (oB (bS .eql 9 (.tmp 41) (.tmp 42) (.string t15) (.string t17)) fun t43 =>
 oS (vS (convert 22 9 s)) fun t45 =>
 oS (vS (convert 22 9 t)) fun t47 =>
 oB (bS .eql 9 (.tmp 45) (.tmp 47) (.string t45) (.string t47)) fun t48 =>
 oB (bS .neq 4 (.tmp 43) (.tmp 48) (.bool t43) (.bool t48)) fun t49 =>
 j1 t49))))
 fun t50 =>
 condK t50
 (K false)
 (joinK [(68, .bool)] (fun (j2 : Bool → WP) =>
 oB (bS .neq 9 (.tmp 51) (.tmp 52) (.string t15) (.string t17)) fun t53 =>
 condK t53
 (len 9 3 (.string t17) fun t56 =>
 len 9 3 (.string t15) fun t58 =>
 condK (decide (t56 ≥ t58))
 (len 9 3 (.string t15) fun t64 =>
 oS (vS (Instr.sliceAt 9 (.string t17) none (some (.int .i64 t64)) none)) fun t65 =>
 oB (bS .eql 9 (.tmp 65) (.tmp 66) (.string t65) (.string t15)) fun t67 =>
 j2 t67)
 (j2 false))
 (j2 false))
 fun t68 =>
 condK t68
 (K false)
 (loopK [(12, (.int .i64))] (fun (j3 : Int → WP) => j3 0) (fun (j4 : Int → WP) (i : Int) =>
 len 9 3 (.string t15) fun t71 =>
 condK (decide (i < t71))
 (oI .u8 (vS (Instr.index 9 (.string t15) (.int .i64 i))) fun t77 =>
 condK (decide (t77 < 32))
 (K false)
 (oI .u8 (vS (Instr.index 9 (.string t15) (.int .i64 i))) fun t82 =>
 condK (decide (t82 > 126))
 (K false)
 (ArK .i64 (i + 1) fun t74 =>
 j4 t74)))
 (shell_Unquote behind fun t87 t87_1 t87_2 =>
 condK (!t87_2)
 (joinK [(6, .bool)] (fun (j5 : Bool → WP) =>
 len 22 3 t87 fun t94 =>
 condK (t94 == 0)
 (oB (bS .eql 9 (.tmp 97) (.const (.string (⟨#[]⟩ : ByteArray))) (.string t87_1) (.string (⟨#[]⟩ : ByteArray))) fun t98 =>
 condK t98
 (law31_wakes fun t101 =>
 j5 t101)
 (j5 false))
 (j5 false))
 fun t6 =>
 K t6)
 (shell_Quote t87 fun t104 =>
 oS (bS .add 9 (.tmp 104) (.tmp 105) (.string t104) (.string t87_1)) fun t106 =>
 oB (bS .eql 9 (.tmp 106) (.tmp 107) (.string t106) (.string behind)) fun t108 =>
 condK t108
 (law31_wakes fun t110 =>
 K t110)
 (K false))))))
theorem law31_ShellParts_ok {s : Value} {t : Value} {behind : ByteArray} {K : Bool → WP} (w : World) (h : law31_ShellParts_sh s t behind K w) : law31_ShellParts s t behind K w :=
  fn_ok cx_ok (hi := (.n .l (.n .l (.n .l (.n (.n (.j [(50, .bool)] .l) .l) (.n (.n (.j [(68, .bool)] .l) .l) (.n (.n .l (.n (.p [(12, (.int .i64))] .l) .l)) (.n .l (.n (.n .l (.n (.n (.j [(6, .bool)] .l) .l) .l)) .l))))))))) (fn := Tryd.f4) Tryd.func4 (by kernel_rfl) h

/- tollhouse/tollhouselaw31.ShellJoins -/
def law31_ShellJoins_sh (s : ByteArray) (t : ByteArray) (K : Bool → WP) : WP :=
 shell_Parse s fun t16 _ t16_2 =>
 shell_Parse t fun t22 t22_1 t22_2 =>
 oS (bS .add 9 (.tmp 27) (.tmp 28) (.string s) (.string t)) fun t29 =>
 shell_Parse t29 fun t30 t30_1 t30_2 =>
 joinK [(43, .bool)] (fun (j1 : Bool → WP) =>
 condK (t16_2 != 0)
 (j1 true)
 (len 9 3 (.string s) fun t38 =>
 len 9 3 (.string t) fun t40 =>
 ArK .i64 (t38 + t40) fun t41 =>
 j1 (decide (t41 > 131072))))
 fun t43 =>
 condK t43
 (law31_wakes fun t44 =>
 K t44)
 (joinK [(61, .bool)] (fun (j2 : Bool → WP) =>
 condK (t22_2 == 0)
 (condK (t30_2 != 0)
 (j2 true)
 (law31_theirs t30 fun t52 =>
 law31_theirs t16 fun t54 =>
 law31_theirs t22 fun t56 =>
 app 34 34 34 t54 t56 fun t57 =>
 ref31_Same t52 t57 fun t58 =>
 j2 (!t58)))
 (j2 false))
 fun t61 =>
 condK t61
 (K false)
 (condK (t22_2 != 5)
 (law31_wakes fun t77 =>
 K t77)
 (condK (t30_2 == 5)
 (len 29 3 t16 fun t70 =>
 ArK .i64 (t70 + t22_1) fun t72 =>
 condK (t30_1 == t72)
 (law31_wakes fun t77_1 =>
 K t77_1)
 (K false))
 (K false))))
theorem law31_ShellJoins_ok {s : ByteArray} {t : ByteArray} {K : Bool → WP} (w : World) (h : law31_ShellJoins_sh s t K w) : law31_ShellJoins s t K w :=
  fn_ok cx_ok (hi := (.n .l (.n .l (.n .l (.n .l (.n (.n (.j [(43, .bool)] .l) .l) (.n (.n (.j [(61, .bool)] .l) .l) .l))))))) (fn := Tryd.f5) Tryd.func5 (by kernel_rfl) h

/- tollhouse/tollhouselaw31.ShellOuts -/
def law31_ShellOuts_sh (l : Value) (o : Value) (K : Bool → WP) : WP :=
 oR (vS (Instr.box 41 o)) fun o_1 =>
 law31_rows l fun t16 =>
 shell_Rows t16 fun t19 t19_1 =>
 lR 41 o_1 fun t23 =>
 oR (vS (Instr.buildSlice 37 1 #[(0, t23)])) fun t24 =>
 law31_rows t24 fun t25 =>
 law31_first t25 fun t26 =>
 oR (vS (Instr.build 49 #[(0, (.int .i64 8)), (2, t26)])) fun t27 =>
 oR (vS (Instr.buildSlice 42 1 #[(0, t27)])) fun t28 =>
 shell_Rows t28 fun t29 t29_1 =>
 joinK [(45, .bool)] (fun (j1 : Bool → WP) =>
 condK (t19_1 != 0)
 (j1 true)
 (condK (t29_1 != 0)
 (j1 true)
 (len 9 3 (.string t19) fun t40 =>
 len 9 3 (.string t29) fun t42 =>
 ArK .i64 (t40 + t42) fun t43 =>
 j1 (decide (t43 > 131072)))))
 fun t45 =>
 condK t45
 (law31_wakes fun t46 =>
 K t46)
 (len 9 3 (.string t29) fun t48 =>
 condK (decide (t48 < 8))
 (K false)
 (oS (vS (Instr.sliceAt 9 (.string t29) (some (.int .i64 8)) none none)) fun t51 =>
 oS (bS .add 9 (.tmp 53) (.tmp 54) (.string t19) (.string t51)) fun t55 =>
 shell_ParseRows t55 fun t56 _ t56_2 =>
 len 42 3 t16 fun t61 =>
 ArK .i64 (t61 - 1) fun t62 =>
 oB (bS .eql 9 (.tmp 63) (.const (.string (⟨#[]⟩ : ByteArray))) (.string t51) (.string (⟨#[]⟩ : ByteArray))) fun t64 =>
 condK t64
 (joinK [(4, .bool)] (fun (j2 : Bool → WP) =>
 condK (t56_2 == 0)
 (len 42 3 t56 fun t69 =>
 len 42 3 t16 fun t71 =>
 condK (t69 == t71)
 (law31_wakes fun t75 =>
 j2 t75)
 (j2 false))
 (j2 false))
 fun t4 =>
 K t4)
 (joinK [(94, .bool)] (fun (j3 : Bool → WP) =>
 condK (decide (t62 < 0))
 (j3 true)
 (oR (vS (Instr.indexAt 42 t16 (.int .i64 t62))) fun t82 =>
 fI 49 t82 0 3 .i64 fun t84 =>
 condK (t84 != 8)
 (j3 true)
 (oR (vS (Instr.indexAt 42 t16 (.int .i64 t62))) fun t90 =>
 fI 49 t90 1 30 .i64 fun t92 =>
 j3 (t92 != 0))))
 fun t94 =>
 condK t94
 (joinK [(4, .bool)] (fun (j4 : Bool → WP) =>
 condK (t56_2 == 5)
 (len 42 3 t56 fun t99 =>
 condK (t99 == 0)
 (law31_wakes fun t103 =>
 j4 t103)
 (j4 false))
 (j4 false))
 fun t4_1 =>
 K t4_1)
 (DrawK fun S =>
 condK (t56_2 == 0)
 (sI S .i64 (vS (Builtin.len_ #[42] 3 #[t56])) fun t109 =>
 sI S .i64 (vS (Builtin.len_ #[42] 3 #[t16])) fun t111 =>
 condK (t109 == t111)
 (qR (vS (Instr.indexAt 42 t56 (.int .i64 t62))) fun t117 =>
 gR S 49 t117 2 46 fun t119 =>
 sI S .i64 (vS (Builtin.len_ #[46] 3 #[t119])) fun t120 =>
 qR (vS (Instr.indexAt 42 t16 (.int .i64 t62))) fun t123 =>
 gR S 49 t123 2 46 fun t125 =>
 sI S .i64 (vS (Builtin.len_ #[46] 3 #[t125])) fun t126 =>
 ArK .i64 (t126 + 1) fun t127 =>
 condK (t120 == t127)
 (law31_wakes fun t131 =>
 andK S <|
 K t131)
 (K false))
 (K false))
 (K false)))))
theorem law31_ShellOuts_ok {l : Value} {o : Value} {K : Bool → WP} (w : World) (h : law31_ShellOuts_sh l o K w) : law31_ShellOuts l o K w :=
  fn_ok cx_ok (hi := (.n .l (.n .l (.n .l (.n .l (.n (.n (.j [(45, .bool)] .l) .l) (.n .l (.n .l (.n .l (.n .l (.n (.n .l (.n (.n (.j [(4, .bool)] .l) .l) .l)) (.n (.n (.j [(94, .bool)] .l) (.n (.n (.j [(4, .bool)] .l) .l) .l)) (.n (.o (odR 0 29)) .l))))))))))))) (fn := Tryd.f6) Tryd.func6 (by kernel_rfl) h

/- tollhouse/tollhouselaw31.first -/
def law31_first_sh (l : Value) (K : Value → WP) : WP :=
 loopK [(3, (.int .i64))] (fun (j1 : Int → WP) => j1 0) (fun (j2 : Int → WP) (i : Int) =>
 len 42 3 l fun t6 =>
 condK (decide (i < t6))
 (oR (vS (Instr.indexAt 42 l (.int .i64 i))) fun t12 =>
 fR 49 t12 2 46 fun t14 =>
 len 46 3 t14 fun t15 =>
 condK (decide (t15 > 0))
 (oR (vS (Instr.indexAt 42 l (.int .i64 i))) fun t19 =>
 fR 49 t19 2 46 fun t21 =>
 oR (vS (Instr.sliceAt 46 t21 none (some (.int .i64 1)) none)) fun t22 =>
 K t22)
 (ArK .i64 (i + 1) fun t9 =>
 j2 t9))
 (K (.slice none 0 0)))
theorem law31_first_ok {l : Value} {K : Value → WP} (w : World) (h : law31_first_sh l K w) : law31_first l K w :=
  fn_ok cx_ok (hi := (.n .l (.n (.n .l (.n (.p [(3, (.int .i64))] .l) .l)) .l))) (fn := Tryd.f17) Tryd.func17 (by kernel_rfl) h

end Go.Proofs.YtoneapgooihajaaDoor
