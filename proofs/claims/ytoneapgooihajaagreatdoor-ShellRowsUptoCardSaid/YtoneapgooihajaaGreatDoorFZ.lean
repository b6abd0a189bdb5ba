/-
  FUNCTIONS AS PLAIN TERMS, printed by shx.py.
-/
import Derived.Test.YtoneapgooihajaaGreatDoorWd
set_option linter.unusedVariables false
set_option maxRecDepth 100000
namespace Go.Proofs.YtoneapgooihajaaGreatDoor
open Go Sh
/- tollhouse/tollhouselaw31.ShellEvents -/
def law31_ShellEvents_sh (l : Value) (s : ByteArray) (K : Bool → WP) : WP :=
 law31_ours l fun t17 =>
 shell_Text t17 fun t18 t18_1 =>
 ref31_Text l fun t23 t23_1 =>
 shell_Parse s fun t28 t28_1 t28_2 =>
 ref31_Parse s fun t34 t34_1 t34_2 =>
 oB (bS .eql 9 (.tmp 38) (.tmp 39) (.string t18) (.string t23)) fun t40 =>
 condK t40
 (condK (t18_1 == t23_1)
 (law31_theirs t28 fun t48 =>
 ref31_Same t48 t34 fun t50 =>
 condK t50
 (condK (t28_1 == t34_1)
 (condK (t28_2 == t34_2)
 (law31_wakes fun t63 =>
 K t63)
 (K false))
 (K false))
 (K false))
 (K false))
 (K false)
theorem law31_ShellEvents_ok {l : Value} {s : ByteArray} {K : Bool → WP} (w : World) (h : law31_ShellEvents_sh l s K w) : law31_ShellEvents l s K w :=
  fn_ok cx_ok (hi := .l) (fn := Tryz.f3) Tryz.func3 (by kernel_rfl) h

/- tollhouse/tollhouselaw31.ShellRows -/
def law31_ShellRows_sh (l : Value) (s : ByteArray) (K : Bool → WP) : WP :=
 law31_rows l fun t17 =>
 shell_Rows t17 fun t20 t20_1 =>
 law31_told t17 fun t25 =>
 ref31_Rows t25 fun t26 t26_1 =>
 shell_ParseRows s fun t31 t31_1 t31_2 =>
 ref31_ParseRows s fun t37 t37_1 t37_2 =>
 oB (bS .eql 9 (.tmp 41) (.tmp 42) (.string t20) (.string t26)) fun t43 =>
 condK t43
 (condK (t20_1 == t26_1)
 (law31_told t31 fun t51 =>
 ref31_SameRows t51 t37 fun t53 =>
 condK t53
 (condK (t31_1 == t37_1)
 (condK (t31_2 == t37_2)
 (law31_wakes fun t66 =>
 K t66)
 (K false))
 (K false))
 (K false))
 (K false))
 (K false)
theorem law31_ShellRows_ok {l : Value} {s : ByteArray} {K : Bool → WP} (w : World) (h : law31_ShellRows_sh l s K w) : law31_ShellRows l s K w :=
  fn_ok cx_ok (hi := .l) (fn := Tryz.f4) Tryz.func4 (by kernel_rfl) h

/- tollhouse/tollhouselaw31.ShellBack -/
def law31_ShellBack_sh (l : Value) (r : Value) (s : ByteArray) (K : Bool → WP) : WP :=
 law31_ours l fun t27 =>
 shell_Text t27 fun t28 t28_1 =>
 joinK [] (fun (j1 : WP) =>
 condK (t28_1 == 0)
 (shell_Parse t28 fun t35 t35_1 t35_2 =>
 condK (t35_2 != 0)
 (K false)
 (condK (t35_1 != 0)
 (K false)
 (law31_theirs t35 fun t47 =>
 ref31_Same t47 l fun t49 =>
 condK (!t49)
 (K false)
 (len 9 3 (.string t28) fun t54 =>
 condK (decide (t54 > 131072))
 (K false)
 (j1)))))
 (oB (bS .neq 9 (.tmp 57) (.const (.string (⟨#[]⟩ : ByteArray))) (.string t28) (.string (⟨#[]⟩ : ByteArray))) fun t58 =>
 condK t58
 (K false)
 (condK (t28_1 != 1)
 (condK (t28_1 != 3)
 (K false)
 (j1))
 (j1))))
 <|
 law31_rows r fun t68 =>
 shell_Rows t68 fun t71 t71_1 =>
 joinK [] (fun (j2 : WP) =>
 condK (t71_1 == 0)
 (shell_ParseRows t71 fun t78 t78_1 t78_2 =>
 condK (t78_2 != 0)
 (K false)
 (condK (t78_1 != 0)
 (K false)
 (law31_told t78 fun t90 =>
 law31_told t68 fun t92 =>
 ref31_SameRows t90 t92 fun t93 =>
 condK (!t93)
 (K false)
 (len 9 3 (.string t71) fun t98 =>
 condK (decide (t98 > 131072))
 (K false)
 (j2)))))
 (oB (bS .neq 9 (.tmp 101) (.const (.string (⟨#[]⟩ : ByteArray))) (.string t71) (.string (⟨#[]⟩ : ByteArray))) fun t102 =>
 condK t102
 (K false)
 (condK (t71_1 != 1)
 (condK (t71_1 != 3)
 (K false)
 (j2))
 (j2))))
 <|
 shell_Parse s fun t113 t113_1 t113_2 =>
 joinK [] (fun (j3 : WP) =>
 condK (t113_2 == 0)
 (shell_Text t113 fun t121 t121_1 =>
 condK (t113_1 != 0)
 (K false)
 (condK (t121_1 != 0)
 (K false)
 (oB (bS .neq 9 (.tmp 131) (.tmp 132) (.string t121) (.string s)) fun t133 =>
 condK t133
 (K false)
 (j3))))
 (len 26 3 t113 fun t136 =>
 condK (decide (t136 > 0))
 (K false)
 (j3)))
 <|
 shell_ParseRows s fun t140 t140_1 t140_2 =>
 condK (t140_2 == 0)
 (shell_Rows t140 fun t148 t148_1 =>
 joinK [(6, .bool)] (fun (j4 : Bool → WP) =>
 condK (t140_1 == 0)
 (condK (t148_1 == 0)
 (oB (bS .eql 9 (.tmp 158) (.tmp 159) (.string t148) (.string s)) fun t160 =>
 condK t160
 (law31_wakes fun t163 =>
 j4 t163)
 (j4 false))
 (j4 false))
 (j4 false))
 fun t6 =>
 K t6)
 (len 39 3 t140 fun t166 =>
 condK (t166 == 0)
 (law31_wakes fun t169 =>
 K t169)
 (K false))
theorem law31_ShellBack_ok {l : Value} {r : Value} {s : ByteArray} {K : Bool → WP} (w : World) (h : law31_ShellBack_sh l r s K w) : law31_ShellBack l r s K w :=
  fn_ok cx_ok (hi := (.n .l (.n .l (.n (.j [] .l) (.n .l (.n .l (.n (.j [] .l) (.n .l (.n (.j [] .l) (.n .l (.n (.n .l (.n (.n .l (.n (.j [(6, .bool)] .l) .l)) .l)) .l))))))))))) (fn := Tryz.f5) Tryz.func5 (by kernel_rfl) h

/- tollhouse/shell.Text -/
def shell_Text_sh (l : Value) (K : ByteArray → Int → WP) : WP :=
 shell_written_Event l (.func (.func 22) #[] #[]) fun t5 t5_1 =>
 K t5 t5_1
theorem shell_Text_ok {l : Value} {K : ByteArray → Int → WP} (w : World) (h : shell_Text_sh l K w) : shell_Text l K w :=
  fn_ok cx_ok (hi := .l) (fn := Tryz.f6) Tryz.func6 (by kernel_rfl) h

/- tollhouse/tollhouselaw31.ours -/
def law31_ours_sh (l : Value) (K : Value → WP) : WP :=
 loopK [(3, .raw), (4, (.int .i64))] (fun (j1 : Value → Int → WP) => j1 (.slice none 0 0) 0) (fun (j2 : Value → Int → WP) (out : Value) (i : Int) =>
 len 22 3 l fun t7 =>
 condK (decide (i < t7))
 (iR 22 l .i64 i 57 fun t15 =>
 law28_Event t15 fun t16 =>
 oR (vS (Instr.buildSlice 26 1 #[(0, t16)])) fun t17 =>
 app 26 26 26 out t17 fun t18 =>
 ArK .i64 (i + 1) fun t10 =>
 j2 t18 t10)
 (K out))
theorem law31_ours_ok {l : Value} {K : Value → WP} (w : World) (h : law31_ours_sh l K w) : law31_ours l K w :=
  fn_ok cx_ok (hi := (.n .l (.n .l (.n (.n .l (.n (.p [(3, .raw), (4, (.int .i64))] .l) .l)) .l)))) (fn := Tryz.f7) Tryz.func7 (by kernel_rfl) h

/- tollhouse/tollhouseref31.Text -/
def ref31_Text_sh (l : Value) (K : ByteArray → Int → WP) : WP :=
 loopK [(4, .raw), (5, (.int .i64))] (fun (j1 : Value → Int → WP) => j1 (.slice none 0 0) 0) (fun (j2 : Value → Int → WP) (b : Value) (i : Int) =>
 len 22 3 l fun t10 =>
 condK (decide (i < t10))
 (iR 22 l .i64 i 57 fun t18 =>
 ref31_Line t18 fun t19 t19_1 =>
 condK (!t19_1)
 (K (⟨#[]⟩ : ByteArray) 1)
 (oR (vS (Builtin.append_ #[52, 9] 52 #[b, (.string t19)])) fun t26 =>
 oR (vS (Instr.buildSlice 52 1 #[(0, (.int .u8 10))])) fun t28 =>
 app 52 52 52 t26 t28 fun t29 =>
 ArK .i64 (i + 1) fun t13 =>
 j2 t29 t13))
 (len 52 3 b fun t31 =>
 condK (decide (t31 > 131072))
 (K (⟨#[]⟩ : ByteArray) 3)
 (oS (vS (convert 52 9 b)) fun t34 =>
 K t34 0)))
theorem ref31_Text_ok {l : Value} {K : ByteArray → Int → WP} (w : World) (h : ref31_Text_sh l K w) : ref31_Text l K w :=
  fn_ok cx_ok (hi := (.n .l (.n .l (.n (.n .l (.n (.p [(4, .raw), (5, (.int .i64))] .l) .l)) .l)))) (fn := Tryz.f8) Tryz.func8 (by kernel_rfl) h

/- tollhouse/shell.Parse -/
def shell_Parse_sh (s : ByteArray) (K : Value → Int → Int → WP) : WP :=
 oR (vS (Instr.alloc 26 true (.tuple #[]))) fun t2 =>
 oR (vS (Instr.alloc 3 true (.tuple #[]))) fun t3 =>
 oR (vS (Instr.alloc 23 true (.tuple #[]))) fun t4 =>
 len 9 3 (.string s) fun t10 =>
 condK (decide (t10 > 131072))
 (sto 26 t2 (.slice none 0 0) <|
 sto 3 t3 (.int .i64 0) <|
 sto 23 t4 (.int .i64 3) <|
 rR (vS (do loadVar 26 (← asAddr t2))) fun u_3 =>
 rI .i64 (vS (do loadVar 3 (← asAddr t3))) fun u_4 =>
 rI .i64 (vS (do loadVar 23 (← asAddr t4))) fun u_5 =>
 K u_3 u_4 u_5)
 (oR (vS (Instr.alloc 26 true (.tuple #[]))) fun l =>
 strings_Lines s fun t13 =>
 RfK P t13 [.str] (fun (l1 : Nat) (t14 : ByteArray) (d1 : Dn) =>
 BgK P l1 <|
 shell_event t14 fun t17 t17_1 =>
 oR (vS (Instr.alloc 54 true (.tuple #[]))) fun e =>
 sto 54 e t17 <|
 condK (!t17_1)
 (DrawK fun S =>
 sR S (vS (Instr.loadAt 26 l)) fun t22 =>
 sI S .i64 (vS (Builtin.len_ #[26] 3 #[t22])) fun t23 =>
 ArK .i64 (t23 + 1) fun t24 =>
 sto 26 t2 (.slice none 0 0) <|
 andK S <|
 sto 3 t3 (.int .i64 t24) <|
 sto 23 t4 (.int .i64 5) <|
 d1 (some .ret))
 (lR 26 l fun t25 =>
 lR 54 e fun t26 =>
 oR (vS (Instr.buildSlice 26 1 #[(0, t26)])) fun t27 =>
 app 26 26 26 t25 t27 fun t28 =>
 sto 26 l t28 <|
 d1 none)) fun (r1 : Nat) => JmK
 (lR 26 l fun t29 =>
 sto 26 t2 t29 <|
 sto 3 t3 (.int .i64 0) <|
 sto 23 t4 (.int .i64 0) <|
 TkK P r1 <|
 rR (vS (do loadVar 26 (← asAddr t2))) fun u_14 =>
 rI .i64 (vS (do loadVar 3 (← asAddr t3))) fun u_15 =>
 rI .i64 (vS (do loadVar 23 (← asAddr t4))) fun u_16 =>
 K u_14 u_15 u_16)
 (TkK P r1 <|
 rR (vS (do loadVar 26 (← asAddr t2))) fun u_17 =>
 rI .i64 (vS (do loadVar 3 (← asAddr t3))) fun u_18 =>
 rI .i64 (vS (do loadVar 23 (← asAddr t4))) fun u_19 =>
 K u_17 u_18 u_19)
 [])
theorem shell_Parse_ok {s : ByteArray} {K : Value → Int → Int → WP} (w : World) (h : shell_Parse_sh s K w) : shell_Parse s K w :=
  fn_ok cx_ok (hi := (.n .l (.n .l (.n .l (.n (.n .l (.n (.f [.str] true [] .l (.n (.n .l (.n (.n .l (.n (.n (.o (odR 0 6)) .l) .l)) .l)) .l)) .l)) .l))))) (fn := Tryz.f9) Tryz.func9 (by kernel_rfl) h

/- tollhouse/tollhouseref31.Parse -/
def ref31_Parse_sh (s : ByteArray) (K : Value → Int → Int → WP) : WP :=
 len 9 3 (.string s) fun t12 =>
 condK (decide (t12 > 131072))
 (K (.slice none 0 0) 0 3)
 (ref31_lines s fun t16 t16_1 =>
 loopK [(7, .raw), (8, (.int .i64))] (fun (j1 : Value → Int → WP) => j1 (.slice none 0 0) 0) (fun (j2 : Value → Int → WP) (l : Value) (i : Int) =>
 len 65 3 t16 fun t21 =>
 condK (decide (i < t21))
 (iS 65 t16 .i64 i 9 fun t29 =>
 ref31_Event t29 fun t30 t30_1 =>
 oR (vS (Instr.alloc 57 true (.tuple #[]))) fun e =>
 sto 57 e t30 <|
 joinK [(45, .bool)] (fun (j3 : Bool → WP) =>
 condK (!t30_1)
 (j3 true)
 (condK (!t16_1)
 (len 65 3 t16 fun t41 =>
 ArK .i64 (t41 - 1) fun t42 =>
 j3 (i == t42))
 (j3 false)))
 fun t45 =>
 condK t45
 (ArK .i64 (i + 1) fun t47 =>
 K (.slice none 0 0) t47 5)
 (lR 57 e fun t49 =>
 oR (vS (Instr.buildSlice 22 1 #[(0, t49)])) fun t50 =>
 app 22 22 22 l t50 fun t51 =>
 ArK .i64 (i + 1) fun t24 =>
 j2 t51 t24))
 (K l 0 0)))
theorem ref31_Parse_ok {s : ByteArray} {K : Value → Int → Int → WP} (w : World) (h : ref31_Parse_sh s K w) : ref31_Parse s K w :=
  fn_ok cx_ok (hi := (.n .l (.n .l (.n .l (.n .l (.n (.n .l (.n (.p [(7, .raw), (8, (.int .i64))] (.n .l (.n (.n (.n .l (.n (.n (.j [(45, .bool)] .l) .l) .l)) .l) .l))) .l)) .l)))))) (fn := Tryz.f10) Tryz.func10 (by kernel_rfl) h

/- tollhouse/tollhouseref31.Same -/
def ref31_Same_sh (a : Value) (b : Value) (K : Bool → WP) : WP :=
 len 22 3 a fun t7 =>
 len 22 3 b fun t9 =>
 condK (t7 != t9)
 (K false)
 (loopK [(5, (.int .i64))] (fun (j1 : Int → WP) => j1 0) (fun (j2 : Int → WP) (i : Int) =>
 len 22 3 a fun t13 =>
 condK (decide (i < t13))
 (joinK [(68, .bool)] (fun (j3 : Bool → WP) =>
 DrawK fun S =>
 qR (vS (Instr.indexAt 22 a (.int .i64 i))) fun t19 =>
 gI S 57 t19 0 3 .i64 fun t21 =>
 qR (vS (Instr.indexAt 22 b (.int .i64 i))) fun t24 =>
 gI S 57 t24 0 3 .i64 fun t26 =>
 condK (t21 != t26)
 (j3 true)
 (qR (vS (Instr.indexAt 22 a (.int .i64 i))) fun t31 =>
 gI S 57 t31 1 3 .i64 fun t33 =>
 qR (vS (Instr.indexAt 22 b (.int .i64 i))) fun t36 =>
 gI S 57 t36 1 3 .i64 fun t38 =>
 condK (t33 != t38)
 (j3 true)
 (qR (vS (Instr.indexAt 22 a (.int .i64 i))) fun t44 =>
 gI S 57 t44 2 3 .i64 fun t46 =>
 qR (vS (Instr.indexAt 22 b (.int .i64 i))) fun t49 =>
 gI S 57 t49 2 3 .i64 fun t51 =>
 condK (t46 != t51)
 (j3 true)
 (qR (vS (Instr.indexAt 22 a (.int .i64 i))) fun t57 =>
 gR S 57 t57 3 52 fun t59 =>
 sS S (vS (convert 52 9 t59)) fun t60 =>
 qR (vS (Instr.indexAt 22 b (.int .i64 i))) fun t63 =>
 gR S 57 t63 3 52 fun t65 =>
 sS S (vS (convert 52 9 t65)) fun t66 =>
 qB (bS .neq 9 (.tmp 60) (.tmp 66) (.string t60) (.string t66)) fun t67 =>
 j3 t67))))
 fun t68 =>
 condK t68
 (K false)
 (ArK .i64 (i + 1) fun t16 =>
 j2 t16))
 (K true)))
theorem ref31_Same_ok {a : Value} {b : Value} {K : Bool → WP} (w : World) (h : ref31_Same_sh a b K w) : ref31_Same a b K w :=
  fn_ok cx_ok (hi := (.n .l (.n .l (.n (.n .l (.n (.p [(5, (.int .i64))] (.n .l (.n (.n (.n (.j [(68, .bool)] (.o (odR 0 52))) .l) .l) .l))) .l)) .l)))) (fn := Tryz.f11) Tryz.func11 (by kernel_rfl) h

/- tollhouse/tollhouselaw31.theirs -/
def law31_theirs_sh (l : Value) (K : Value → WP) : WP :=
 loopK [(3, .raw), (4, (.int .i64))] (fun (j1 : Value → Int → WP) => j1 (.slice none 0 0) 0) (fun (j2 : Value → Int → WP) (out : Value) (i : Int) =>
 len 26 3 l fun t7 =>
 condK (decide (i < t7))
 (iR 26 l .i64 i 54 fun t15 =>
 oR (vS (Instr.buildSlice 22 1 #[(0, t15)])) fun t16 =>
 app 22 22 22 out t16 fun t17 =>
 ArK .i64 (i + 1) fun t10 =>
 j2 t17 t10)
 (K out))
theorem law31_theirs_ok {l : Value} {K : Value → WP} (w : World) (h : law31_theirs_sh l K w) : law31_theirs l K w :=
  fn_ok cx_ok (hi := (.n .l (.n .l (.n (.n .l (.n (.p [(3, .raw), (4, (.int .i64))] .l) .l)) .l)))) (fn := Tryz.f12) Tryz.func12 (by kernel_rfl) h

/- tollhouse/tollhouselaw31.wakes -/
def law31_wakes_sh (K : Bool → WP) : WP :=
 shell_Unquote (⟨#[34, 97, 34, 120]⟩ : ByteArray) fun t18 t18_1 t18_2 =>
 shell_Unquote (⟨#[34, 92, 120, 54, 49, 34]⟩ : ByteArray) fun _ _ t23_2 =>
 oR (vS (Instr.buildSlice 52 2 #[(0, (.int .u8 104)), (1, (.int .u8 105))])) fun t28 =>
 oR (vS (convert 52 52 t28)) fun t29 =>
 oR (vS (Instr.build 54 #[(0, (.int .i64 2)), (1, (.int .i64 1)), (2, (.int .i64 2)), (3, t29)])) fun t30 =>
 oR (vS (Instr.build 54 #[(0, (.int .i64 8)), (2, (.int .i64 3))])) fun t31 =>
 oR (vS (Instr.buildSlice 26 2 #[(0, t30), (1, t31)])) fun t32 =>
 shell_Text t32 fun t33 t33_1 =>
 oR (vS (Instr.build 73 #[(0, (.int .i64 3)), (2, (.int .i64 1)), (4, (.string (⟨#[97]⟩ : ByteArray))), (5, (.int .i64 80))])) fun t37 =>
 oR (vS (Instr.build 75 #[(1, t37)])) fun t38 =>
 oR (vS (Instr.build 73 #[(0, (.int .i64 2)), (1, (.int .i64 3))])) fun t39 =>
 oR (vS (Instr.build 75 #[(0, (.int .i64 2)), (1, t39)])) fun t40 =>
 oR (vS (Instr.buildSlice 76 2 #[(0, t38), (1, t40)])) fun t41 =>
 oR (vS (Instr.build 78 #[(0, (.int .i64 8)), (2, t41)])) fun t42 =>
 oR (vS (Instr.build 78 #[(0, (.int .i64 1)), (1, (.int .i64 9))])) fun t43 =>
 oR (vS (Instr.buildSlice 39 2 #[(0, t42), (1, t43)])) fun t44 =>
 shell_Rows t44 fun t45 t45_1 =>
 shell_Parse (⟨#[116, 105, 99, 107, 32, 45, 49, 10, 111, 112, 101, 110, 32, 48, 32, 53, 10]⟩ : ByteArray) fun t49 t49_1 t49_2 =>
 shell_Parse (⟨#[116, 105, 99, 107, 32, 48, 49, 10]⟩ : ByteArray) fun _ t54_1 t54_2 =>
 oR (vS (Instr.buildSlice 52 5 #[(0, (.int .u8 97)), (1, (.int .u8 32)), (2, (.int .u8 34)), (3, (.int .u8 13)), (4, (.int .u8 255))])) fun t58 =>
 oR (vS (convert 52 52 t58)) fun t59 =>
 shell_Quote t59 fun t60 =>
 oB (bS .eql 9 (.tmp 60) (.const (.string (⟨#[34, 97, 32, 92, 34, 92, 120, 48, 100, 92, 120, 102, 102, 34]⟩ : ByteArray))) (.string t60) (.string (⟨#[34, 97, 32, 92, 34, 92, 120, 48, 100, 92, 120, 102, 102, 34]⟩ : ByteArray))) fun t61 =>
 condK t61
 (oS (vS (convert 52 9 t18)) fun t64 =>
 oB (bS .eql 9 (.tmp 64) (.const (.string (⟨#[97]⟩ : ByteArray))) (.string t64) (.string (⟨#[97]⟩ : ByteArray))) fun t65 =>
 condK t65
 (oB (bS .eql 9 (.tmp 68) (.const (.string (⟨#[120]⟩ : ByteArray))) (.string t18_1) (.string (⟨#[120]⟩ : ByteArray))) fun t69 =>
 condK t69
 (condK t18_2
 (condK (!t23_2)
 (condK (t33_1 == 0)
 (oB (bS .eql 9 (.tmp 83) (.const (.string (⟨#[100, 97, 116, 97, 32, 49, 32, 50, 32, 34, 104, 105, 34, 10, 116, 105, 99, 107, 32, 51, 10]⟩ : ByteArray))) (.string t33) (.string (⟨#[100, 97, 116, 97, 32, 49, 32, 50, 32, 34, 104, 105, 34, 10, 116, 105, 99, 107, 32, 51, 10]⟩ : ByteArray))) fun t84 =>
 condK t84
 (condK (t45_1 == 0)
 (oB (bS .eql 9 (.tmp 91) (.const (.string (⟨#[116, 105, 99, 107, 32, 111, 107, 10, 62, 32, 48, 32, 106, 111, 105, 110, 32, 49, 32, 34, 97, 34, 32, 56, 48, 10, 62, 32, 50, 32, 115, 104, 117, 116, 32, 51, 10, 111, 112, 101, 110, 32, 101, 114, 114, 111, 114, 32, 57, 10]⟩ : ByteArray))) (.string t45) (.string (⟨#[116, 105, 99, 107, 32, 111, 107, 10, 62, 32, 48, 32, 106, 111, 105, 110, 32, 49, 32, 34, 97, 34, 32, 56, 48, 10, 62, 32, 50, 32, 115, 104, 117, 116, 32, 51, 10, 111, 112, 101, 110, 32, 101, 114, 114, 111, 114, 32, 57, 10]⟩ : ByteArray))) fun t92 =>
 condK t92
 (condK (t49_2 == 0)
 (condK (t49_1 == 0)
 (len 26 3 t49 fun t104 =>
 condK (t104 == 2)
 (oR (vS (Instr.indexAt 26 t49 (.int .i64 0))) fun t109 =>
 fI 54 t109 2 3 .i64 fun t111 =>
 condK (t111 == (-1))
 (oR (vS (Instr.indexAt 26 t49 (.int .i64 1))) fun t116 =>
 fI 54 t116 2 3 .i64 fun t118 =>
 condK (t118 == 5)
 (condK (t54_1 == 1)
 (K (t54_2 == 5))
 (K false))
 (K false))
 (K false))
 (K false))
 (K false))
 (K false))
 (K false))
 (K false))
 (K false))
 (K false))
 (K false))
 (K false))
 (K false))
 (K false))
 (K false)
theorem law31_wakes_ok {K : Bool → WP} (w : World) (h : law31_wakes_sh K w) : law31_wakes K w :=
  fn_ok cx_ok (hi := .l) (fn := Tryz.f13) Tryz.func13 (by kernel_rfl) h

/- tollhouse/tollhouselaw31.rows -/
def law31_rows_sh (l : Value) (K : Value → WP) : WP :=
 loopK [(3, .raw), (4, (.int .i64))] (fun (j1 : Value → Int → WP) => j1 (.slice none 0 0) 0) (fun (j2 : Value → Int → WP) (out : Value) (i : Int) =>
 len 38 3 l fun t9 =>
 condK (decide (i < t9))
 (DrawK fun S =>
 qR (vS (Instr.indexAt 38 l (.int .i64 i))) fun t15 =>
 gI S 83 t15 0 3 .i64 fun t17 =>
 qR (vS (Instr.indexAt 38 l (.int .i64 i))) fun t20 =>
 gI S 83 t20 1 3 .i64 fun t22 =>
 qR (vS (Instr.build 78 #[(0, (.int .i64 t17)), (1, (.int .i64 t22))])) fun t23 =>
 oR (vS (Instr.alloc 78 true (.tuple #[]))) fun x =>
 andK S <|
 sto 78 x t23 <|
 loopK [(6, (.int .i64))] (fun (j3 : Int → WP) => j3 0) (fun (j4 : Int → WP) (k : Int) =>
 joinK [(41, .bool)] (fun (j5 : Bool → WP) =>
 oR (vS (Instr.indexAt 38 l (.int .i64 i))) fun t27 =>
 fR 83 t27 2 80 fun t29 =>
 len 80 3 t29 fun t30 =>
 condK (decide (k < t30))
 (oR (vS (Instr.indexAt 38 l (.int .i64 i))) fun t36 =>
 fR 83 t36 3 81 fun t38 =>
 len 81 3 t38 fun t39 =>
 j5 (decide (k < t39)))
 (j5 false))
 fun t41 =>
 condK t41
 (DrawK fun S =>
 gR S 78 x 2 76 fun t45 =>
 qR (vS (Instr.indexAt 38 l (.int .i64 i))) fun t48 =>
 gR S 83 t48 2 80 fun t50 =>
 jI S 80 t50 .i64 k 3 .i64 fun t53 =>
 qR (vS (Instr.indexAt 38 l (.int .i64 i))) fun t56 =>
 gR S 83 t56 3 81 fun t58 =>
 jR S 81 t58 .i64 k 84 fun t61 =>
 qR (vS (Instr.build 75 #[(0, (.int .i64 t53)), (1, t61)])) fun t62 =>
 oR (vS (Instr.buildSlice 76 1 #[(0, t62)])) fun t63 =>
 andK S <|
 app 76 76 76 t45 t63 fun t64 =>
 andK S <|
 qR (vS (Instr.fieldAt 78 x 2)) fun t65 =>
 sto 76 t65 t64 <|
 ArK .i64 (k + 1) fun t43 =>
 j4 t43)
 (lR 78 x fun t67 =>
 oR (vS (Instr.buildSlice 39 1 #[(0, t67)])) fun t68 =>
 app 39 39 39 out t68 fun t69 =>
 ArK .i64 (i + 1) fun t12 =>
 j2 t69 t12)))
 (K out))
theorem law31_rows_ok {l : Value} {K : Value → WP} (w : World) (h : law31_rows_sh l K w) : law31_rows l K w :=
  fn_ok cx_ok (hi := (.n .l (.n .l (.n (.n .l (.n (.p [(3, .raw), (4, (.int .i64))] (.n .l (.n (.n (.n (.o (odR 0 13)) (.n (.n .l (.n (.p [(6, (.int .i64))] (.n (.n (.j [(41, .bool)] .l) .l) (.n (.n (.o (odR 0 23)) .l) .l))) .l)) .l)) .l) .l))) .l)) .l)))) (fn := Tryz.f14) Tryz.func14 (by kernel_rfl) h

/- tollhouse/shell.Rows -/
def shell_Rows_sh (l : Value) (K : ByteArray → Int → WP) : WP :=
 shell_written_Row l (.func (.func 32) #[] #[]) fun t5 t5_1 =>
 K t5 t5_1
theorem shell_Rows_ok {l : Value} {K : ByteArray → Int → WP} (w : World) (h : shell_Rows_sh l K w) : shell_Rows l K w :=
  fn_ok cx_ok (hi := .l) (fn := Tryz.f15) Tryz.func15 (by kernel_rfl) h

/- tollhouse/tollhouseref31.Rows -/
def ref31_Rows_sh (l : Value) (K : ByteArray → Int → WP) : WP :=
 loopK [(4, .raw), (5, (.int .i64))] (fun (j1 : Value → Int → WP) => j1 (.slice none 0 0) 0) (fun (j2 : Value → Int → WP) (b : Value) (i : Int) =>
 len 38 3 l fun t10 =>
 condK (decide (i < t10))
 (iR 38 l .i64 i 83 fun t18 =>
 ref31_RowLines t18 fun t19 t19_1 =>
 condK (!t19_1)
 (K (⟨#[]⟩ : ByteArray) 1)
 (oR (vS (Builtin.append_ #[52, 9] 52 #[b, (.string t19)])) fun t26 =>
 ArK .i64 (i + 1) fun t13 =>
 j2 t26 t13))
 (len 52 3 b fun t28 =>
 condK (decide (t28 > 131072))
 (K (⟨#[]⟩ : ByteArray) 3)
 (oS (vS (convert 52 9 b)) fun t31 =>
 K t31 0)))
theorem ref31_Rows_ok {l : Value} {K : ByteArray → Int → WP} (w : World) (h : ref31_Rows_sh l K w) : ref31_Rows l K w :=
  fn_ok cx_ok (hi := (.n .l (.n .l (.n (.n .l (.n (.p [(4, .raw), (5, (.int .i64))] .l) .l)) .l)))) (fn := Tryz.f16) Tryz.func16 (by kernel_rfl) h

/- tollhouse/tollhouselaw31.told -/
def law31_told_sh (l : Value) (K : Value → WP) : WP :=
 loopK [(3, .raw), (4, (.int .i64))] (fun (j1 : Value → Int → WP) => j1 (.slice none 0 0) 0) (fun (j2 : Value → Int → WP) (out : Value) (i : Int) =>
 len 39 3 l fun t7 =>
 condK (decide (i < t7))
 (iR 39 l .i64 i 78 fun t15 =>
 law28_Ours t15 fun t16 =>
 oR (vS (Instr.buildSlice 38 1 #[(0, t16)])) fun t17 =>
 app 38 38 38 out t17 fun t18 =>
 ArK .i64 (i + 1) fun t10 =>
 j2 t18 t10)
 (K out))
theorem law31_told_ok {l : Value} {K : Value → WP} (w : World) (h : law31_told_sh l K w) : law31_told l K w :=
  fn_ok cx_ok (hi := (.n .l (.n .l (.n (.n .l (.n (.p [(3, .raw), (4, (.int .i64))] .l) .l)) .l)))) (fn := Tryz.f17) Tryz.func17 (by kernel_rfl) h

/- tollhouse/shell.ParseRows -/
def shell_ParseRows_sh (s : ByteArray) (K : Value → Int → Int → WP) : WP :=
 oR (vS (Instr.alloc 39 true (.tuple #[]))) fun t2 =>
 oR (vS (Instr.alloc 3 true (.tuple #[]))) fun t3 =>
 oR (vS (Instr.alloc 23 true (.tuple #[]))) fun t4 =>
 len 9 3 (.string s) fun t14 =>
 condK (decide (t14 > 131072))
 (sto 39 t2 (.slice none 0 0) <|
 sto 3 t3 (.int .i64 0) <|
 sto 23 t4 (.int .i64 3) <|
 rR (vS (do loadVar 39 (← asAddr t2))) fun u_3 =>
 rI .i64 (vS (do loadVar 3 (← asAddr t3))) fun u_4 =>
 rI .i64 (vS (do loadVar 23 (← asAddr t4))) fun u_5 =>
 K u_3 u_4 u_5)
 (oR (vS (Instr.alloc 39 true (.tuple #[]))) fun l =>
 oR (vS (Instr.alloc 3 true (.tuple #[]))) fun n =>
 sto 3 n (.int .i64 0) <|
 strings_Lines s fun t17 =>
 RfK P t17 [.str] (fun (l1 : Nat) (t18 : ByteArray) (d1 : Dn) =>
 BgK P l1 <|
 lI 3 .i64 n fun t19 =>
 ArK .i64 (t19 + 1) fun t20 =>
 sto 3 n (.int .i64 t20) <|
 strings_HasPrefix t18 (⟨#[62]⟩ : ByteArray) fun t22 =>
 condK t22
 (shell_sent t18 fun t25 t25_1 =>
 oR (vS (Instr.alloc 75 true (.tuple #[]))) fun x =>
 sto 75 x t25 <|
 lR 39 l fun t28 =>
 len 39 3 t28 fun t29 =>
 ArK .i64 (t29 - 1) fun t30 =>
 joinK [(52, .bool)] (fun (j2 : Bool → WP) =>
 condK (!t25_1)
 (j2 true)
 (condK (decide (t30 < 0))
 (j2 true)
 (lR 39 l fun t38 =>
 oR (vS (Instr.indexAt 39 t38 (.int .i64 t30))) fun t40 =>
 fI 78 t40 0 3 .i64 fun t42 =>
 condK (t42 != 8)
 (j2 true)
 (lR 39 l fun t46 =>
 oR (vS (Instr.indexAt 39 t46 (.int .i64 t30))) fun t48 =>
 fI 78 t48 1 23 .i64 fun t50 =>
 j2 (t50 != 0)))))
 fun t52 =>
 condK t52
 (DrawK fun S =>
 sI S .i64 (vS (Instr.loadAt 3 n)) fun t53 =>
 sto 39 t2 (.slice none 0 0) <|
 andK S <|
 sto 3 t3 (.int .i64 t53) <|
 sto 23 t4 (.int .i64 5) <|
 d1 (some .ret))
 (DrawK fun S =>
 sR S (vS (Instr.loadAt 39 l)) fun t54 =>
 sR S (vS (Instr.loadAt 39 l)) fun t56 =>
 qR (vS (Instr.indexAt 39 t56 (.int .i64 t30))) fun t58 =>
 gR S 78 t58 2 76 fun t60 =>
 sR S (vS (Instr.loadAt 75 x)) fun t61 =>
 oR (vS (Instr.buildSlice 76 1 #[(0, t61)])) fun t62 =>
 andK S <|
 app 76 76 76 t60 t62 fun t63 =>
 andK S <|
 qR (vS (Instr.indexAt 39 t54 (.int .i64 t30))) fun t64 =>
 qR (vS (Instr.fieldAt 78 t64 2)) fun t65 =>
 sto 76 t65 t63 <|
 d1 none))
 (shell_row t18 fun t68 t68_1 =>
 oR (vS (Instr.alloc 78 true (.tuple #[]))) fun r =>
 sto 78 r t68 <|
 condK (!t68_1)
 (DrawK fun S =>
 sI S .i64 (vS (Instr.loadAt 3 n)) fun t73 =>
 sto 39 t2 (.slice none 0 0) <|
 andK S <|
 sto 3 t3 (.int .i64 t73) <|
 sto 23 t4 (.int .i64 5) <|
 d1 (some .ret))
 (lR 39 l fun t74 =>
 lR 78 r fun t75 =>
 oR (vS (Instr.buildSlice 39 1 #[(0, t75)])) fun t76 =>
 app 39 39 39 t74 t76 fun t77 =>
 sto 39 l t77 <|
 d1 none))) fun (r1 : Nat) => JmK
 (lR 39 l fun t78 =>
 sto 39 t2 t78 <|
 sto 3 t3 (.int .i64 0) <|
 sto 23 t4 (.int .i64 0) <|
 TkK P r1 <|
 rR (vS (do loadVar 39 (← asAddr t2))) fun u_21 =>
 rI .i64 (vS (do loadVar 3 (← asAddr t3))) fun u_22 =>
 rI .i64 (vS (do loadVar 23 (← asAddr t4))) fun u_23 =>
 K u_21 u_22 u_23)
 (TkK P r1 <|
 rR (vS (do loadVar 39 (← asAddr t2))) fun u_24 =>
 rI .i64 (vS (do loadVar 3 (← asAddr t3))) fun u_25 =>
 rI .i64 (vS (do loadVar 23 (← asAddr t4))) fun u_26 =>
 K u_24 u_25 u_26)
 [])
theorem shell_ParseRows_ok {s : ByteArray} {K : Value → Int → Int → WP} (w : World) (h : shell_ParseRows_sh s K w) : shell_ParseRows s K w :=
  fn_ok cx_ok (hi := (.n .l (.n .l (.n .l (.n .l (.n (.n .l (.n (.f [.str] true [] .l (.n (.n .l (.n (.n .l (.n (.n .l (.n .l (.n (.n (.j [(52, .bool)] .l) (.n (.n (.o (odR 0 4)) .l) .l)) (.n (.o (odR 0 13)) .l)))) .l)) (.n .l (.n (.n .l (.n (.n (.o (odR 0 4)) .l) .l)) .l)))) .l)) .l)) .l)))))) (fn := Tryz.f18) Tryz.func18 (by kernel_rfl) h

/- tollhouse/tollhouseref31.ParseRows -/
def ref31_ParseRows_sh (s : ByteArray) (K : Value → Int → Int → WP) : WP :=
 len 9 3 (.string s) fun t16 =>
 condK (decide (t16 > 131072))
 (K (.slice none 0 0) 0 3)
 (ref31_lines s fun t20 t20_1 =>
 loopK [(7, .raw), (8, (.int .i64))] (fun (j1 : Value → Int → WP) => j1 (.slice none 0 0) 0) (fun (j2 : Value → Int → WP) (l : Value) (i : Int) =>
 len 65 3 t20 fun t25 =>
 condK (decide (i < t25))
 (joinK [(37, .bool)] (fun (j3 : Bool → WP) =>
 condK (!t20_1)
 (len 65 3 t20 fun t34 =>
 ArK .i64 (t34 - 1) fun t35 =>
 j3 (i == t35))
 (j3 false))
 fun t37 =>
 condK t37
 (ArK .i64 (i + 1) fun t39 =>
 K (.slice none 0 0) t39 5)
 (joinK [(53, .bool)] (fun (j4 : Bool → WP) =>
 iS 65 t20 .i64 i 9 fun t43 =>
 len 9 3 (.string t43) fun t44 =>
 condK (decide (t44 > 0))
 (iS 65 t20 .i64 i 9 fun t50 =>
 oI .u8 (vS (Instr.index 9 (.string t50) (.int .i64 0))) fun t51 =>
 j4 (t51 == 62))
 (j4 false))
 fun t53 =>
 condK t53
 (iS 65 t20 .i64 i 9 fun t58 =>
 ref31_Sent t58 fun t59 t59_1 t59_2 =>
 oR (vS (Instr.alloc 84 true (.tuple #[]))) fun o =>
 sto 84 o t59_1 <|
 len 38 3 l fun t64 =>
 ArK .i64 (t64 - 1) fun t65 =>
 joinK [(87, .bool)] (fun (j5 : Bool → WP) =>
 condK (!t59_2)
 (j5 true)
 (condK (decide (t65 < 0))
 (j5 true)
 (oR (vS (Instr.indexAt 38 l (.int .i64 t65))) fun t75 =>
 fI 83 t75 0 3 .i64 fun t77 =>
 condK (t77 != 8)
 (j5 true)
 (oR (vS (Instr.indexAt 38 l (.int .i64 t65))) fun t83 =>
 fI 83 t83 1 3 .i64 fun t85 =>
 j5 (t85 != 0)))))
 fun t87 =>
 condK t87
 (ArK .i64 (i + 1) fun t89 =>
 K (.slice none 0 0) t89 5)
 (oR (vS (Instr.indexAt 38 l (.int .i64 t65))) fun t94 =>
 fR 83 t94 2 80 fun t96 =>
 oR (vS (Instr.buildSlice 80 1 #[(0, (.int .i64 t59))])) fun t98 =>
 app 80 80 80 t96 t98 fun t99 =>
 oR (vS (Instr.indexAt 38 l (.int .i64 t65))) fun t100 =>
 fW 83 t100 2 80 t99 <|
 DrawK fun S =>
 qR (vS (Instr.indexAt 38 l (.int .i64 t65))) fun t106 =>
 gR S 83 t106 3 81 fun t108 =>
 sR S (vS (Instr.loadAt 84 o)) fun t109 =>
 oR (vS (Instr.buildSlice 81 1 #[(0, t109)])) fun t110 =>
 andK S <|
 app 81 81 81 t108 t110 fun t111 =>
 andK S <|
 qR (vS (Instr.indexAt 38 l (.int .i64 t65))) fun t112 =>
 qR (vS (Instr.fieldAt 83 t112 3)) fun t113 =>
 sto 81 t113 t111 <|
 ArK .i64 (i + 1) fun t28 =>
 j2 l t28))
 (iS 65 t20 .i64 i 9 fun t118 =>
 ref31_Row t118 fun t119 t119_1 =>
 oR (vS (Instr.alloc 83 true (.tuple #[]))) fun x =>
 sto 83 x t119 <|
 condK (!t119_1)
 (ArK .i64 (i + 1) fun t125 =>
 K (.slice none 0 0) t125 5)
 (lR 83 x fun t127 =>
 oR (vS (Instr.buildSlice 38 1 #[(0, t127)])) fun t128 =>
 app 38 38 38 l t128 fun t129 =>
 ArK .i64 (i + 1) fun t28_1 =>
 j2 t129 t28_1))))
 (K l 0 0)))
theorem ref31_ParseRows_ok {s : ByteArray} {K : Value → Int → Int → WP} (w : World) (h : ref31_ParseRows_sh s K w) : ref31_ParseRows s K w :=
  fn_ok cx_ok (hi := (.n .l (.n .l (.n .l (.n .l (.n (.n .l (.n (.p [(7, .raw), (8, (.int .i64))] (.n .l (.n (.n (.n (.n (.j [(37, .bool)] .l) .l) (.n (.n (.j [(53, .bool)] .l) (.n (.n .l (.n .l (.n (.n (.j [(87, .bool)] .l) .l) (.n .l (.n (.o (odR 0 13)) .l))))) .l)) .l)) .l) .l))) .l)) .l)))))) (fn := Tryz.f19) Tryz.func19 (by kernel_rfl) h

/- tollhouse/tollhouseref31.SameRows -/
def ref31_SameRows_sh (a : Value) (b : Value) (K : Bool → WP) : WP :=
 len 38 3 a fun t7 =>
 len 38 3 b fun t9 =>
 condK (t7 != t9)
 (K false)
 (loopK [(5, (.int .i64))] (fun (j1 : Int → WP) => j1 0) (fun (j2 : Int → WP) (i : Int) =>
 len 38 3 a fun t13 =>
 condK (decide (i < t13))
 (DrawK fun S =>
 jR S 38 a .i64 i 83 fun t20 =>
 jR S 38 b .i64 i 83 fun t24 =>
 ref28_Same t20 t24 fun t25 =>
 condK (!t25)
 (K false)
 (ArK .i64 (i + 1) fun t16 =>
 j2 t16))
 (K true)))
theorem ref31_SameRows_ok {a : Value} {b : Value} {K : Bool → WP} (w : World) (h : ref31_SameRows_sh a b K w) : ref31_SameRows a b K w :=
  fn_ok cx_ok (hi := (.n .l (.n .l (.n (.n .l (.n (.p [(5, (.int .i64))] (.n .l (.n (.n (.n (.o (odR 0 10)) .l) .l) .l))) .l)) .l)))) (fn := Tryz.f20) Tryz.func20 (by kernel_rfl) h

/- tollhouse/shell.written[tollhouse/proxy.Event] -/
def shell_written_Event_sh (l : Value) (f : Value) (K : ByteArray → Int → WP) : WP :=
 oR (vS (Instr.alloc 101 true (.tuple #[]))) fun b =>
 len 26 3 l fun t12 =>
 loopK [(13, (.int .i64))] (fun (j1 : Int → WP) => j1 0) (fun (j2 : Int → WP) (t13 : Int) =>
 condK (decide (t13 < t12))
 (iR 26 l .i64 t13 54 fun t16 =>
 oR (vS (Instr.alloc 54 true (.tuple #[]))) fun x =>
 sto 54 x t16 <|
 lR 54 x fun t19 =>
 OpK P (.tup [.str, .bool]) (callS f #[t19]) fun t20 t20_1 =>
 condK (!t20_1)
 (K (⟨#[]⟩ : ByteArray) 1)
 (strings_Builder_WriteString b t20 fun _ _ =>
 ArK .i64 (t13 + 1) fun t27 =>
 j2 t27))
 (strings_Builder_Len b fun t28 =>
 condK (decide (t28 > 131072))
 (K (⟨#[]⟩ : ByteArray) 3)
 (strings_Builder_String b fun t30 =>
 K t30 0)))
theorem shell_written_Event_ok {l : Value} {f : Value} {K : ByteArray → Int → WP} (w : World) (h : shell_written_Event_sh l f K w) : shell_written_Event l f K w :=
  fn_ok cx_ok (hi := (.n .l (.n .l (.n (.n .l (.n (.p [(13, (.int .i64))] .l) .l)) .l)))) (fn := Tryz.f21) Tryz.func21 (by kernel_rfl) h

/- tollhouse/shell.eventText -/
def shell_eventText_sh (e : Value) (K : ByteArray → Bool → WP) : WP :=
 oR (vS (Instr.box 54 e)) fun e_1 =>
 fI 54 e_1 0 3 .i64 fun t6 =>
 shell_name (⟨#[32, 111, 112, 101, 110, 32, 100, 97, 116, 97, 32, 108, 101, 97, 118, 101, 32, 106, 111, 105, 110, 101, 100, 32, 102, 97, 105, 108, 101, 100, 32, 114, 101, 112, 108, 121, 32, 101, 110, 100, 101, 100, 32, 116, 105, 99, 107]⟩ : ByteArray) t6 fun t7 =>
 fI 54 e_1 0 3 .i64 fun t10 =>
 condK (t10 == 8)
 (joinK [(2, .str), (3, .bool)] (fun (j1 : ByteArray → Bool → WP) =>
 DrawK fun S =>
 gI S 54 e_1 2 3 .i64 fun t14 =>
 gI S 54 e_1 1 3 .i64 fun t19 =>
 shell_num t14 fun t15 =>
 andK S <|
 oR (vS (Instr.buildSlice 65 2 #[(0, (.string t7)), (1, (.string t15))])) fun t16 =>
 andK S <|
 shell_line t16 fun t17 =>
 andK S <|
 condK (t19 == 0)
 (gR S 54 e_1 3 52 fun t23 =>
 sI S .i64 (vS (Builtin.len_ #[52] 3 #[t23])) fun t24 =>
 j1 t17 (t24 == 0))
 (j1 t17 false))
 fun t2 t3 =>
 K t2 t3)
 (joinK [(27, .bool)] (fun (j2 : Bool → WP) =>
 fI 54 e_1 0 3 .i64 fun t29 =>
 condK (t29 == 2)
 (j2 true)
 (fI 54 e_1 0 3 .i64 fun t33 =>
 j2 (t33 == 6)))
 fun t27 =>
 condK t27
 (DrawK fun S =>
 gI S 54 e_1 1 3 .i64 fun t38 =>
 gI S 54 e_1 2 3 .i64 fun t41 =>
 gR S 54 e_1 3 52 fun t44 =>
 shell_num t38 fun t39 =>
 andK S <|
 shell_num t41 fun t42 =>
 andK S <|
 shell_Quote t44 fun t45 =>
 andK S <|
 oR (vS (Instr.buildSlice 65 4 #[(0, (.string t7)), (1, (.string t39)), (2, (.string t42)), (3, (.string t45))])) fun t46 =>
 andK S <|
 shell_line t46 fun t47 =>
 andK S <|
 K t47 true)
 (DrawK fun S =>
 gI S 54 e_1 1 3 .i64 fun t50 =>
 gI S 54 e_1 2 3 .i64 fun t53 =>
 qB (bS .neq 9 (.tmp 57) (.const (.string (⟨#[]⟩ : ByteArray))) (.string t7) (.string (⟨#[]⟩ : ByteArray))) fun t58 =>
 shell_num t50 fun t51 =>
 andK S <|
 shell_num t53 fun t54 =>
 andK S <|
 oR (vS (Instr.buildSlice 65 3 #[(0, (.string t7)), (1, (.string t51)), (2, (.string t54))])) fun t55 =>
 andK S <|
 shell_line t55 fun t56 =>
 andK S <|
 condK t58
 (gR S 54 e_1 3 52 fun t61 =>
 sI S .i64 (vS (Builtin.len_ #[52] 3 #[t61])) fun t62 =>
 K t56 (t62 == 0))
 (K t56 false)))
theorem shell_eventText_ok {e : Value} {K : ByteArray → Bool → WP} (w : World) (h : shell_eventText_sh e K w) : shell_eventText e K w :=
  fn_ok cx_ok (hi := (.n .l (.n .l (.n (.n (.n .l (.n (.n (.j [(2, .str), (3, .bool)] (.o (odL [0, 1, 2, 6, 7, 8, 3, 4, 5, 9, 10, 11, 12, 13, 14, 15, 16]))) .l) (.n (.j [(27, .bool)] .l) (.n (.n (.o (odL [0, 1, 2, 4, 5, 7, 8, 3, 6, 9, 10, 11, 12, 13])) .l) .l)))) .l) (.n (.o (odL [0, 1, 2, 4, 5, 9, 10, 3, 6, 7, 8, 11, 12, 13, 14, 15, 16, 17, 18])) .l))))) (fn := Tryz.f22) Tryz.func22 (by kernel_rfl) h

/- tollhouse/tollhouselaw28.Event -/
def law28_Event_sh (e : Value) (K : Value → WP) : WP :=
 oR (vS (Instr.box 57 e)) fun e_1 =>
 oR (vS (Instr.alloc 54 true (.tuple #[]))) fun t2 =>
 DrawK fun S =>
 gI S 57 e_1 0 3 .i64 fun t4 =>
 gI S 57 e_1 1 3 .i64 fun t6 =>
 gI S 57 e_1 2 3 .i64 fun t8 =>
 gR S 57 e_1 3 52 fun t11 =>
 oR (vS (Instr.buildSlice 52 0 #[])) fun t9 =>
 andK S <|
 app 52 52 52 t9 t11 fun t12 =>
 andK S <|
 qR (vS (Instr.build 54 #[(0, (.int .i64 t4)), (1, (.int .i64 t6)), (2, (.int .i64 t8)), (3, t12)])) fun t13 =>
 sto 54 t2 t13 <|
 rR (vS (do loadVar 54 (← asAddr t2))) fun u_1 =>
 K u_1
theorem law28_Event_ok {e : Value} {K : Value → WP} (w : World) (h : law28_Event_sh e K w) : law28_Event e K w :=
  fn_ok cx_ok (hi := (.n .l (.n (.o (odL [0, 1, 2, 3, 4, 5, 7, 8, 6, 9, 10, 11])) .l))) (fn := Tryz.f23) Tryz.func23 (by kernel_rfl) h

/- tollhouse/tollhouseref31.Line -/
def ref31_Line_sh (e : Value) (K : ByteArray → Bool → WP) : WP :=
 oR (vS (Instr.box 57 e)) fun e_1 =>
 fI 57 e_1 0 3 .i64 fun t6 =>
 ref31_Kind t6 fun t7 =>
 oB (bS .eql 9 (.tmp 8) (.const (.string (⟨#[]⟩ : ByteArray))) (.string t7) (.string (⟨#[]⟩ : ByteArray))) fun t9 =>
 condK t9
 (K (⟨#[]⟩ : ByteArray) false)
 (fI 57 e_1 0 3 .i64 fun t11 =>
 condK (t11 == 8)
 (joinK [(2, .str), (3, .bool)] (fun (j1 : ByteArray → Bool → WP) =>
 DrawK fun S =>
 qS (bS .add 9 (.tmp 13) (.const (.string (⟨#[32]⟩ : ByteArray))) (.string t7) (.string (⟨#[32]⟩ : ByteArray))) fun t14 =>
 gI S 57 e_1 2 3 .i64 fun t16 =>
 gI S 57 e_1 1 3 .i64 fun t20 =>
 ref31_Number t16 fun t17 =>
 andK S <|
 qS (bS .add 9 (.tmp 14) (.tmp 17) (.string t14) (.string t17)) fun t18 =>
 condK (t20 == 0)
 (gR S 57 e_1 3 52 fun t24 =>
 sI S .i64 (vS (Builtin.len_ #[52] 3 #[t24])) fun t25 =>
 j1 t18 (t25 == 0))
 (j1 t18 false))
 fun t2 t3 =>
 K t2 t3)
 (DrawK fun S =>
 qS (bS .add 9 (.tmp 28) (.const (.string (⟨#[32]⟩ : ByteArray))) (.string t7) (.string (⟨#[32]⟩ : ByteArray))) fun t29 =>
 gI S 57 e_1 1 3 .i64 fun t31 =>
 gI S 57 e_1 2 3 .i64 fun t36 =>
 ref31_Number t31 fun t32 =>
 andK S <|
 qS (bS .add 9 (.tmp 29) (.tmp 32) (.string t29) (.string t32)) fun t33 =>
 qS (bS .add 9 (.tmp 33) (.const (.string (⟨#[32]⟩ : ByteArray))) (.string t33) (.string (⟨#[32]⟩ : ByteArray))) fun t34 =>
 ref31_Number t36 fun t37 =>
 andK S <|
 qS (bS .add 9 (.tmp 34) (.tmp 37) (.string t34) (.string t37)) fun t38 =>
 joinK [(46, .bool)] (fun (j2 : Bool → WP) =>
 fI 57 e_1 0 3 .i64 fun t40 =>
 condK (t40 == 2)
 (j2 true)
 (fI 57 e_1 0 3 .i64 fun t44 =>
 j2 (t44 == 6)))
 fun t46 =>
 condK t46
 (oS (bS .add 9 (.tmp 47) (.const (.string (⟨#[32]⟩ : ByteArray))) (.string t38) (.string (⟨#[32]⟩ : ByteArray))) fun t48 =>
 fR 57 e_1 3 52 fun t50 =>
 ref31_Quote t50 fun t51 =>
 oS (bS .add 9 (.tmp 48) (.tmp 51) (.string t48) (.string t51)) fun t52 =>
 K t52 true)
 (DrawK fun S =>
 gR S 57 e_1 3 52 fun t55 =>
 sI S .i64 (vS (Builtin.len_ #[52] 3 #[t55])) fun t56 =>
 K t38 (t56 == 0))))
theorem ref31_Line_ok {e : Value} {K : ByteArray → Bool → WP} (w : World) (h : ref31_Line_sh e K w) : ref31_Line e K w :=
  fn_ok cx_ok (hi := (.n .l (.n .l (.n .l (.n (.n .l (.n (.n (.j [(2, .str), (3, .bool)] (.o (odL [0, 1, 2, 3, 6, 7, 8, 4, 5, 9, 10, 11, 12, 13, 14, 15, 16]))) .l) .l)) (.n (.o (odL [0, 1, 2, 3, 7, 8, 4, 5, 6, 9, 10, 11])) (.n (.n (.j [(46, .bool)] .l) .l) (.n (.o (odR 0 7)) .l)))))))) (fn := Tryz.f24) Tryz.func24 (by kernel_rfl) h

/- strings.Lines -/
def strings_Lines_sh (s : ByteArray) (K : Value → WP) : WP :=
 oR (vS (Instr.box 9 (.string s))) fun s_1 =>
 K (.func (.func 50) #[] #[s_1])
theorem strings_Lines_ok {s : ByteArray} {K : Value → WP} (w : World) (h : strings_Lines_sh s K w) : strings_Lines s K w :=
  fn_ok cx_ok (hi := .l) (fn := Tryz.f25) Tryz.func25 (by kernel_rfl) h

/- tollhouse/shell.event -/
def shell_event_sh (s : ByteArray) (K : Value → Bool → WP) : WP :=
 oR (vS (Instr.alloc 54 true (.tuple #[]))) fun t2 =>
 strings_TrimSuffix s (⟨#[10]⟩ : ByteArray) fun t9 =>
 oR (vS (Instr.build 116 #[(0, (.string t9))])) fun t10 =>
 oR (vS (Instr.box 116 t10)) fun t11 =>
 shell_reader_place t11 (⟨#[32, 111, 112, 101, 110, 32, 100, 97, 116, 97, 32, 108, 101, 97, 118, 101, 32, 106, 111, 105, 110, 101, 100, 32, 102, 97, 105, 108, 101, 100, 32, 114, 101, 112, 108, 121, 32, 101, 110, 100, 101, 100, 32, 116, 105, 99, 107]⟩ : ByteArray) fun t13 =>
 oR (vS (Instr.build 54 #[(0, (.int .i64 t13))])) fun t14 =>
 oR (vS (Instr.alloc 54 true (.tuple #[]))) fun e =>
 sto 54 e t14 <|
 joinK [] (fun (j1 : WP) =>
 fI 54 e 0 3 .i64 fun t16 =>
 condK (t16 == 8)
 (oR (vS (Instr.fieldAt 54 e 2)) fun t25 =>
 oR (vS (Instr.buildSlice 137 1 #[(0, t25)])) fun t26 =>
 shell_reader_numbers t11 t26 fun _ =>
 j1)
 (joinK [(28, .bool)] (fun (j2 : Bool → WP) =>
 condK (t16 == 2)
 (j2 (t16 == 2))
 (j2 (t16 == 6)))
 fun t28 =>
 condK t28
 (oR (vS (Instr.fieldAt 54 e 1)) fun t32 =>
 oR (vS (Instr.fieldAt 54 e 2)) fun t33 =>
 oR (vS (Instr.buildSlice 137 2 #[(0, t32), (1, t33)])) fun t34 =>
 shell_reader_numbers t11 t34 fun _ =>
 shell_reader_word t11 fun t37 =>
 fW 54 e 3 52 t37 <|
 j1)
 (oR (vS (Instr.fieldAt 54 e 1)) fun t18 =>
 oR (vS (Instr.fieldAt 54 e 2)) fun t19 =>
 oR (vS (Instr.buildSlice 137 2 #[(0, t18), (1, t19)])) fun t20 =>
 shell_reader_numbers t11 t20 fun _ =>
 j1)))
 <|
 lR 54 e fun t40 =>
 shell_eventText t40 fun t41 t41_1 =>
 DrawK fun S =>
 sR S (vS (Instr.loadAt 54 e)) fun t44 =>
 hB S 116 t11 1 4 fun t48 =>
 condK (!t48)
 (condK t41_1
 (qB (bS .eql 9 (.tmp 54) (.tmp 55) (.string t41) (.string s)) fun t56 =>
 sto 54 t2 t44 <|
 andK S <|
 rR (vS (do loadVar 54 (← asAddr t2))) fun u_3 =>
 K u_3 t56)
 (sto 54 t2 t44 <|
 andK S <|
 rR (vS (do loadVar 54 (← asAddr t2))) fun u_5 =>
 K u_5 false))
 (sto 54 t2 t44 <|
 andK S <|
 rR (vS (do loadVar 54 (← asAddr t2))) fun u_7 =>
 K u_7 false)
theorem shell_event_ok {s : ByteArray} {K : Value → Bool → WP} (w : World) (h : shell_event_sh s K w) : shell_event s K w :=
  fn_ok cx_ok (hi := (.n .l (.n .l (.n .l (.n (.j [] (.n .l (.n (.n .l (.n .l (.n (.j [(28, .bool)] .l) .l))) .l))) (.n .l (.n (.o (odR 0 16)) .l))))))) (fn := Tryz.f26) Tryz.func26 (by kernel_rfl) h

/- tollhouse/tollhouseref31.lines -/
def ref31_lines_sh (s : ByteArray) (K : Value → Bool → WP) : WP :=
 loopK [(4, .raw), (5, (.int .i64)), (6, (.int .i64))] (fun (j1 : Value → Int → Int → WP) => j1 (.slice none 0 0) 0 0) (fun (j2 : Value → Int → Int → WP) (l : Value) (from_ : Int) (i : Int) =>
 len 9 3 (.string s) fun t9 =>
 condK (decide (i < t9))
 (oI .u8 (vS (Instr.index 9 (.string s) (.int .i64 i))) fun t15 =>
 condK (t15 == 10)
 (oS (vS (Instr.sliceAt 9 (.string s) (some (.int .i64 from_)) (some (.int .i64 i)) none)) fun t21 =>
 oR (vS (Instr.buildSlice 65 1 #[(0, (.string t21))])) fun t22 =>
 app 65 65 65 l t22 fun t23 =>
 ArK .i64 (i + 1) fun t25 =>
 ArK .i64 (i + 1) fun t12 =>
 j2 t23 t25 t12)
 (ArK .i64 (i + 1) fun t12_1 =>
 j2 l from_ t12_1))
 (len 9 3 (.string s) fun t28 =>
 condK (decide (from_ < t28))
 (oS (vS (Instr.sliceAt 9 (.string s) (some (.int .i64 from_)) none none)) fun t33 =>
 oR (vS (Instr.buildSlice 65 1 #[(0, (.string t33))])) fun t34 =>
 app 65 65 65 l t34 fun t35 =>
 K t35 false)
 (K l true)))
theorem ref31_lines_ok {s : ByteArray} {K : Value → Bool → WP} (w : World) (h : ref31_lines_sh s K w) : ref31_lines s K w :=
  fn_ok cx_ok (hi := (.n .l (.n .l (.n .l (.n (.n .l (.n (.p [(4, .raw), (5, (.int .i64)), (6, (.int .i64))] .l) .l)) .l))))) (fn := Tryz.f27) Tryz.func27 (by kernel_rfl) h

/- tollhouse/tollhouseref31.Event -/
def ref31_Event_sh (s : ByteArray) (K : Value → Bool → WP) : WP :=
 oR (vS (Instr.alloc 57 true (.tuple #[]))) fun t2 =>
 oR (vS (Instr.build 123 #[(0, (.string s))])) fun t7 =>
 oR (vS (Instr.box 123 t7)) fun t8 =>
 ref31_Reader_kind t8 fun t10 =>
 oR (vS (Instr.build 57 #[(0, (.int .i64 t10))])) fun t11 =>
 oR (vS (Instr.alloc 57 true (.tuple #[]))) fun e =>
 sto 57 e t11 <|
 nB 123 t8 1 4 fun t15 =>
 condK t15
 (lR 57 e fun t16 =>
 sto 57 t2 t16 <|
 rR (vS (do loadVar 57 (← asAddr t2))) fun u_2 =>
 K u_2 false)
 (joinK [] (fun (j1 : WP) =>
 fI 57 e 0 3 .i64 fun t18 =>
 condK (t18 != 8)
 (ref31_Reader_number t8 fun t21 =>
 fW 57 e 1 3 (.int .i64 t21) <|
 j1)
 (j1))
 <|
 ref31_Reader_number t8 fun t24 =>
 fW 57 e 2 3 (.int .i64 t24) <|
 joinK [] (fun (j2 : WP) =>
 fI 57 e 0 3 .i64 fun t27 =>
 condK (t27 == 2)
 (ref31_Reader_word t8 fun t35 =>
 fW 57 e 3 52 t35 <|
 j2)
 (fI 57 e 0 3 .i64 fun t31 =>
 condK (t31 == 6)
 (ref31_Reader_word t8 fun t35_1 =>
 fW 57 e 3 52 t35_1 <|
 j2)
 (j2)))
 <|
 DrawK fun S =>
 sR S (vS (Instr.loadAt 57 e)) fun t37 =>
 hB S 123 t8 1 4 fun t41 =>
 condK (!t41)
 (hS S 123 t8 0 9 fun t47 =>
 qB (bS .eql 9 (.tmp 47) (.const (.string (⟨#[]⟩ : ByteArray))) (.string t47) (.string (⟨#[]⟩ : ByteArray))) fun t48 =>
 sto 57 t2 t37 <|
 andK S <|
 rR (vS (do loadVar 57 (← asAddr t2))) fun u_8 =>
 K u_8 t48)
 (sto 57 t2 t37 <|
 andK S <|
 rR (vS (do loadVar 57 (← asAddr t2))) fun u_10 =>
 K u_10 false))
theorem ref31_Event_ok {s : ByteArray} {K : Value → Bool → WP} (w : World) (h : ref31_Event_sh s K w) : ref31_Event s K w :=
  fn_ok cx_ok (hi := (.n .l (.n .l (.n .l (.n .l (.n (.j [] .l) (.n .l (.n (.j [] .l) (.n (.o (odR 0 15)) .l))))))))) (fn := Tryz.f28) Tryz.func28 (by kernel_rfl) h

/- tollhouse/shell.Unquote -/
def shell_Unquote_sh (s : ByteArray) (K : Value → ByteArray → Bool → WP) : WP :=
 strings_HasPrefix s (⟨#[34]⟩ : ByteArray) fun t10 =>
 condK (!t10)
 (K (.slice none 0 0) (⟨#[]⟩ : ByteArray) false)
 (oR (vS (Instr.buildSlice 52 0 #[])) fun t12 =>
 loopK [(5, .raw), (6, (.int .i64))] (fun (j1 : Value → Int → WP) => j1 t12 1) (fun (j2 : Value → Int → WP) (b : Value) (at_ : Int) =>
 len 9 3 (.string s) fun t15 =>
 condK (decide (at_ < t15))
 (oI .u8 (vS (Instr.index 9 (.string s) (.int .i64 at_))) fun t28 =>
 condK (t28 == 34)
 (DrawK fun S =>
 ArK .i64 (at_ + 1) fun t34 =>
 qS (vS (Instr.sliceAt 9 (.string s) none (some (.int .i64 t34)) none)) fun t35 =>
 shell_Quote b fun t31 =>
 qB (bS .neq 9 (.tmp 31) (.tmp 35) (.string t31) (.string t35)) fun t36 =>
 condK t36
 (K (.slice none 0 0) (⟨#[]⟩ : ByteArray) false)
 (DrawK fun S =>
 ArK .i64 (at_ + 1) fun t40 =>
 qS (vS (Instr.sliceAt 9 (.string s) (some (.int .i64 t40)) none none)) fun t41 =>
 K b t41 true))
 (joinK [(42, .bool)] (fun (j3 : Bool → WP) =>
 oI .u8 (vS (Instr.index 9 (.string s) (.int .i64 at_))) fun t45 =>
 condK (t45 == 92)
 (ArK .i64 (at_ + 3) fun t49 =>
 len 9 3 (.string s) fun t51 =>
 condK (decide (t49 < t51))
 (ArK .i64 (at_ + 1) fun t57 =>
 oI .u8 (vS (Instr.index 9 (.string s) (.int .i64 t57))) fun t58 =>
 j3 (t58 == 120))
 (j3 false))
 (j3 false))
 fun t42 =>
 condK t42
 (DrawK fun S =>
 ArK .i64 (at_ + 2) fun t63 =>
 qI .u8 (vS (Instr.index 9 (.string s) (.int .i64 t63))) fun t64 =>
 ArK .i64 (at_ + 3) fun t68 =>
 qI .u8 (vS (Instr.index 9 (.string s) (.int .i64 t68))) fun t69 =>
 strings_IndexByte (⟨#[48, 49, 50, 51, 52, 53, 54, 55, 56, 57, 97, 98, 99, 100, 101, 102]⟩ : ByteArray) t64 fun t65 =>
 strings_IndexByte (⟨#[48, 49, 50, 51, 52, 53, 54, 55, 56, 57, 97, 98, 99, 100, 101, 102]⟩ : ByteArray) t69 fun t70 =>
 joinK [(76, .bool)] (fun (j4 : Bool → WP) =>
 condK (decide (t65 < 0))
 (j4 true)
 (j4 (decide (t70 < 0))))
 fun t76 =>
 condK t76
 (K (.slice none 0 0) (⟨#[]⟩ : ByteArray) false)
 (oI .i64 (bS .shl 3 (.tmp 78) (.const (.int .u64 4)) (.int .i64 t65) (.int .u64 4)) fun t79 =>
 oI .i64 (bS .or 3 (.tmp 79) (.tmp 80) (.int .i64 t79) (.int .i64 t70)) fun t81 =>
 oI .u8 (vS (convert 3 5 (.int .i64 t81))) fun t82 =>
 oR (vS (Instr.buildSlice 52 1 #[(0, (.int .u8 t82))])) fun t83 =>
 app 52 52 52 b t83 fun t84 =>
 ArK .i64 (at_ + 3) fun t86 =>
 ArK .i64 (t86 + 1) fun t18 =>
 j2 t84 t18))
 (joinK [(87, .bool)] (fun (j5 : Bool → WP) =>
 oI .u8 (vS (Instr.index 9 (.string s) (.int .i64 at_))) fun t90 =>
 condK (t90 == 92)
 (ArK .i64 (at_ + 1) fun t94 =>
 len 9 3 (.string s) fun t96 =>
 j5 (decide (t94 < t96)))
 (j5 false))
 fun t87 =>
 condK t87
 (ArK .i64 (at_ + 1) fun t100 =>
 oI .u8 (vS (Instr.index 9 (.string s) (.int .i64 t100))) fun t104 =>
 oR (vS (Instr.buildSlice 52 1 #[(0, (.int .u8 t104))])) fun t105 =>
 app 52 52 52 b t105 fun t106 =>
 ArK .i64 (t100 + 1) fun t18_1 =>
 j2 t106 t18_1)
 (oI .u8 (vS (Instr.index 9 (.string s) (.int .i64 at_))) fun t22 =>
 oR (vS (Instr.buildSlice 52 1 #[(0, (.int .u8 t22))])) fun t23 =>
 app 52 52 52 b t23 fun t24 =>
 ArK .i64 (at_ + 1) fun t18_2 =>
 j2 t24 t18_2))))
 (K (.slice none 0 0) (⟨#[]⟩ : ByteArray) false)))
theorem shell_Unquote_ok {s : ByteArray} {K : Value → ByteArray → Bool → WP} (w : World) (h : shell_Unquote_sh s K w) : shell_Unquote s K w :=
  fn_ok cx_ok (hi := (.n .l (.n .l (.n .l (.n (.n .l (.n (.p [(5, .raw), (6, (.int .i64))] (.n .l (.n (.n (.n (.n .l (.n (.n (.n (.o (odL [0, 2, 3, 4, 5, 1, 6])) .l) (.n (.o (odR 0 8)) .l)) (.n (.j [(42, .bool)] .l) (.n (.n (.o (odL [0, 1, 2, 3, 5, 6, 7, 8, 4, 9, 10, 11])) (.n (.n (.j [(76, .bool)] .l) .l) .l)) (.n (.j [(87, .bool)] .l) .l))))) .l) .l) .l))) .l)) .l))))) (fn := Tryz.f29) Tryz.func29 (by kernel_rfl) h

/- tollhouse/shell.Quote -/
def shell_Quote_sh (b : Value) (K : ByteArray → WP) : WP :=
 oR (vS (Instr.buildSlice 52 1 #[(0, (.int .u8 34))])) fun t6 =>
 len 52 3 b fun t8 =>
 loopK [(3, .raw), (9, (.int .i64))] (fun (j1 : Value → Int → WP) => j1 t6 0) (fun (j2 : Value → Int → WP) (out : Value) (t9 : Int) =>
 condK (decide (t9 < t8))
 (iI 52 b .i64 t9 5 .u8 fun t12 =>
 joinK [(17, .bool)] (fun (j3 : Bool → WP) =>
 condK (decide (t12 < 32))
 (j3 true)
 (j3 (decide (t12 > 126))))
 fun t17 =>
 condK t17
 (DrawK fun S =>
 qI .u8 (bS .shr 5 (.tmp 25) (.const (.int .u64 4)) (.int .u8 t12) (.int .u64 4)) fun t26 =>
 qI .u8 (vS (Instr.index 9 (.string (⟨#[48, 49, 50, 51, 52, 53, 54, 55, 56, 57, 97, 98, 99, 100, 101, 102]⟩ : ByteArray)) (.int .u8 t26))) fun t27 =>
 qI .u8 (bS .and 5 (.tmp 28) (.const (.int .u8 15)) (.int .u8 t12) (.int .u8 15)) fun t29 =>
 qI .u8 (vS (Instr.index 9 (.string (⟨#[48, 49, 50, 51, 52, 53, 54, 55, 56, 57, 97, 98, 99, 100, 101, 102]⟩ : ByteArray)) (.int .u8 t29))) fun t30 =>
 oR (vS (Instr.buildSlice 52 4 #[(0, (.int .u8 92)), (1, (.int .u8 120)), (2, (.int .u8 t27)), (3, (.int .u8 t30))])) fun t31 =>
 app 52 52 52 out t31 fun t32 =>
 ArK .i64 (t9 + 1) fun t44 =>
 j2 t32 t44)
 (joinK [(33, .bool)] (fun (j4 : Bool → WP) =>
 condK (t12 == 34)
 (j4 true)
 (j4 (t12 == 92)))
 fun t33 =>
 condK t33
 (oR (vS (Instr.buildSlice 52 2 #[(0, (.int .u8 92)), (1, (.int .u8 t12))])) fun t42 =>
 app 52 52 52 out t42 fun t43 =>
 ArK .i64 (t9 + 1) fun t44_1 =>
 j2 t43 t44_1)
 (oR (vS (Instr.buildSlice 52 1 #[(0, (.int .u8 t12))])) fun t15 =>
 app 52 52 52 out t15 fun t16 =>
 ArK .i64 (t9 + 1) fun t44_2 =>
 j2 t16 t44_2)))
 (oR (vS (Instr.buildSlice 52 1 #[(0, (.int .u8 34))])) fun t46 =>
 app 52 52 52 out t46 fun t47 =>
 oS (vS (convert 52 9 t47)) fun t48 =>
 K t48))
theorem shell_Quote_ok {b : Value} {K : ByteArray → WP} (w : World) (h : shell_Quote_sh b K w) : shell_Quote b K w :=
  fn_ok cx_ok (hi := (.n .l (.n .l (.n (.n .l (.n (.p [(3, .raw), (9, (.int .i64))] (.n .l (.n .l (.n (.n (.n .l (.n (.n (.j [(17, .bool)] .l) (.n (.o (odR 0 10)) (.n (.j [(33, .bool)] .l) .l))) .l)) .l) .l)))) .l)) .l)))) (fn := Tryz.f30) Tryz.func30 (by kernel_rfl) h

/- tollhouse/shell.written[tollhouse/proxy.Row] -/
def shell_written_Row_sh (l : Value) (f : Value) (K : ByteArray → Int → WP) : WP :=
 oR (vS (Instr.alloc 101 true (.tuple #[]))) fun b =>
 len 39 3 l fun t12 =>
 loopK [(13, (.int .i64))] (fun (j1 : Int → WP) => j1 0) (fun (j2 : Int → WP) (t13 : Int) =>
 condK (decide (t13 < t12))
 (iR 39 l .i64 t13 78 fun t16 =>
 oR (vS (Instr.alloc 78 true (.tuple #[]))) fun x =>
 sto 78 x t16 <|
 lR 78 x fun t19 =>
 OpK P (.tup [.str, .bool]) (callS f #[t19]) fun t20 t20_1 =>
 condK (!t20_1)
 (K (⟨#[]⟩ : ByteArray) 1)
 (strings_Builder_WriteString b t20 fun _ _ =>
 ArK .i64 (t13 + 1) fun t27 =>
 j2 t27))
 (strings_Builder_Len b fun t28 =>
 condK (decide (t28 > 131072))
 (K (⟨#[]⟩ : ByteArray) 3)
 (strings_Builder_String b fun t30 =>
 K t30 0)))
theorem shell_written_Row_ok {l : Value} {f : Value} {K : ByteArray → Int → WP} (w : World) (h : shell_written_Row_sh l f K w) : shell_written_Row l f K w :=
  fn_ok cx_ok (hi := (.n .l (.n .l (.n (.n .l (.n (.p [(13, (.int .i64))] .l) .l)) .l)))) (fn := Tryz.f31) Tryz.func31 (by kernel_rfl) h

/- tollhouse/shell.rowText -/
def shell_rowText_sh (r : Value) (K : ByteArray → Bool → WP) : WP :=
 oR (vS (Instr.box 78 r)) fun r_1 =>
 fI 78 r_1 0 3 .i64 fun t11 =>
 shell_name (⟨#[32, 111, 112, 101, 110, 32, 100, 97, 116, 97, 32, 108, 101, 97, 118, 101, 32, 106, 111, 105, 110, 101, 100, 32, 102, 97, 105, 108, 101, 100, 32, 114, 101, 112, 108, 121, 32, 101, 110, 100, 101, 100, 32, 116, 105, 99, 107]⟩ : ByteArray) t11 fun t12 =>
 joinK [(30, .bool)] (fun (j1 : Bool → WP) =>
 oB (bS .eql 9 (.tmp 13) (.const (.string (⟨#[]⟩ : ByteArray))) (.string t12) (.string (⟨#[]⟩ : ByteArray))) fun t14 =>
 condK t14
 (j1 true)
 (fR 78 r_1 2 76 fun t17 =>
 len 76 3 t17 fun t18 =>
 condK (decide (t18 > 0))
 (fI 78 r_1 0 3 .i64 fun t22 =>
 condK (t22 != 8)
 (j1 true)
 (fI 78 r_1 1 23 .i64 fun t26 =>
 j1 (t26 != 0)))
 (j1 false)))
 fun t30 =>
 condK t30
 (K (⟨#[]⟩ : ByteArray) false)
 (fI 78 r_1 1 23 .i64 fun t32 =>
 condK (t32 != 0)
 (fI 78 r_1 1 23 .i64 fun t36 =>
 shell_num t36 fun t37 =>
 oR (vS (Instr.buildSlice 65 3 #[(0, (.string t12)), (1, (.string (⟨#[101, 114, 114, 111, 114]⟩ : ByteArray))), (2, (.string t37))])) fun t38 =>
 shell_line t38 fun t39 =>
 K t39 true)
 (oR (vS (Instr.alloc 101 true (.tuple #[]))) fun b =>
 oR (vS (Instr.buildSlice 65 2 #[(0, (.string t12)), (1, (.string (⟨#[111, 107]⟩ : ByteArray)))])) fun t41 =>
 shell_line t41 fun t42 =>
 strings_Builder_WriteString b t42 fun _ _ =>
 fR 78 r_1 2 76 fun t45 =>
 len 76 3 t45 fun t46 =>
 loopK [(47, (.int .i64))] (fun (j2 : Int → WP) => j2 0) (fun (j3 : Int → WP) (t47 : Int) =>
 condK (decide (t47 < t46))
 (iR 76 t45 .i64 t47 75 fun t50 =>
 oR (vS (Instr.alloc 75 true (.tuple #[]))) fun x =>
 sto 75 x t50 <|
 lR 75 x fun t52 =>
 shell_outText t52 fun t53 t53_1 =>
 condK (!t53_1)
 (K (⟨#[]⟩ : ByteArray) false)
 (strings_Builder_WriteString b t53 fun _ _ =>
 ArK .i64 (t47 + 1) fun t60 =>
 j3 t60))
 (strings_Builder_String b fun t61 =>
 K t61 true))))
theorem shell_rowText_ok {r : Value} {K : ByteArray → Bool → WP} (w : World) (h : shell_rowText_sh r K w) : shell_rowText r K w :=
  fn_ok cx_ok (hi := (.n .l (.n .l (.n (.n (.j [(30, .bool)] .l) .l) (.n .l (.n .l (.n .l (.n (.n .l (.n (.p [(47, (.int .i64))] .l) .l)) .l)))))))) (fn := Tryz.f32) Tryz.func32 (by kernel_rfl) h

/- tollhouse/tollhouseref31.RowLines -/
def ref31_RowLines_sh (r : Value) (K : ByteArray → Bool → WP) : WP :=
 oR (vS (Instr.box 83 r)) fun r_1 =>
 fI 83 r_1 0 3 .i64 fun t10 =>
 ref31_Kind t10 fun t11 =>
 joinK [(29, .bool)] (fun (j1 : Bool → WP) =>
 oB (bS .eql 9 (.tmp 12) (.const (.string (⟨#[]⟩ : ByteArray))) (.string t11) (.string (⟨#[]⟩ : ByteArray))) fun t13 =>
 condK t13
 (j1 true)
 (fR 83 r_1 3 81 fun t16 =>
 len 81 3 t16 fun t17 =>
 condK (decide (t17 > 0))
 (fI 83 r_1 0 3 .i64 fun t21 =>
 condK (t21 != 8)
 (j1 true)
 (fI 83 r_1 1 3 .i64 fun t25 =>
 j1 (t25 != 0)))
 (j1 false)))
 fun t29 =>
 condK t29
 (K (⟨#[]⟩ : ByteArray) false)
 (fI 83 r_1 1 3 .i64 fun t31 =>
 condK (t31 != 0)
 (oS (bS .add 9 (.tmp 33) (.const (.string (⟨#[32, 101, 114, 114, 111, 114, 32]⟩ : ByteArray))) (.string t11) (.string (⟨#[32, 101, 114, 114, 111, 114, 32]⟩ : ByteArray))) fun t34 =>
 fI 83 r_1 1 3 .i64 fun t36 =>
 ref31_Number t36 fun t37 =>
 oS (bS .add 9 (.tmp 34) (.tmp 37) (.string t34) (.string t37)) fun t38 =>
 oS (bS .add 9 (.tmp 38) (.const (.string (⟨#[10]⟩ : ByteArray))) (.string t38) (.string (⟨#[10]⟩ : ByteArray))) fun t39 =>
 K t39 true)
 (oS (bS .add 9 (.tmp 40) (.const (.string (⟨#[32, 111, 107, 10]⟩ : ByteArray))) (.string t11) (.string (⟨#[32, 111, 107, 10]⟩ : ByteArray))) fun t41 =>
 oR (vS (convert 9 52 (.string t41))) fun t42 =>
 loopK [(5, .raw), (6, (.int .i64))] (fun (j2 : Value → Int → WP) => j2 t42 0) (fun (j3 : Value → Int → WP) (b : Value) (i : Int) =>
 fR 83 r_1 3 81 fun t45 =>
 len 81 3 t45 fun t46 =>
 condK (decide (i < t46))
 (DrawK fun S =>
 gR S 83 r_1 2 80 fun t52 =>
 jI S 80 t52 .i64 i 3 .i64 fun t55 =>
 gR S 83 r_1 3 81 fun t57 =>
 jR S 81 t57 .i64 i 84 fun t60 =>
 ref31_OutLine t55 t60 fun t61 t61_1 =>
 andK S <|
 condK (!t61_1)
 (K (⟨#[]⟩ : ByteArray) false)
 (oR (vS (Builtin.append_ #[52, 9] 52 #[b, (.string t61)])) fun t68 =>
 oR (vS (Instr.buildSlice 52 1 #[(0, (.int .u8 10))])) fun t70 =>
 app 52 52 52 t68 t70 fun t71 =>
 ArK .i64 (i + 1) fun t49 =>
 j3 t71 t49))
 (oS (vS (convert 52 9 b)) fun t73 =>
 K t73 true))))
theorem ref31_RowLines_ok {r : Value} {K : ByteArray → Bool → WP} (w : World) (h : ref31_RowLines_sh r K w) : ref31_RowLines r K w :=
  fn_ok cx_ok (hi := (.n .l (.n .l (.n (.n (.j [(29, .bool)] .l) .l) (.n .l (.n .l (.n (.n .l (.n (.p [(5, .raw), (6, (.int .i64))] (.n .l (.n (.n (.n (.o (odR 0 16)) .l) .l) .l))) .l)) .l))))))) (fn := Tryz.f33) Tryz.func33 (by kernel_rfl) h

/- tollhouse/tollhouselaw28.Ours -/
def law28_Ours_sh (r : Value) (K : Value → WP) : WP :=
 oR (vS (Instr.box 78 r)) fun r_1 =>
 oR (vS (Instr.alloc 83 true (.tuple #[]))) fun t2 =>
 fI 78 r_1 0 3 .i64 fun t7 =>
 fI 78 r_1 1 23 .i64 fun t9 =>
 oR (vS (Instr.build 83 #[(0, (.int .i64 t7)), (1, (.int .i64 t9))])) fun t10 =>
 oR (vS (Instr.alloc 83 true (.tuple #[]))) fun out =>
 sto 83 out t10 <|
 fR 78 r_1 2 76 fun t12 =>
 len 76 3 t12 fun t13 =>
 loopK [(14, (.int .i64))] (fun (j1 : Int → WP) => j1 0) (fun (j2 : Int → WP) (t14 : Int) =>
 condK (decide (t14 < t13))
 (iR 76 t12 .i64 t14 75 fun t17 =>
 oR (vS (Instr.alloc 75 true (.tuple #[]))) fun s =>
 sto 75 s t17 <|
 fR 83 out 2 80 fun t19 =>
 fI 75 s 0 3 .i64 fun t21 =>
 oR (vS (Instr.buildSlice 80 1 #[(0, (.int .i64 t21))])) fun t22 =>
 app 80 80 80 t19 t22 fun t23 =>
 fW 83 out 2 80 t23 <|
 DrawK fun S =>
 gR S 83 out 3 81 fun t26 =>
 gR S 75 s 1 73 fun t28 =>
 oR (vS (Instr.buildSlice 128 1 #[(0, t28)])) fun t29 =>
 andK S <|
 law27_Ours t29 fun t30 =>
 andK S <|
 app 81 81 81 t26 t30 fun t31 =>
 andK S <|
 qR (vS (Instr.fieldAt 83 out 3)) fun t32 =>
 sto 81 t32 t31 <|
 ArK .i64 (t14 + 1) fun t33 =>
 j2 t33)
 (lR 83 out fun t34 =>
 sto 83 t2 t34 <|
 rR (vS (do loadVar 83 (← asAddr t2))) fun u_5 =>
 K u_5))
theorem law28_Ours_ok {r : Value} {K : Value → WP} (w : World) (h : law28_Ours_sh r K w) : law28_Ours r K w :=
  fn_ok cx_ok (hi := (.n .l (.n .l (.n (.n .l (.n (.p [(14, (.int .i64))] (.n .l (.n .l (.n (.n (.n .l (.n .l (.o (odR 0 9)))) .l) .l)))) .l)) .l)))) (fn := Tryz.f34) Tryz.func34 (by kernel_rfl) h

/- tollhouse/shell.sent -/
def shell_sent_sh (s : ByteArray) (K : Value → Bool → WP) : WP :=
 oR (vS (Instr.alloc 75 true (.tuple #[]))) fun t2 =>
 strings_TrimSuffix s (⟨#[10]⟩ : ByteArray) fun t10 =>
 oR (vS (Instr.build 116 #[(0, (.string t10))])) fun t11 =>
 oR (vS (Instr.box 116 t11)) fun t12 =>
 shell_reader_plain t12 fun _ =>
 shell_reader_number t12 fun t16 =>
 oR (vS (Instr.build 75 #[(0, (.int .i64 t16))])) fun t17 =>
 oR (vS (Instr.alloc 75 true (.tuple #[]))) fun x =>
 sto 75 x t17 <|
 oR (vS (Instr.fieldAt 75 x 1)) fun t18 =>
 joinK [] (fun (j1 : WP) =>
 shell_reader_place t12 (⟨#[32, 99, 108, 105, 101, 110, 116, 32, 115, 104, 117, 116, 32, 106, 111, 105, 110, 32, 111, 114, 105, 103, 105, 110, 32, 101, 110, 100]⟩ : ByteArray) fun t21 =>
 nW 73 t18 0 3 (.int .i64 t21) <|
 nI 73 t18 0 3 .i64 fun t27 =>
 condK (t27 == 1)
 (NilK t18 <|
 oR (vS (Instr.fieldAt 73 t18 1)) fun t39 =>
 oR (vS (Instr.buildSlice 137 1 #[(0, t39)])) fun t40 =>
 shell_reader_numbers t12 t40 fun _ =>
 shell_reader_word t12 fun t44 =>
 nW 73 t18 3 52 t44 <|
 j1)
 (condK (t27 == 2)
 (NilK t18 <|
 oR (vS (Instr.fieldAt 73 t18 1)) fun t52 =>
 oR (vS (Instr.buildSlice 137 1 #[(0, t52)])) fun t53 =>
 shell_reader_numbers t12 t53 fun _ =>
 j1)
 (condK (t27 == 3)
 (NilK t18 <|
 oR (vS (Instr.fieldAt 73 t18 2)) fun t60 =>
 oR (vS (Instr.buildSlice 137 1 #[(0, t60)])) fun t61 =>
 shell_reader_numbers t12 t61 fun _ =>
 shell_reader_word t12 fun t65 =>
 oS (vS (convert 52 9 t65)) fun t66 =>
 nW 73 t18 4 9 (.string t66) <|
 NilK t18 <|
 oR (vS (Instr.fieldAt 73 t18 5)) fun t72 =>
 oR (vS (Instr.buildSlice 137 1 #[(0, t72)])) fun t73 =>
 shell_reader_numbers t12 t73 fun _ =>
 j1)
 (condK (t27 == 4)
 (NilK t18 <|
 oR (vS (Instr.fieldAt 73 t18 2)) fun t80 =>
 oR (vS (Instr.buildSlice 137 1 #[(0, t80)])) fun t81 =>
 shell_reader_numbers t12 t81 fun _ =>
 shell_reader_word t12 fun t85 =>
 nW 73 t18 3 52 t85 <|
 j1)
 (NilK t18 <|
 oR (vS (Instr.fieldAt 73 t18 2)) fun t31 =>
 oR (vS (Instr.buildSlice 137 1 #[(0, t31)])) fun t32 =>
 shell_reader_numbers t12 t32 fun _ =>
 j1)))))
 <|
 lR 75 x fun t89 =>
 shell_outText t89 fun t90 t90_1 =>
 DrawK fun S =>
 sR S (vS (Instr.loadAt 75 x)) fun t93 =>
 hB S 116 t12 1 4 fun t97 =>
 condK (!t97)
 (condK t90_1
 (qB (bS .eql 9 (.tmp 103) (.tmp 104) (.string t90) (.string s)) fun t105 =>
 sto 75 t2 t93 <|
 andK S <|
 rR (vS (do loadVar 75 (← asAddr t2))) fun u_6 =>
 K u_6 t105)
 (sto 75 t2 t93 <|
 andK S <|
 rR (vS (do loadVar 75 (← asAddr t2))) fun u_8 =>
 K u_8 false))
 (sto 75 t2 t93 <|
 andK S <|
 rR (vS (do loadVar 75 (← asAddr t2))) fun u_10 =>
 K u_10 false)
theorem shell_sent_ok {s : ByteArray} {K : Value → Bool → WP} (w : World) (h : shell_sent_sh s K w) : shell_sent s K w :=
  fn_ok cx_ok (hi := (.n .l (.n .l (.n .l (.n .l (.n .l (.n (.j [] .l) (.n .l (.n (.o (odR 0 16)) .l))))))))) (fn := Tryz.f36) Tryz.func36 (by kernel_rfl) h

/- tollhouse/shell.row -/
def shell_row_sh (s : ByteArray) (K : Value → Bool → WP) : WP :=
 oR (vS (Instr.alloc 78 true (.tuple #[]))) fun t2 =>
 strings_TrimSuffix s (⟨#[10]⟩ : ByteArray) fun t9 =>
 oR (vS (Instr.build 116 #[(0, (.string t9))])) fun t10 =>
 oR (vS (Instr.box 116 t10)) fun t11 =>
 shell_reader_place t11 (⟨#[32, 111, 112, 101, 110, 32, 100, 97, 116, 97, 32, 108, 101, 97, 118, 101, 32, 106, 111, 105, 110, 101, 100, 32, 102, 97, 105, 108, 101, 100, 32, 114, 101, 112, 108, 121, 32, 101, 110, 100, 101, 100, 32, 116, 105, 99, 107]⟩ : ByteArray) fun t13 =>
 oR (vS (Instr.build 78 #[(0, (.int .i64 t13))])) fun t14 =>
 oR (vS (Instr.alloc 78 true (.tuple #[]))) fun x =>
 sto 78 x t14 <|
 joinK [] (fun (j1 : WP) =>
 shell_reader_plain t11 fun t16 =>
 oB (bS .eql 9 (.tmp 16) (.const (.string (⟨#[101, 114, 114, 111, 114]⟩ : ByteArray))) (.string t16) (.string (⟨#[101, 114, 114, 111, 114]⟩ : ByteArray))) fun t17 =>
 condK t17
 (shell_reader_number t11 fun t19 =>
 fW 78 x 1 23 (.int .i64 t19) <|
 j1)
 (j1))
 <|
 lR 78 x fun t22 =>
 shell_rowText t22 fun t23 t23_1 =>
 DrawK fun S =>
 sR S (vS (Instr.loadAt 78 x)) fun t26 =>
 hB S 116 t11 1 4 fun t30 =>
 condK (!t30)
 (condK t23_1
 (qB (bS .eql 9 (.tmp 36) (.tmp 37) (.string t23) (.string s)) fun t38 =>
 sto 78 t2 t26 <|
 andK S <|
 rR (vS (do loadVar 78 (← asAddr t2))) fun u_3 =>
 K u_3 t38)
 (sto 78 t2 t26 <|
 andK S <|
 rR (vS (do loadVar 78 (← asAddr t2))) fun u_5 =>
 K u_5 false))
 (sto 78 t2 t26 <|
 andK S <|
 rR (vS (do loadVar 78 (← asAddr t2))) fun u_7 =>
 K u_7 false)
theorem shell_row_ok {s : ByteArray} {K : Value → Bool → WP} (w : World) (h : shell_row_sh s K w) : shell_row s K w :=
  fn_ok cx_ok (hi := (.n .l (.n .l (.n .l (.n (.j [] .l) (.n .l (.n (.o (odR 0 16)) .l))))))) (fn := Tryz.f37) Tryz.func37 (by kernel_rfl) h

/- tollhouse/tollhouseref31.Sent -/
def ref31_Sent_sh (s : ByteArray) (K : Int → Value → Bool → WP) : WP :=
 oR (vS (Instr.alloc 84 true (.tuple #[]))) fun t3 =>
 oR (vS (Instr.build 123 #[(0, (.string s))])) fun t11 =>
 oR (vS (Instr.box 123 t11)) fun t12 =>
 oR (vS (Instr.alloc 84 true (.tuple #[]))) fun o =>
 ref31_Reader_letters t12 fun t14 =>
 oB (bS .neq 9 (.tmp 14) (.const (.string (⟨#[62]⟩ : ByteArray))) (.string t14) (.string (⟨#[62]⟩ : ByteArray))) fun t15 =>
 condK t15
 (DrawK fun S =>
 sR S (vS (Instr.loadAt 84 o)) fun t16 =>
 sto 84 t3 t16 <|
 rR (vS (do loadVar 84 (← asAddr t3))) fun u_1 =>
 K 0 u_1 false)
 (ref31_Reader_number t12 fun t18 =>
 ref31_Reader_blank t12 fun _ =>
 ref31_Reader_letters t12 fun t22 =>
 loopK [(9, (.int .i64))] (fun (j1 : Int → WP) => j1 1) (fun (j2 : Int → WP) (k : Int) =>
 condK (decide (k ≤ 5))
 (ref31_Goes k fun t28 =>
 oB (bS .eql 9 (.tmp 28) (.tmp 29) (.string t28) (.string t22)) fun t30 =>
 condK t30
 (fW 84 o 0 3 (.int .i64 k) <|
 ArK .i64 (k + 1) fun t26 =>
 j2 t26)
 (ArK .i64 (k + 1) fun t26_1 =>
 j2 t26_1))
 (joinK [] (fun (j3 : WP) =>
 fI 84 o 0 3 .i64 fun t34 =>
 condK (t34 == 0)
 (DrawK fun S =>
 sR S (vS (Instr.loadAt 84 o)) fun t37 =>
 sto 84 t3 t37 <|
 rR (vS (do loadVar 84 (← asAddr t3))) fun u_4 =>
 K 0 u_4 false)
 (condK (t34 == 1)
 (ref31_Reader_number t12 fun t41 =>
 fW 84 o 1 3 (.int .i64 t41) <|
 ref31_Reader_word t12 fun t44 =>
 fW 84 o 3 52 t44 <|
 j3)
 (condK (t34 == 2)
 (ref31_Reader_number t12 fun t49 =>
 fW 84 o 1 3 (.int .i64 t49) <|
 j3)
 (condK (t34 == 3)
 (ref31_Reader_number t12 fun t54 =>
 fW 84 o 2 3 (.int .i64 t54) <|
 ref31_Reader_word t12 fun t57 =>
 oS (vS (convert 52 9 t57)) fun t58 =>
 fW 84 o 4 9 (.string t58) <|
 ref31_Reader_number t12 fun t61 =>
 fW 84 o 5 3 (.int .i64 t61) <|
 j3)
 (condK (t34 == 4)
 (ref31_Reader_number t12 fun t66 =>
 fW 84 o 2 3 (.int .i64 t66) <|
 ref31_Reader_word t12 fun t69 =>
 fW 84 o 3 52 t69 <|
 j3)
 (condK (t34 == 5)
 (ref31_Reader_number t12 fun t74 =>
 fW 84 o 2 3 (.int .i64 t74) <|
 j3)
 (j3)))))))
 <|
 DrawK fun S =>
 sR S (vS (Instr.loadAt 84 o)) fun t77 =>
 hB S 123 t12 1 4 fun t81 =>
 condK (!t81)
 (hS S 123 t12 0 9 fun t87 =>
 qB (bS .eql 9 (.tmp 87) (.const (.string (⟨#[]⟩ : ByteArray))) (.string t87) (.string (⟨#[]⟩ : ByteArray))) fun t88 =>
 sto 84 t3 t77 <|
 andK S <|
 rR (vS (do loadVar 84 (← asAddr t3))) fun u_15 =>
 K t18 u_15 t88)
 (sto 84 t3 t77 <|
 andK S <|
 rR (vS (do loadVar 84 (← asAddr t3))) fun u_17 =>
 K t18 u_17 false))))
theorem ref31_Sent_ok {s : ByteArray} {K : Int → Value → Bool → WP} (w : World) (h : ref31_Sent_sh s K w) : ref31_Sent s K w :=
  fn_ok cx_ok (hi := (.n .l (.n .l (.n .l (.n (.n .l (.n (.n (.o (odR 0 4)) .l) .l)) (.n .l (.n .l (.n .l (.n (.n .l (.n (.p [(9, (.int .i64))] .l) .l)) (.n (.j [] (.n .l (.n (.n .l (.n (.n (.o (odR 0 4)) .l) .l)) .l))) (.n (.o (odR 0 17)) .l))))))))))) (fn := Tryz.f38) Tryz.func38 (by kernel_rfl) h

/- tollhouse/tollhouseref31.Row -/
def ref31_Row_sh (s : ByteArray) (K : Value → Bool → WP) : WP :=
 oR (vS (Instr.alloc 83 true (.tuple #[]))) fun t2 =>
 oR (vS (Instr.build 123 #[(0, (.string s))])) fun t8 =>
 oR (vS (Instr.box 123 t8)) fun t9 =>
 ref31_Reader_kind t9 fun t11 =>
 oR (vS (Instr.build 83 #[(0, (.int .i64 t11))])) fun t12 =>
 oR (vS (Instr.alloc 83 true (.tuple #[]))) fun x =>
 sto 83 x t12 <|
 ref31_Reader_blank t9 fun _ =>
 ref31_Reader_letters t9 fun t16 =>
 oB (bS .eql 9 (.tmp 17) (.const (.string (⟨#[101, 114, 114, 111, 114]⟩ : ByteArray))) (.string t16) (.string (⟨#[101, 114, 114, 111, 114]⟩ : ByteArray))) fun t18 =>
 condK t18
 (ref31_Reader_number t9 fun t20 =>
 fW 83 x 1 3 (.int .i64 t20) <|
 joinK [(3, .bool)] (fun (j1 : Bool → WP) =>
 DrawK fun S =>
 sR S (vS (Instr.loadAt 83 x)) fun t22 =>
 hB S 123 t9 1 4 fun t26 =>
 condK (!t26)
 (hS S 123 t9 0 9 fun t32 =>
 qB (bS .eql 9 (.tmp 32) (.const (.string (⟨#[]⟩ : ByteArray))) (.string t32) (.string (⟨#[]⟩ : ByteArray))) fun t33 =>
 condK t33
 (gI S 83 x 1 3 .i64 fun t37 =>
 sto 83 t2 t22 <|
 andK S <|
 j1 (t37 != 0))
 (sto 83 t2 t22 <|
 andK S <|
 j1 false))
 (sto 83 t2 t22 <|
 andK S <|
 j1 false))
 fun t3 =>
 rR (vS (do loadVar 83 (← asAddr t2))) fun u_5 =>
 K u_5 t3)
 (DrawK fun S =>
 sR S (vS (Instr.loadAt 83 x)) fun t40 =>
 qB (bS .eql 9 (.tmp 41) (.const (.string (⟨#[111, 107]⟩ : ByteArray))) (.string t16) (.string (⟨#[111, 107]⟩ : ByteArray))) fun t42 =>
 condK t42
 (hB S 123 t9 1 4 fun t47 =>
 condK (!t47)
 (hS S 123 t9 0 9 fun t54 =>
 qB (bS .eql 9 (.tmp 54) (.const (.string (⟨#[]⟩ : ByteArray))) (.string t54) (.string (⟨#[]⟩ : ByteArray))) fun t55 =>
 sto 83 t2 t40 <|
 andK S <|
 rR (vS (do loadVar 83 (← asAddr t2))) fun u_7 =>
 K u_7 t55)
 (sto 83 t2 t40 <|
 andK S <|
 rR (vS (do loadVar 83 (← asAddr t2))) fun u_9 =>
 K u_9 false))
 (sto 83 t2 t40 <|
 andK S <|
 rR (vS (do loadVar 83 (← asAddr t2))) fun u_11 =>
 K u_11 false))
theorem ref31_Row_ok {s : ByteArray} {K : Value → Bool → WP} (w : World) (h : ref31_Row_sh s K w) : ref31_Row s K w :=
  fn_ok cx_ok (hi := (.n .l (.n .l (.n .l (.n .l (.n .l (.n (.n .l (.n (.n .l (.n (.j [(3, .bool)] (.o (odR 0 20))) .l)) .l)) (.n (.o (odR 0 19)) .l)))))))) (fn := Tryz.f39) Tryz.func39 (by kernel_rfl) h

/- tollhouse/tollhouseref28.Same -/
def ref28_Same_sh (a : Value) (b : Value) (K : Bool → WP) : WP :=
 oR (vS (Instr.box 83 a)) fun a_1 =>
 oR (vS (Instr.box 83 b)) fun b_1 =>
 joinK [(34, .bool)] (fun (j1 : Bool → WP) =>
 fI 83 a_1 0 3 .i64 fun t7 =>
 fI 83 b_1 0 3 .i64 fun t9 =>
 condK (t7 != t9)
 (j1 true)
 (fI 83 a_1 1 3 .i64 fun t13 =>
 fI 83 b_1 1 3 .i64 fun t15 =>
 condK (t13 != t15)
 (j1 true)
 (fR 83 a_1 2 80 fun t20 =>
 len 80 3 t20 fun t21 =>
 fR 83 b_1 2 80 fun t23 =>
 len 80 3 t23 fun t24 =>
 condK (t21 != t24)
 (j1 true)
 (fR 83 a_1 3 81 fun t29 =>
 fR 83 b_1 3 81 fun t31 =>
 ref27_Same t29 t31 fun t32 =>
 j1 (!t32)))))
 fun t34 =>
 condK t34
 (K false)
 (loopK [(5, (.int .i64))] (fun (j2 : Int → WP) => j2 0) (fun (j3 : Int → WP) (i : Int) =>
 fR 83 a_1 2 80 fun t37 =>
 len 80 3 t37 fun t38 =>
 condK (decide (i < t38))
 (DrawK fun S =>
 gR S 83 a_1 2 80 fun t43 =>
 jI S 80 t43 .i64 i 3 .i64 fun t46 =>
 gR S 83 b_1 2 80 fun t48 =>
 jI S 80 t48 .i64 i 3 .i64 fun t51 =>
 condK (t46 != t51)
 (K false)
 (ArK .i64 (i + 1) fun t41 =>
 j3 t41))
 (K true)))
theorem ref28_Same_ok {a : Value} {b : Value} {K : Bool → WP} (w : World) (h : ref28_Same_sh a b K w) : ref28_Same a b K w :=
  fn_ok cx_ok (hi := (.n .l (.n (.n (.j [(34, .bool)] .l) .l) (.n (.n .l (.n (.p [(5, (.int .i64))] (.n .l (.n (.n (.n (.o (odR 0 11)) .l) .l) .l))) .l)) .l)))) (fn := Tryz.f40) Tryz.func40 (by kernel_rfl) h

/- tollhouse/shell.name -/
def shell_name_sh (names : ByteArray) (at_ : Int) (K : ByteArray → WP) : WP :=
 strings_Split names (⟨#[32]⟩ : ByteArray) fun t7 =>
 condK (decide (at_ < 1))
 (K (⟨#[]⟩ : ByteArray))
 (len 65 3 t7 fun t13 =>
 condK (decide (at_ ≥ t13))
 (K (⟨#[]⟩ : ByteArray))
 (iS 65 t7 .i64 at_ 9 fun t19 =>
 K t19))
theorem shell_name_ok {names : ByteArray} {at_ : Int} {K : ByteArray → WP} (w : World) (h : shell_name_sh names at_ K w) : shell_name names at_ K w :=
  fn_ok cx_ok (hi := .l) (fn := Tryz.f44) Tryz.func44 (by kernel_rfl) h

/- tollhouse/shell.line -/
def shell_line_sh (parts : Value) (K : ByteArray → WP) : WP :=
 strings_Join parts (⟨#[32]⟩ : ByteArray) fun t4 =>
 oS (bS .add 9 (.tmp 4) (.const (.string (⟨#[10]⟩ : ByteArray))) (.string t4) (.string (⟨#[10]⟩ : ByteArray))) fun t5 =>
 K t5
theorem shell_line_ok {parts : Value} {K : ByteArray → WP} (w : World) (h : shell_line_sh parts K w) : shell_line parts K w :=
  fn_ok cx_ok (hi := .l) (fn := Tryz.f45) Tryz.func45 (by kernel_rfl) h

/- tollhouse/shell.num -/
def shell_num_sh (n : Int) (K : ByteArray → WP) : WP :=
 strconv_Itoa n fun t4 =>
 K t4
theorem shell_num_ok {n : Int} {K : ByteArray → WP} (w : World) (h : shell_num_sh n K w) : shell_num n K w :=
  fn_ok cx_ok (hi := .l) (fn := Tryz.f46) Tryz.func46 (by kernel_rfl) h

/- tollhouse/tollhouseref31.Kind -/
def ref31_Kind_sh (n : Int) (K : ByteArray → WP) : WP :=
 oR (vS (Instr.build 134 #[(0, (.string (⟨#[]⟩ : ByteArray))), (1, (.string (⟨#[111, 112, 101, 110]⟩ : ByteArray))), (2, (.string (⟨#[100, 97, 116, 97]⟩ : ByteArray))), (3, (.string (⟨#[108, 101, 97, 118, 101]⟩ : ByteArray))), (4, (.string (⟨#[106, 111, 105, 110, 101, 100]⟩ : ByteArray))), (5, (.string (⟨#[102, 97, 105, 108, 101, 100]⟩ : ByteArray))), (6, (.string (⟨#[114, 101, 112, 108, 121]⟩ : ByteArray))), (7, (.string (⟨#[101, 110, 100, 101, 100]⟩ : ByteArray))), (8, (.string (⟨#[116, 105, 99, 107]⟩ : ByteArray)))])) fun t4 =>
 oR (vS (Instr.alloc 134 true (.tuple #[]))) fun l =>
 sto 134 l t4 <|
 condK (decide (n < 1))
 (K (⟨#[]⟩ : ByteArray))
 (condK (decide (n > 8))
 (K (⟨#[]⟩ : ByteArray))
 (iS 134 l .i64 n 9 fun t13 =>
 K t13))
theorem ref31_Kind_ok {n : Int} {K : ByteArray → WP} (w : World) (h : ref31_Kind_sh n K w) : ref31_Kind n K w :=
  fn_ok cx_ok (hi := .l) (fn := Tryz.f47) Tryz.func47 (by kernel_rfl) h

/- tollhouse/tollhouseref31.Number -/
def ref31_Number_sh (n : Int) (K : ByteArray → WP) : WP :=
 oI .u64 (vS (convert 3 135 (.int .i64 n))) fun t6 =>
 joinK [(3, (.int .u64))] (fun (j1 : Int → WP) =>
 condK (decide (n < 0))
 (ArK .u64 (0 - t6) fun t10 =>
 j1 t10)
 (j1 t6))
 fun u =>
 oI .u64 (bS .rem 135 (.tmp 11) (.const (.int .u64 10)) (.int .u64 u) (.int .u64 10)) fun t12 =>
 ArK .u64 (48 + t12) fun t13 =>
 oI .u8 (vS (convert 135 5 (.int .u64 t13))) fun t14 =>
 oR (vS (Instr.buildSlice 52 1 #[(0, (.int .u8 t14))])) fun t15 =>
 oS (vS (convert 52 9 t15)) fun t16 =>
 loopK [(3, (.int .u64)), (4, .str)] (fun (j2 : Int → ByteArray → WP) => j2 u t16) (fun (j3 : Int → ByteArray → WP) (u_1 : Int) (s : ByteArray) =>
 condK (decide (u_1 > 9))
 (oI .u64 (bS .quo 135 (.tmp 19) (.const (.int .u64 10)) (.int .u64 u_1) (.int .u64 10)) fun t20 =>
 oI .u64 (bS .rem 135 (.tmp 21) (.const (.int .u64 10)) (.int .u64 t20) (.int .u64 10)) fun t22 =>
 ArK .u64 (48 + t22) fun t23 =>
 oI .u8 (vS (convert 135 5 (.int .u64 t23))) fun t24 =>
 oR (vS (Instr.buildSlice 52 1 #[(0, (.int .u8 t24))])) fun t25 =>
 oS (vS (convert 52 9 t25)) fun t26 =>
 oS (bS .add 9 (.tmp 26) (.tmp 27) (.string t26) (.string s)) fun t28 =>
 j3 t20 t28)
 (condK (decide (n < 0))
 (oS (bS .add 9 (.const (.string (⟨#[45]⟩ : ByteArray))) (.tmp 31) (.string (⟨#[45]⟩ : ByteArray)) (.string s)) fun t32 =>
 K t32)
 (K s)))
theorem ref31_Number_ok {n : Int} {K : ByteArray → WP} (w : World) (h : ref31_Number_sh n K w) : ref31_Number n K w :=
  fn_ok cx_ok (hi := (.n .l (.n .l (.n (.j [(3, (.int .u64))] .l) (.n .l (.n (.n (.p [(3, (.int .u64)), (4, .str)] .l) .l) .l)))))) (fn := Tryz.f48) Tryz.func48 (by kernel_rfl) h

/- tollhouse/tollhouseref31.Quote -/
def ref31_Quote_sh (b : Value) (K : ByteArray → WP) : WP :=
 oR (vS (Instr.buildSlice 52 1 #[(0, (.int .u8 34))])) fun t7 =>
 loopK [(4, .raw), (5, (.int .i64))] (fun (j1 : Value → Int → WP) => j1 t7 0) (fun (j2 : Value → Int → WP) (out : Value) (i : Int) =>
 len 52 3 b fun t10 =>
 condK (decide (i < t10))
 (iI 52 b .i64 i 5 .u8 fun t17 =>
 joinK [(23, .bool)] (fun (j3 : Bool → WP) =>
 condK (decide (t17 < 32))
 (j3 true)
 (j3 (decide (t17 > 126))))
 fun t23 =>
 condK t23
 (DrawK fun S =>
 qI .u8 (bS .quo 5 (.tmp 26) (.const (.int .u8 16)) (.int .u8 t17) (.int .u8 16)) fun t27 =>
 qI .u8 (vS (Instr.index 9 (.string (⟨#[48, 49, 50, 51, 52, 53, 54, 55, 56, 57, 97, 98, 99, 100, 101, 102]⟩ : ByteArray)) (.int .u8 t27))) fun t28 =>
 qI .u8 (bS .rem 5 (.tmp 30) (.const (.int .u8 16)) (.int .u8 t17) (.int .u8 16)) fun t31 =>
 qI .u8 (vS (Instr.index 9 (.string (⟨#[48, 49, 50, 51, 52, 53, 54, 55, 56, 57, 97, 98, 99, 100, 101, 102]⟩ : ByteArray)) (.int .u8 t31))) fun t32 =>
 oR (vS (Instr.buildSlice 52 4 #[(0, (.int .u8 92)), (1, (.int .u8 120)), (2, (.int .u8 t28)), (3, (.int .u8 t32))])) fun t33 =>
 app 52 52 52 out t33 fun t34 =>
 ArK .i64 (i + 1) fun t13 =>
 j2 t34 t13)
 (joinK [(40, .bool)] (fun (j4 : Bool → WP) =>
 condK (t17 == 34)
 (j4 true)
 (j4 (t17 == 92)))
 fun t40 =>
 condK t40
 (oR (vS (Instr.buildSlice 52 1 #[(0, (.int .u8 92))])) fun t42 =>
 app 52 52 52 out t42 fun t43 =>
 oR (vS (Instr.buildSlice 52 1 #[(0, (.int .u8 t17))])) fun t46 =>
 app 52 52 52 t43 t46 fun t47 =>
 ArK .i64 (i + 1) fun t13_1 =>
 j2 t47 t13_1)
 (oR (vS (Instr.buildSlice 52 1 #[(0, (.int .u8 t17))])) fun t46_1 =>
 app 52 52 52 out t46_1 fun t47_1 =>
 ArK .i64 (i + 1) fun t13_2 =>
 j2 t47_1 t13_2)))
 (oR (vS (Instr.buildSlice 52 1 #[(0, (.int .u8 34))])) fun t49 =>
 app 52 52 52 out t49 fun t50 =>
 oS (vS (convert 52 9 t50)) fun t51 =>
 K t51))
theorem ref31_Quote_ok {b : Value} {K : ByteArray → WP} (w : World) (h : ref31_Quote_sh b K w) : ref31_Quote b K w :=
  fn_ok cx_ok (hi := (.n .l (.n .l (.n .l (.n (.n .l (.n (.p [(4, .raw), (5, (.int .i64))] (.n .l (.n (.n (.n .l (.n (.n (.j [(23, .bool)] .l) (.n (.n (.o (odR 0 12)) .l) .l)) (.n (.n (.j [(40, .bool)] .l) .l) .l))) .l) .l))) .l)) .l))))) (fn := Tryz.f49) Tryz.func49 (by kernel_rfl) h

/- strings.Lines$1 -/
def strings_Lines_c1_sh (yield : Value) (t1 : Value) (K : Value → WP) : WP :=
 loopK [] (fun (j1 : WP) => j1) (fun (j2 : WP) =>
 lS 9 t1 fun t5 =>
 len 9 3 (.string t5) fun t6 =>
 condK (decide (t6 > 0))
 (lS 9 t1 fun t8 =>
 strings_IndexByte t8 10 fun t9 =>
 condK (decide (t9 ≥ 0))
 (DrawK fun S =>
 sS S (vS (Instr.loadAt 9 t1)) fun t12 =>
 ArK .i64 (t9 + 1) fun t14 =>
 qS (vS (Instr.sliceAt 9 (.string t12) none (some (.int .i64 t14)) none)) fun t15 =>
 sS S (vS (Instr.loadAt 9 t1)) fun t16 =>
 ArK .i64 (t9 + 1) fun t18 =>
 qS (vS (Instr.sliceAt 9 (.string t16) (some (.int .i64 t18)) none none)) fun t19 =>
 sto 9 t1 (.string t19) <|
 oB (callS yield #[(.string t15)]) fun t23 =>
 condK (!t23)
 (K (.tuple #[]))
 (j2))
 (lS 9 t1 fun t20 =>
 sto 9 t1 (.string (⟨#[]⟩ : ByteArray)) <|
 oB (callS yield #[(.string t20)]) fun t23_1 =>
 condK (!t23_1)
 (K (.tuple #[]))
 (j2)))
 (K (.tuple #[])))
theorem strings_Lines_c1_ok {yield : Value} {t1 : Value} {K : Value → WP} (w : World) (h : strings_Lines_c1_sh yield t1 K w) : strings_Lines_c1 yield t1 K w :=
  fn_ok cx_ok (hi := (.n (.p [] (.n .l (.n (.n .l (.n (.n .l (.n .l (.n (.o (odR 0 10)) .l))) .l)) .l))) .l)) (fn := Tryz.f50) Tryz.func50 (by kernel_rfl) h

/- (*tollhouse/shell.reader).place -/
def shell_reader_place_sh (r : Value) (names : ByteArray) (K : Int → WP) : WP :=
 strings_Split names (⟨#[32]⟩ : ByteArray) fun t7 =>
 shell_reader_plain r fun t9 =>
 slices_Index_string t7 t9 fun t10 =>
 nB 116 r 1 4 fun t15 =>
 condK t15
 (nW 116 r 1 4 (.bool true) <|
 K t10)
 (nW 116 r 1 4 (.bool (decide (t10 < 1))) <|
 K t10)
theorem shell_reader_place_ok {r : Value} {names : ByteArray} {K : Int → WP} (w : World) (h : shell_reader_place_sh r names K w) : shell_reader_place r names K w :=
  fn_ok cx_ok (hi := .l) (fn := Tryz.f53) Tryz.func53 (by kernel_rfl) h

/- (*tollhouse/shell.reader).numbers -/
def shell_reader_numbers_sh (r : Value) (l : Value) (K : Value → WP) : WP :=
 len 137 3 l fun t10 =>
 loopK [(11, (.int .i64))] (fun (j1 : Int → WP) => j1 0) (fun (j2 : Int → WP) (t11 : Int) =>
 condK (decide (t11 < t10))
 (iR 137 l .i64 t11 119 fun t14 =>
 oI .i64 (callS (.func (.func 64) #[r] #[]) #[]) fun t17 =>
 NilK t14 <|
 sto 3 t14 (.int .i64 t17) <|
 ArK .i64 (t11 + 1) fun t19 =>
 j2 t19)
 (K (.tuple #[])))
theorem shell_reader_numbers_ok {r : Value} {l : Value} {K : Value → WP} (w : World) (h : shell_reader_numbers_sh r l K w) : shell_reader_numbers r l K w :=
  fn_ok cx_ok (hi := (.n .l (.n .l (.n (.p [(11, (.int .i64))] .l) .l)))) (fn := Tryz.f54) Tryz.func54 (by kernel_rfl) h

/- (*tollhouse/shell.reader).word -/
def shell_reader_word_sh (r : Value) (K : Value → WP) : WP :=
 nS 116 r 0 9 fun t10 =>
 shell_Unquote t10 fun t11 t11_1 t11_2 =>
 nB 116 r 1 4 fun t19 =>
 condK t19
 (nW 116 r 1 4 (.bool true) <|
 strings_TrimPrefix t11_1 (⟨#[32]⟩ : ByteArray) fun t28 =>
 nW 116 r 0 9 (.string t28) <|
 K t11)
 (nW 116 r 1 4 (.bool (!t11_2)) <|
 strings_TrimPrefix t11_1 (⟨#[32]⟩ : ByteArray) fun t28_1 =>
 nW 116 r 0 9 (.string t28_1) <|
 K t11)
theorem shell_reader_word_ok {r : Value} {K : Value → WP} (w : World) (h : shell_reader_word_sh r K w) : shell_reader_word r K w :=
  fn_ok cx_ok (hi := .l) (fn := Tryz.f55) Tryz.func55 (by kernel_rfl) h

/- (*tollhouse/tollhouseref31.Reader).kind -/
def ref31_Reader_kind_sh (r : Value) (K : Int → WP) : WP :=
 ref31_Reader_letters r fun t6 =>
 loopK [(4, (.int .i64))] (fun (j1 : Int → WP) => j1 1) (fun (j2 : Int → WP) (k : Int) =>
 condK (decide (k ≤ 8))
 (ref31_Kind k fun t12 =>
 oB (bS .eql 9 (.tmp 12) (.tmp 13) (.string t12) (.string t6)) fun t14 =>
 condK t14
 (K k)
 (ArK .i64 (k + 1) fun t10 =>
 j2 t10))
 (nW 123 r 1 4 (.bool true) <|
 K 0))
theorem ref31_Reader_kind_ok {r : Value} {K : Int → WP} (w : World) (h : ref31_Reader_kind_sh r K w) : ref31_Reader_kind r K w :=
  fn_ok cx_ok (hi := (.n .l (.n .l (.n (.n .l (.n (.p [(4, (.int .i64))] .l) .l)) .l)))) (fn := Tryz.f56) Tryz.func56 (by kernel_rfl) h

/- (*tollhouse/tollhouseref31.Reader).number -/
def ref31_Reader_number_sh (r : Value) (K : Int → WP) : WP :=
 ref31_Reader_blank r fun _ =>
 ref31_Reader_letters r fun t11 =>
 joinK [(4, .str)] (fun (j1 : ByteArray → WP) =>
 len 9 3 (.string t11) fun t14 =>
 condK (decide (t14 > 0))
 (oI .u8 (vS (Instr.index 9 (.string t11) (.int .i64 0))) fun t18 =>
 condK (t18 == 45)
 (oS (vS (Instr.sliceAt 9 (.string t11) (some (.int .i64 1)) none none)) fun t22 =>
 j1 t22)
 (j1 t11))
 (j1 t11))
 fun d =>
 joinK [(30, .bool)] (fun (j2 : Bool → WP) =>
 len 9 3 (.string d) fun t24 =>
 condK (t24 == 0)
 (j2 true)
 (len 9 3 (.string d) fun t28 =>
 j2 (decide (t28 > 19))))
 fun t30 =>
 condK t30
 (nW 123 r 1 4 (.bool true) <|
 K 0)
 (loopK [(5, (.int .u64)), (6, (.int .i64))] (fun (j3 : Int → Int → WP) => j3 0 0) (fun (j4 : Int → Int → WP) (u_1 : Int) (i : Int) =>
 len 9 3 (.string d) fun t36 =>
 condK (decide (i < t36))
 (joinK [(49, .bool)] (fun (j5 : Bool → WP) =>
 oI .u8 (vS (Instr.index 9 (.string d) (.int .i64 i))) fun t42 =>
 condK (decide (t42 < 48))
 (j5 true)
 (oI .u8 (vS (Instr.index 9 (.string d) (.int .i64 i))) fun t47 =>
 j5 (decide (t47 > 57))))
 fun t49 =>
 condK t49
 (nW 123 r 1 4 (.bool true) <|
 K 0)
 (ArK .u64 (10 * u_1) fun t54 =>
 oI .u8 (vS (Instr.index 9 (.string d) (.int .i64 i))) fun t57 =>
 ArK .u8 (t57 - 48) fun t58 =>
 oI .u64 (vS (convert 5 135 (.int .u8 t58))) fun t59 =>
 ArK .u64 (t54 + t59) fun t60 =>
 ArK .i64 (i + 1) fun t39 =>
 j4 t60 t39))
 (oI .i64 (vS (convert 135 3 (.int .u64 u_1))) fun t62 =>
 joinK [(7, (.int .i64))] (fun (j6 : Int → WP) =>
 len 9 3 (.string d) fun t64 =>
 len 9 3 (.string t11) fun t66 =>
 condK (decide (t64 < t66))
 (ArK .u64 (0 - u_1) fun t69 =>
 oI .i64 (vS (convert 135 3 (.int .u64 t69))) fun t70 =>
 j6 t70)
 (j6 t62))
 fun n =>
 ref31_Number n fun t72 =>
 oB (bS .neq 9 (.tmp 72) (.tmp 73) (.string t72) (.string t11)) fun t74 =>
 condK t74
 (nW 123 r 1 4 (.bool true) <|
 K n)
 (K n))))
theorem ref31_Reader_number_ok {r : Value} {K : Int → WP} (w : World) (h : ref31_Reader_number_sh r K w) : ref31_Reader_number r K w :=
  fn_ok cx_ok (hi := (.n .l (.n .l (.n .l (.n .l (.n (.j [(4, .str)] .l) (.n (.n (.j [(30, .bool)] .l) .l) (.n .l (.n (.n .l (.n (.p [(5, (.int .u64)), (6, (.int .i64))] (.n .l (.n (.n (.n (.n (.j [(49, .bool)] .l) .l) .l) .l) .l))) .l)) (.n .l (.n (.j [(7, (.int .i64))] .l) .l))))))))))) (fn := Tryz.f57) Tryz.func57 (by kernel_rfl) h

/- (*tollhouse/tollhouseref31.Reader).word -/
def ref31_Reader_word_sh (r : Value) (K : Value → WP) : WP :=
 ref31_Reader_blank r fun _ =>
 nS 123 r 0 9 fun t12 =>
 ref31_Unquote t12 fun t13 t13_1 t13_2 =>
 condK (!t13_2)
 (nW 123 r 1 4 (.bool true) <|
 nW 123 r 0 9 (.string t13_1) <|
 K t13)
 (nW 123 r 0 9 (.string t13_1) <|
 K t13)
theorem ref31_Reader_word_ok {r : Value} {K : Value → WP} (w : World) (h : ref31_Reader_word_sh r K w) : ref31_Reader_word r K w :=
  fn_ok cx_ok (hi := .l) (fn := Tryz.f58) Tryz.func58 (by kernel_rfl) h

/- tollhouse/shell.outText -/
def shell_outText_sh (s : Value) (K : ByteArray → Bool → WP) : WP :=
 oR (vS (Instr.box 75 s)) fun s_1 =>
 fR 75 s_1 1 73 fun t8 =>
 oR (vS (Instr.alloc 73 true (.tuple #[]))) fun o =>
 sto 73 o t8 <|
 fI 73 o 0 3 .i64 fun t10 =>
 shell_name (⟨#[32, 99, 108, 105, 101, 110, 116, 32, 115, 104, 117, 116, 32, 106, 111, 105, 110, 32, 111, 114, 105, 103, 105, 110, 32, 101, 110, 100]⟩ : ByteArray) t10 fun t11 =>
 joinK [(6, .bool)] (fun (j1 : Bool → WP) =>
 DrawK fun S =>
 qB (bS .neq 9 (.tmp 12) (.const (.string (⟨#[]⟩ : ByteArray))) (.string t11) (.string (⟨#[]⟩ : ByteArray))) fun t13 =>
 condK t13
 (sR S (vS (Instr.loadAt 73 o)) fun t15 =>
 sR S (vS (Instr.loadAt 73 o)) fun t17 =>
 shell_bare t15 fun t16 =>
 andK S <|
 shell_same t16 t17 fun t18 =>
 andK S <|
 j1 t18)
 (j1 false))
 fun ok =>
 fI 73 o 0 3 .i64 fun t21 =>
 condK (t21 == 1)
 (DrawK fun S =>
 gI S 75 s_1 0 3 .i64 fun t25 =>
 gI S 73 o 1 3 .i64 fun t29 =>
 gR S 73 o 3 52 fun t32 =>
 shell_num t25 fun t26 =>
 andK S <|
 shell_num t29 fun t30 =>
 andK S <|
 shell_Quote t32 fun t33 =>
 andK S <|
 oR (vS (Instr.buildSlice 65 5 #[(0, (.string (⟨#[62]⟩ : ByteArray))), (1, (.string t26)), (2, (.string t11)), (3, (.string t30)), (4, (.string t33))])) fun t34 =>
 andK S <|
 shell_line t34 fun t35 =>
 andK S <|
 K t35 ok)
 (condK (t21 == 2)
 (DrawK fun S =>
 gI S 75 s_1 0 3 .i64 fun t40 =>
 gI S 73 o 1 3 .i64 fun t44 =>
 shell_num t40 fun t41 =>
 andK S <|
 shell_num t44 fun t45 =>
 andK S <|
 oR (vS (Instr.buildSlice 65 4 #[(0, (.string (⟨#[62]⟩ : ByteArray))), (1, (.string t41)), (2, (.string t11)), (3, (.string t45))])) fun t46 =>
 andK S <|
 shell_line t46 fun t47 =>
 andK S <|
 K t47 ok)
 (condK (t21 == 3)
 (DrawK fun S =>
 gI S 75 s_1 0 3 .i64 fun t52 =>
 gI S 73 o 2 3 .i64 fun t56 =>
 gS S 73 o 4 9 fun t59 =>
 gI S 73 o 5 3 .i64 fun t63 =>
 andK (shell_num t52 fun t53 =>
 andK S <|
 andK (shell_num t56 fun t57 =>
 andK S <|
 oR (vS (convert 9 52 (.string t59))) fun t60 =>
 andK S <|
 shell_Quote t60 fun t61 =>
 andK S <|
 shell_num t63 fun t64 =>
 andK S <|
 oR (vS (Instr.buildSlice 65 6 #[(0, (.string (⟨#[62]⟩ : ByteArray))), (1, (.string t53)), (2, (.string t11)), (3, (.string t57)), (4, (.string t61)), (5, (.string t64))])) fun t65 =>
 andK S <|
 shell_line t65 fun t66 =>
 andK S <|
 K t66 ok)
 (oR (vS (convert 9 52 (.string t59))) fun t60_1 =>
 andK S <|
 shell_num t56 fun t57_1 =>
 andK S <|
 shell_Quote t60_1 fun t61_1 =>
 andK S <|
 shell_num t63 fun t64_1 =>
 andK S <|
 oR (vS (Instr.buildSlice 65 6 #[(0, (.string (⟨#[62]⟩ : ByteArray))), (1, (.string t53)), (2, (.string t11)), (3, (.string t57_1)), (4, (.string t61_1)), (5, (.string t64_1))])) fun t65_1 =>
 andK S <|
 shell_line t65_1 fun t66_1 =>
 andK S <|
 K t66_1 ok))
 (oR (vS (convert 9 52 (.string t59))) fun t60_2 =>
 andK S <|
 shell_num t52 fun t53_1 =>
 andK S <|
 shell_num t56 fun t57_2 =>
 andK S <|
 shell_Quote t60_2 fun t61_2 =>
 andK S <|
 shell_num t63 fun t64_2 =>
 andK S <|
 oR (vS (Instr.buildSlice 65 6 #[(0, (.string (⟨#[62]⟩ : ByteArray))), (1, (.string t53_1)), (2, (.string t11)), (3, (.string t57_2)), (4, (.string t61_2)), (5, (.string t64_2))])) fun t65_2 =>
 andK S <|
 shell_line t65_2 fun t66_2 =>
 andK S <|
 K t66_2 ok))
 (condK (t21 == 4)
 (DrawK fun S =>
 gI S 75 s_1 0 3 .i64 fun t71 =>
 gI S 73 o 2 3 .i64 fun t75 =>
 gR S 73 o 3 52 fun t78 =>
 shell_num t71 fun t72 =>
 andK S <|
 shell_num t75 fun t76 =>
 andK S <|
 shell_Quote t78 fun t79 =>
 andK S <|
 oR (vS (Instr.buildSlice 65 5 #[(0, (.string (⟨#[62]⟩ : ByteArray))), (1, (.string t72)), (2, (.string t11)), (3, (.string t76)), (4, (.string t79))])) fun t80 =>
 andK S <|
 shell_line t80 fun t81 =>
 andK S <|
 K t81 ok)
 (DrawK fun S =>
 gI S 75 s_1 0 3 .i64 fun t84 =>
 gI S 73 o 2 3 .i64 fun t88 =>
 shell_num t84 fun t85 =>
 andK S <|
 shell_num t88 fun t89 =>
 andK S <|
 oR (vS (Instr.buildSlice 65 4 #[(0, (.string (⟨#[62]⟩ : ByteArray))), (1, (.string t85)), (2, (.string t11)), (3, (.string t89))])) fun t90 =>
 andK S <|
 shell_line t90 fun t91 =>
 andK S <|
 K t91 ok))))
theorem shell_outText_ok {s : Value} {K : ByteArray → Bool → WP} (w : World) (h : shell_outText_sh s K w) : shell_outText s K w :=
  fn_ok cx_ok (hi := (.n .l (.n .l (.n .l (.n (.j [(6, .bool)] (.o (odL [0, 1, 2, 3, 5, 4, 6, 7, 8]))) (.n (.n .l (.n (.n .l (.n (.n (.o (odL [0, 1, 3, 4, 5, 7, 8, 12, 2, 6, 9, 10, 11, 13, 14])) .l) (.n .l (.n (.n (.o (odL [0, 1, 3, 4, 5, 9, 2, 6, 7, 8, 10, 11])) .l) (.n .l (.n (.n (.o (.cons 0 (.cons 1 (.cons 3 (.cons 4 (.cons 5 (.cons 7 (.cons 8 (.cons 11 (.cons 12 (.cons 16 (.two 2 9 (.two 6 9 (odL [9, 10, 13, 14, 15, 17, 18]) (odL [6, 10, 13, 14, 15, 17, 18])) (odL [2, 6, 10, 13, 14, 15, 17, 18]))))))))))))) .l) (.n .l (.n (.n (.o (odL [0, 1, 3, 4, 5, 7, 8, 12, 2, 6, 9, 10, 11, 13, 14])) .l) .l)))))))) .l)) (.n (.o (odL [0, 1, 3, 4, 5, 9, 2, 6, 7, 8, 10, 11])) .l))))))) (fn := Tryz.f59) Tryz.func59 (by kernel_rfl) h

/- tollhouse/tollhouseref31.OutLine -/
def ref31_OutLine_sh (whose : Int) (o : Value) (K : ByteArray → Bool → WP) : WP :=
 oR (vS (Instr.box 84 o)) fun o_1 =>
 fI 84 o_1 0 3 .i64 fun t9 =>
 ref31_Goes t9 fun t10 =>
 oB (bS .eql 9 (.tmp 11) (.const (.string (⟨#[]⟩ : ByteArray))) (.string t10) (.string (⟨#[]⟩ : ByteArray))) fun t12 =>
 condK t12
 (K (⟨#[]⟩ : ByteArray) false)
 (ref31_Number whose fun t14 =>
 oS (bS .add 9 (.const (.string (⟨#[62, 32]⟩ : ByteArray))) (.tmp 14) (.string (⟨#[62, 32]⟩ : ByteArray)) (.string t14)) fun t15 =>
 oS (bS .add 9 (.tmp 15) (.const (.string (⟨#[32]⟩ : ByteArray))) (.string t15) (.string (⟨#[32]⟩ : ByteArray))) fun t16 =>
 oS (bS .add 9 (.tmp 16) (.tmp 17) (.string t16) (.string t10)) fun t18 =>
 oS (bS .add 9 (.tmp 18) (.const (.string (⟨#[32]⟩ : ByteArray))) (.string t18) (.string (⟨#[32]⟩ : ByteArray))) fun t19 =>
 fI 84 o_1 0 3 .i64 fun t21 =>
 condK (t21 == 1)
 (joinK [(4, .str), (5, .bool)] (fun (j1 : ByteArray → Bool → WP) =>
 DrawK fun S =>
 gI S 84 o_1 1 3 .i64 fun t26 =>
 gR S 84 o_1 3 52 fun t31 =>
 gI S 84 o_1 2 3 .i64 fun t35 =>
 ref31_Number t26 fun t27 =>
 andK S <|
 qS (bS .add 9 (.tmp 24) (.tmp 27) (.string t19) (.string t27)) fun t28 =>
 qS (bS .add 9 (.tmp 28) (.const (.string (⟨#[32]⟩ : ByteArray))) (.string t28) (.string (⟨#[32]⟩ : ByteArray))) fun t29 =>
 ref31_Quote t31 fun t32 =>
 andK S <|
 qS (bS .add 9 (.tmp 29) (.tmp 32) (.string t29) (.string t32)) fun t33 =>
 condK (t35 == 0)
 (gS S 84 o_1 4 9 fun t39 =>
 qB (bS .eql 9 (.tmp 39) (.const (.string (⟨#[]⟩ : ByteArray))) (.string t39) (.string (⟨#[]⟩ : ByteArray))) fun t40 =>
 condK t40
 (gI S 84 o_1 5 3 .i64 fun t44 =>
 j1 t33 (t44 == 0))
 (j1 t33 false))
 (j1 t33 false))
 fun t4 t5 =>
 K t4 t5)
 (condK (t21 == 2)
 (joinK [(4, .str), (5, .bool)] (fun (j2 : ByteArray → Bool → WP) =>
 DrawK fun S =>
 gI S 84 o_1 1 3 .i64 fun t51 =>
 gI S 84 o_1 2 3 .i64 fun t55 =>
 ref31_Number t51 fun t52 =>
 andK S <|
 qS (bS .add 9 (.tmp 49) (.tmp 52) (.string t19) (.string t52)) fun t53 =>
 condK (t55 == 0)
 (gR S 84 o_1 3 52 fun t59 =>
 sI S .i64 (vS (Builtin.len_ #[52] 3 #[t59])) fun t60 =>
 condK (t60 == 0)
 (gS S 84 o_1 4 9 fun t65 =>
 qB (bS .eql 9 (.tmp 65) (.const (.string (⟨#[]⟩ : ByteArray))) (.string t65) (.string (⟨#[]⟩ : ByteArray))) fun t66 =>
 condK t66
 (gI S 84 o_1 5 3 .i64 fun t70 =>
 j2 t53 (t70 == 0))
 (j2 t53 false))
 (j2 t53 false))
 (j2 t53 false))
 fun t4_1 t5_1 =>
 K t4_1 t5_1)
 (condK (t21 == 3)
 (joinK [(4, .str), (5, .bool)] (fun (j3 : ByteArray → Bool → WP) =>
 DrawK fun S =>
 gI S 84 o_1 2 3 .i64 fun t77 =>
 gS S 84 o_1 4 9 fun t82 =>
 gI S 84 o_1 5 3 .i64 fun t88 =>
 gI S 84 o_1 1 3 .i64 fun t92 =>
 andK (ref31_Number t77 fun t78 =>
 andK S <|
 qS (bS .add 9 (.tmp 75) (.tmp 78) (.string t19) (.string t78)) fun t79 =>
 qS (bS .add 9 (.tmp 79) (.const (.string (⟨#[32]⟩ : ByteArray))) (.string t79) (.string (⟨#[32]⟩ : ByteArray))) fun t80 =>
 oR (vS (convert 9 52 (.string t82))) fun t83 =>
 andK S <|
 ref31_Quote t83 fun t84 =>
 andK S <|
 qS (bS .add 9 (.tmp 80) (.tmp 84) (.string t80) (.string t84)) fun t85 =>
 qS (bS .add 9 (.tmp 85) (.const (.string (⟨#[32]⟩ : ByteArray))) (.string t85) (.string (⟨#[32]⟩ : ByteArray))) fun t86 =>
 ref31_Number t88 fun t89 =>
 andK S <|
 qS (bS .add 9 (.tmp 86) (.tmp 89) (.string t86) (.string t89)) fun t90 =>
 condK (t92 == 0)
 (gR S 84 o_1 3 52 fun t96 =>
 sI S .i64 (vS (Builtin.len_ #[52] 3 #[t96])) fun t97 =>
 j3 t90 (t97 == 0))
 (j3 t90 false))
 (oR (vS (convert 9 52 (.string t82))) fun t83_1 =>
 andK S <|
 ref31_Number t77 fun t78_1 =>
 andK S <|
 qS (bS .add 9 (.tmp 75) (.tmp 78) (.string t19) (.string t78_1)) fun t79_1 =>
 qS (bS .add 9 (.tmp 79) (.const (.string (⟨#[32]⟩ : ByteArray))) (.string t79_1) (.string (⟨#[32]⟩ : ByteArray))) fun t80_1 =>
 ref31_Quote t83_1 fun t84_1 =>
 andK S <|
 qS (bS .add 9 (.tmp 80) (.tmp 84) (.string t80_1) (.string t84_1)) fun t85_1 =>
 qS (bS .add 9 (.tmp 85) (.const (.string (⟨#[32]⟩ : ByteArray))) (.string t85_1) (.string (⟨#[32]⟩ : ByteArray))) fun t86_1 =>
 ref31_Number t88 fun t89_1 =>
 andK S <|
 qS (bS .add 9 (.tmp 86) (.tmp 89) (.string t86_1) (.string t89_1)) fun t90_1 =>
 condK (t92 == 0)
 (gR S 84 o_1 3 52 fun t96_1 =>
 sI S .i64 (vS (Builtin.len_ #[52] 3 #[t96_1])) fun t97_1 =>
 j3 t90_1 (t97_1 == 0))
 (j3 t90_1 false)))
 fun t4_2 t5_2 =>
 K t4_2 t5_2)
 (condK (t21 == 4)
 (joinK [(4, .str), (5, .bool)] (fun (j4 : ByteArray → Bool → WP) =>
 DrawK fun S =>
 gI S 84 o_1 2 3 .i64 fun t104 =>
 gR S 84 o_1 3 52 fun t109 =>
 gI S 84 o_1 1 3 .i64 fun t113 =>
 ref31_Number t104 fun t105 =>
 andK S <|
 qS (bS .add 9 (.tmp 102) (.tmp 105) (.string t19) (.string t105)) fun t106 =>
 qS (bS .add 9 (.tmp 106) (.const (.string (⟨#[32]⟩ : ByteArray))) (.string t106) (.string (⟨#[32]⟩ : ByteArray))) fun t107 =>
 ref31_Quote t109 fun t110 =>
 andK S <|
 qS (bS .add 9 (.tmp 107) (.tmp 110) (.string t107) (.string t110)) fun t111 =>
 condK (t113 == 0)
 (gS S 84 o_1 4 9 fun t117 =>
 qB (bS .eql 9 (.tmp 117) (.const (.string (⟨#[]⟩ : ByteArray))) (.string t117) (.string (⟨#[]⟩ : ByteArray))) fun t118 =>
 condK t118
 (gI S 84 o_1 5 3 .i64 fun t122 =>
 j4 t111 (t122 == 0))
 (j4 t111 false))
 (j4 t111 false))
 fun t4_3 t5_3 =>
 K t4_3 t5_3)
 (DrawK fun S =>
 gI S 84 o_1 2 3 .i64 fun t127 =>
 gI S 84 o_1 1 3 .i64 fun t131 =>
 ref31_Number t127 fun t128 =>
 andK S <|
 qS (bS .add 9 (.tmp 125) (.tmp 128) (.string t19) (.string t128)) fun t129 =>
 condK (t131 == 0)
 (gR S 84 o_1 3 52 fun t135 =>
 sI S .i64 (vS (Builtin.len_ #[52] 3 #[t135])) fun t136 =>
 condK (t136 == 0)
 (gS S 84 o_1 4 9 fun t141 =>
 qB (bS .eql 9 (.tmp 141) (.const (.string (⟨#[]⟩ : ByteArray))) (.string t141) (.string (⟨#[]⟩ : ByteArray))) fun t142 =>
 condK t142
 (gI S 84 o_1 5 3 .i64 fun t146 =>
 K t129 (t146 == 0))
 (K t129 false))
 (K t129 false))
 (K t129 false))))))
theorem ref31_OutLine_ok {whose : Int} {o : Value} {K : ByteArray → Bool → WP} (w : World) (h : ref31_OutLine_sh whose o K w) : ref31_OutLine whose o K w :=
  fn_ok cx_ok (hi := (.n .l (.n .l (.n .l (.n .l (.n (.n .l (.n (.n .l (.n (.n (.j [(4, .str), (5, .bool)] (.o (odL [0, 1, 2, 6, 7, 10, 11, 12, 3, 4, 5, 8, 9, 13, 14, 15, 16, 17, 18, 19, 20, 21, 22, 23, 24]))) .l) (.n .l (.n (.n (.j [(4, .str), (5, .bool)] (.o (odL [0, 1, 2, 5, 6, 7, 3, 4, 8, 9, 10, 11, 12, 13, 14, 15, 16, 17, 18, 19, 20, 21, 22, 23, 24, 25]))) .l) (.n .l (.n (.n (.j [(4, .str), (5, .bool)] (.o (.cons 0 (.cons 1 (.cons 2 (.cons 6 (.cons 7 (.cons 12 (.cons 13 (.cons 16 (.cons 17 (.cons 18 (.two 3 8 (odL [4, 5, 8, 9, 10, 11, 14, 15, 19, 20, 21, 22, 23, 24, 25, 26]) (odL [3, 4, 5, 9, 10, 11, 14, 15, 19, 20, 21, 22, 23, 24, 25, 26])))))))))))))) .l) (.n .l (.n (.n (.j [(4, .str), (5, .bool)] (.o (odL [0, 1, 2, 6, 7, 10, 11, 12, 3, 4, 5, 8, 9, 13, 14, 15, 16, 17, 18, 19, 20, 21, 22, 23, 24]))) .l) .l)))))))) .l)) (.n (.o (odL [0, 1, 2, 5, 6, 7, 3, 4, 8, 9, 10, 11, 12, 13, 14, 15, 16, 17, 18, 19, 20, 21, 22, 23, 24, 25])) .l))))))) (fn := Tryz.f60) Tryz.func60 (by kernel_rfl) h

/- tollhouse/tollhouselaw27.Ours -/
def law27_Ours_sh (l : Value) (K : Value → WP) : WP :=
 len 128 3 l fun t7 =>
 loopK [(3, .raw), (8, (.int .i64))] (fun (j1 : Value → Int → WP) => j1 (.slice none 0 0) 0) (fun (j2 : Value → Int → WP) (out : Value) (t8 : Int) =>
 condK (decide (t8 < t7))
 (iR 128 l .i64 t8 73 fun t11 =>
 oR (vS (Instr.alloc 73 true (.tuple #[]))) fun x =>
 sto 73 x t11 <|
 fI 73 x 0 3 .i64 fun t14 =>
 fI 73 x 1 3 .i64 fun t16 =>
 fI 73 x 2 3 .i64 fun t18 =>
 fR 73 x 3 52 fun t20 =>
 fS 73 x 4 9 fun t22 =>
 fI 73 x 5 3 .i64 fun t24 =>
 oR (vS (Instr.build 84 #[(0, (.int .i64 t14)), (1, (.int .i64 t16)), (2, (.int .i64 t18)), (3, t20), (4, (.string t22)), (5, (.int .i64 t24))])) fun t25 =>
 oR (vS (Instr.buildSlice 81 1 #[(0, t25)])) fun t26 =>
 app 81 81 81 out t26 fun t27 =>
 ArK .i64 (t8 + 1) fun t28 =>
 j2 t27 t28)
 (K out))
theorem law27_Ours_ok {l : Value} {K : Value → WP} (w : World) (h : law27_Ours_sh l K w) : law27_Ours l K w :=
  fn_ok cx_ok (hi := (.n .l (.n .l (.n (.n .l (.n (.p [(3, .raw), (8, (.int .i64))] .l) .l)) .l)))) (fn := Tryz.f61) Tryz.func61 (by kernel_rfl) h

/- (*tollhouse/shell.reader).plain -/
def shell_reader_plain_sh (r : Value) (K : ByteArray → WP) : WP :=
 nS 116 r 0 9 fun t10 =>
 strings_Cut t10 (⟨#[32]⟩ : ByteArray) fun t11 t11_1 _ =>
 nW 116 r 0 9 (.string t11_1) <|
 K t11
theorem shell_reader_plain_ok {r : Value} {K : ByteArray → WP} (w : World) (h : shell_reader_plain_sh r K w) : shell_reader_plain r K w :=
  fn_ok cx_ok (hi := .l) (fn := Tryz.f63) Tryz.func63 (by kernel_rfl) h

/- (*tollhouse/shell.reader).number -/
def shell_reader_number_sh (r : Value) (K : Int → WP) : WP :=
 shell_reader_plain r fun t7 =>
 strconv_Atoi t7 fun t8 t8_1 =>
 nB 116 r 1 4 fun t15 =>
 condK t15
 (nW 116 r 1 4 (.bool true) <|
 K t8)
 (oB (bS .neq 103 (.tmp 17) (.const .nilIface) t8_1 .nilIface) fun t18 =>
 nW 116 r 1 4 (.bool t18) <|
 K t8)
theorem shell_reader_number_ok {r : Value} {K : Int → WP} (w : World) (h : shell_reader_number_sh r K w) : shell_reader_number r K w :=
  fn_ok cx_ok (hi := .l) (fn := Tryz.f64) Tryz.func64 (by kernel_rfl) h

/- (*tollhouse/tollhouseref31.Reader).letters -/
def ref31_Reader_letters_sh (r : Value) (K : ByteArray → WP) : WP :=
 loopK [(3, (.int .i64))] (fun (j1 : Int → WP) => j1 0) (fun (j2 : Int → WP) (n : Int) =>
 nS 123 r 0 9 fun t9 =>
 len 9 3 (.string t9) fun t10 =>
 condK (decide (n < t10))
 (nS 123 r 0 9 fun t16 =>
 oI .u8 (vS (Instr.index 9 (.string t16) (.int .i64 n))) fun t18 =>
 condK (t18 != 32)
 (ArK .i64 (n + 1) fun t22 =>
 j2 t22)
 (nS 123 r 0 9 fun t26 =>
 oS (vS (Instr.sliceAt 9 (.string t26) none (some (.int .i64 n)) none)) fun t28 =>
 nS 123 r 0 9 fun t33 =>
 oS (vS (Instr.sliceAt 9 (.string t33) (some (.int .i64 n)) none none)) fun t35 =>
 nW 123 r 0 9 (.string t35) <|
 K t28))
 (nS 123 r 0 9 fun t26_1 =>
 oS (vS (Instr.sliceAt 9 (.string t26_1) none (some (.int .i64 n)) none)) fun t28_1 =>
 nS 123 r 0 9 fun t33_1 =>
 oS (vS (Instr.sliceAt 9 (.string t33_1) (some (.int .i64 n)) none none)) fun t35_1 =>
 nW 123 r 0 9 (.string t35_1) <|
 K t28_1))
theorem ref31_Reader_letters_ok {r : Value} {K : ByteArray → WP} (w : World) (h : ref31_Reader_letters_sh r K w) : ref31_Reader_letters r K w :=
  fn_ok cx_ok (hi := (.n .l (.n .l (.n (.n (.p [(3, (.int .i64))] .l) .l) .l)))) (fn := Tryz.f65) Tryz.func65 (by kernel_rfl) h

/- (*tollhouse/tollhouseref31.Reader).blank -/
def ref31_Reader_blank_sh (r : Value) (K : Value → WP) : WP :=
 joinK [(15, .bool)] (fun (j1 : Bool → WP) =>
 nS 123 r 0 9 fun t5 =>
 len 9 3 (.string t5) fun t6 =>
 condK (t6 == 0)
 (j1 true)
 (nS 123 r 0 9 fun t12 =>
 oI .u8 (vS (Instr.index 9 (.string t12) (.int .i64 0))) fun t13 =>
 j1 (t13 != 32)))
 fun t15 =>
 condK t15
 (nW 123 r 1 4 (.bool true) <|
 K (.tuple #[]))
 (nS 123 r 0 9 fun t23 =>
 oS (vS (Instr.sliceAt 9 (.string t23) (some (.int .i64 1)) none none)) fun t24 =>
 nW 123 r 0 9 (.string t24) <|
 K (.tuple #[]))
theorem ref31_Reader_blank_ok {r : Value} {K : Value → WP} (w : World) (h : ref31_Reader_blank_sh r K w) : ref31_Reader_blank r K w :=
  fn_ok cx_ok (hi := (.n (.n (.j [(15, .bool)] .l) .l) .l)) (fn := Tryz.f66) Tryz.func66 (by kernel_rfl) h

/- tollhouse/tollhouseref31.Goes -/
def ref31_Goes_sh (n : Int) (K : ByteArray → WP) : WP :=
 oR (vS (Instr.build 142 #[(0, (.string (⟨#[]⟩ : ByteArray))), (1, (.string (⟨#[99, 108, 105, 101, 110, 116]⟩ : ByteArray))), (2, (.string (⟨#[115, 104, 117, 116]⟩ : ByteArray))), (3, (.string (⟨#[106, 111, 105, 110]⟩ : ByteArray))), (4, (.string (⟨#[111, 114, 105, 103, 105, 110]⟩ : ByteArray))), (5, (.string (⟨#[101, 110, 100]⟩ : ByteArray)))])) fun t4 =>
 oR (vS (Instr.alloc 142 true (.tuple #[]))) fun l =>
 sto 142 l t4 <|
 condK (decide (n < 1))
 (K (⟨#[]⟩ : ByteArray))
 (condK (decide (n > 5))
 (K (⟨#[]⟩ : ByteArray))
 (iS 142 l .i64 n 9 fun t13 =>
 K t13))
theorem ref31_Goes_ok {n : Int} {K : ByteArray → WP} (w : World) (h : ref31_Goes_sh n K w) : ref31_Goes n K w :=
  fn_ok cx_ok (hi := .l) (fn := Tryz.f67) Tryz.func67 (by kernel_rfl) h

/- tollhouse/tollhouseref27.Same -/
def ref27_Same_sh (a : Value) (b : Value) (K : Bool → WP) : WP :=
 len 81 3 a fun t9 =>
 len 81 3 b fun t11 =>
 condK (t9 != t11)
 (K false)
 (loopK [(5, (.int .i64))] (fun (j1 : Int → WP) => j1 0) (fun (j2 : Int → WP) (i : Int) =>
 len 81 3 a fun t15 =>
 condK (decide (i < t15))
 (iR 81 a .i64 i 84 fun t22 =>
 oR (vS (Instr.alloc 84 true (.tuple #[]))) fun x =>
 sto 84 x t22 <|
 iR 81 b .i64 i 84 fun t26 =>
 oR (vS (Instr.alloc 84 true (.tuple #[]))) fun y =>
 sto 84 y t26 <|
 joinK [(68, .bool)] (fun (j3 : Bool → WP) =>
 fI 84 x 0 3 .i64 fun t28 =>
 fI 84 y 0 3 .i64 fun t30 =>
 condK (t28 != t30)
 (j3 true)
 (fI 84 x 1 3 .i64 fun t34 =>
 fI 84 y 1 3 .i64 fun t36 =>
 condK (t34 != t36)
 (j3 true)
 (fI 84 x 2 3 .i64 fun t41 =>
 fI 84 y 2 3 .i64 fun t43 =>
 condK (t41 != t43)
 (j3 true)
 (fR 84 x 3 52 fun t48 =>
 oS (vS (convert 52 9 t48)) fun t49 =>
 fR 84 y 3 52 fun t51 =>
 oS (vS (convert 52 9 t51)) fun t52 =>
 oB (bS .neq 9 (.tmp 49) (.tmp 52) (.string t49) (.string t52)) fun t53 =>
 condK t53
 (j3 true)
 (fS 84 x 4 9 fun t57 =>
 fS 84 y 4 9 fun t59 =>
 oB (bS .neq 9 (.tmp 57) (.tmp 59) (.string t57) (.string t59)) fun t60 =>
 condK t60
 (j3 true)
 (fI 84 x 5 3 .i64 fun t64 =>
 fI 84 y 5 3 .i64 fun t66 =>
 j3 (t64 != t66)))))))
 fun t68 =>
 condK t68
 (K false)
 (ArK .i64 (i + 1) fun t18 =>
 j2 t18))
 (K true)))
theorem ref27_Same_ok {a : Value} {b : Value} {K : Bool → WP} (w : World) (h : ref27_Same_sh a b K w) : ref27_Same a b K w :=
  fn_ok cx_ok (hi := (.n .l (.n .l (.n (.n .l (.n (.p [(5, (.int .i64))] (.n .l (.n (.n (.n .l (.n .l (.n (.j [(68, .bool)] .l) .l))) .l) .l))) .l)) .l)))) (fn := Tryz.f68) Tryz.func68 (by kernel_rfl) h

/- tollhouse/tollhouseref31.Unquote -/
def ref31_Unquote_sh (s : ByteArray) (K : Value → ByteArray → Bool → WP) : WP :=
 joinK [(14, .bool)] (fun (j1 : Bool → WP) =>
 len 9 3 (.string s) fun t8 =>
 condK (t8 == 0)
 (j1 true)
 (oI .u8 (vS (Instr.index 9 (.string s) (.int .i64 0))) fun t12 =>
 j1 (t12 != 34)))
 fun t14 =>
 condK t14
 (K (.slice none 0 0) (⟨#[]⟩ : ByteArray) false)
 (loopK [(5, .raw), (6, (.int .i64))] (fun (j2 : Value → Int → WP) => j2 (.slice none 0 0) 1) (fun (j3 : Value → Int → WP) (b : Value) (at_ : Int) =>
 joinK [(24, .bool)] (fun (j4 : Bool → WP) =>
 len 9 3 (.string s) fun t17 =>
 condK (decide (at_ < t17))
 (oI .u8 (vS (Instr.index 9 (.string s) (.int .i64 at_))) fun t22 =>
 j4 (t22 != 34))
 (j4 false))
 fun t24 =>
 condK t24
 (oI .u8 (vS (Instr.index 9 (.string s) (.int .i64 at_))) fun t27 =>
 condK (t27 != 92)
 (oI .u8 (vS (Instr.index 9 (.string s) (.int .i64 at_))) fun t32 =>
 oR (vS (Instr.buildSlice 52 1 #[(0, (.int .u8 t32))])) fun t33 =>
 app 52 52 52 b t33 fun t34 =>
 ArK .i64 (at_ + 1) fun t36 =>
 j3 t34 t36)
 (ArK .i64 (at_ + 1) fun t38 =>
 len 9 3 (.string s) fun t40 =>
 condK (decide (t38 ≥ t40))
 (K (.slice none 0 0) (⟨#[]⟩ : ByteArray) false)
 (ArK .i64 (at_ + 1) fun t44 =>
 oI .u8 (vS (Instr.index 9 (.string s) (.int .i64 t44))) fun t45 =>
 condK (t45 != 120)
 (ArK .i64 (at_ + 1) fun t50 =>
 oI .u8 (vS (Instr.index 9 (.string s) (.int .i64 t50))) fun t51 =>
 oR (vS (Instr.buildSlice 52 1 #[(0, (.int .u8 t51))])) fun t52 =>
 app 52 52 52 b t52 fun t53 =>
 ArK .i64 (at_ + 2) fun t55 =>
 j3 t53 t55)
 (joinK [(76, .bool)] (fun (j5 : Bool → WP) =>
 ArK .i64 (at_ + 3) fun t57 =>
 len 9 3 (.string s) fun t59 =>
 condK (decide (t57 ≥ t59))
 (j5 true)
 (ArK .i64 (at_ + 2) fun t64 =>
 oI .u8 (vS (Instr.index 9 (.string s) (.int .i64 t64))) fun t65 =>
 ref31_digit t65 fun t66 =>
 condK (decide (t66 < 0))
 (j5 true)
 (ArK .i64 (at_ + 3) fun t72 =>
 oI .u8 (vS (Instr.index 9 (.string s) (.int .i64 t72))) fun t73 =>
 ref31_digit t73 fun t74 =>
 j5 (decide (t74 < 0)))))
 fun t76 =>
 condK t76
 (K (.slice none 0 0) (⟨#[]⟩ : ByteArray) false)
 (DrawK fun S =>
 ArK .i64 (at_ + 2) fun t80 =>
 qI .u8 (vS (Instr.index 9 (.string s) (.int .i64 t80))) fun t81 =>
 ArK .i64 (at_ + 3) fun t86 =>
 qI .u8 (vS (Instr.index 9 (.string s) (.int .i64 t86))) fun t87 =>
 ref31_digit t81 fun t82 =>
 andK S <|
 ArK .i64 (16 * t82) fun t83 =>
 ref31_digit t87 fun t88 =>
 andK S <|
 ArK .i64 (t83 + t88) fun t89 =>
 rI .u8 (vS (convert 3 5 (.int .i64 t89))) fun t90 =>
 oR (vS (Instr.buildSlice 52 1 #[(0, (.int .u8 t90))])) fun t91 =>
 app 52 52 52 b t91 fun t92 =>
 andK S <|
 ArK .i64 (at_ + 4) fun t94 =>
 j3 t92 t94)))))
 (DrawK fun S =>
 sI S .i64 (vS (Builtin.len_ #[9] 3 #[(.string s)])) fun t97 =>
 condK (decide (at_ ≥ t97))
 (K (.slice none 0 0) (⟨#[]⟩ : ByteArray) false)
 (ArK .i64 (at_ + 1) fun t104 =>
 qS (vS (Instr.sliceAt 9 (.string s) none (some (.int .i64 t104)) none)) fun t105 =>
 ref31_Quote b fun t101 =>
 andK S <|
 qB (bS .neq 9 (.tmp 101) (.tmp 105) (.string t101) (.string t105)) fun t106 =>
 condK t106
 (K (.slice none 0 0) (⟨#[]⟩ : ByteArray) false)
 (DrawK fun S =>
 ArK .i64 (at_ + 1) fun t111 =>
 qS (vS (Instr.sliceAt 9 (.string s) (some (.int .i64 t111)) none none)) fun t112 =>
 K b t112 true)))))
theorem ref31_Unquote_ok {s : ByteArray} {K : Value → ByteArray → Bool → WP} (w : World) (h : ref31_Unquote_sh s K w) : ref31_Unquote s K w :=
  fn_ok cx_ok (hi := (.n .l (.n (.n (.j [(14, .bool)] .l) .l) (.n .l (.n .l (.n (.n (.p [(5, .raw), (6, (.int .i64))] (.n (.n (.j [(24, .bool)] .l) .l) (.n (.n .l (.n .l (.n .l (.n (.n (.j [(76, .bool)] .l) .l) (.n (.o (.cons 0 (.cons 1 (.cons 2 (.cons 3 (.cons 4 (.cons 7 (.cons 8 (.cons 9 (.cons 10 (.cons 5 (.cons 6 (.cons 11 (.cons 12 (.rd 13 (.cons 14 (.cons 15 (.cons 16 .nil)))))))))))))))))) .l))))) .l))) .l) (.n (.n (.o (odL [0, 1, 2, 3, 4, 5, 7, 8, 9, 10, 6, 11, 12])) .l) (.n (.o (odR 0 8)) .l)))))))) (fn := Tryz.f77) Tryz.func77 (by kernel_rfl) h

/- tollhouse/shell.same -/
def shell_same_sh (a : Value) (b : Value) (K : Bool → WP) : WP :=
 oR (vS (Instr.box 73 a)) fun a_1 =>
 oR (vS (Instr.box 73 b)) fun b_1 =>
 fI 73 a_1 0 3 .i64 fun t6 =>
 fI 73 b_1 0 3 .i64 fun t8 =>
 condK (t6 == t8)
 (fI 73 a_1 1 3 .i64 fun t12 =>
 fI 73 b_1 1 3 .i64 fun t14 =>
 condK (t12 == t14)
 (fI 73 a_1 2 3 .i64 fun t19 =>
 fI 73 b_1 2 3 .i64 fun t21 =>
 condK (t19 == t21)
 (fS 73 a_1 4 9 fun t26 =>
 fS 73 b_1 4 9 fun t28 =>
 oB (bS .eql 9 (.tmp 26) (.tmp 28) (.string t26) (.string t28)) fun t29 =>
 condK t29
 (fI 73 a_1 5 3 .i64 fun t33 =>
 fI 73 b_1 5 3 .i64 fun t35 =>
 condK (t33 == t35)
 (fR 73 a_1 3 52 fun t40 =>
 oS (vS (convert 52 9 t40)) fun t41 =>
 fR 73 b_1 3 52 fun t43 =>
 oS (vS (convert 52 9 t43)) fun t44 =>
 oB (bS .eql 9 (.tmp 41) (.tmp 44) (.string t41) (.string t44)) fun t45 =>
 K t45)
 (K false))
 (K false))
 (K false))
 (K false))
 (K false)
theorem shell_same_ok {a : Value} {b : Value} {K : Bool → WP} (w : World) (h : shell_same_sh a b K w) : shell_same a b K w :=
  fn_ok cx_ok (hi := .l) (fn := Tryz.f78) Tryz.func78 (by kernel_rfl) h

/- tollhouse/shell.bare -/
def shell_bare_sh (o : Value) (K : Value → WP) : WP :=
 oR (vS (Instr.box 73 o)) fun o_1 =>
 oR (vS (Instr.alloc 73 true (.tuple #[]))) fun t2 =>
 fI 73 o_1 0 3 .i64 fun t4 =>
 condK (t4 == 1)
 (fI 73 o_1 0 3 .i64 fun t8 =>
 fI 73 o_1 1 3 .i64 fun t10 =>
 fR 73 o_1 3 52 fun t12 =>
 oR (vS (Instr.build 73 #[(0, (.int .i64 t8)), (1, (.int .i64 t10)), (3, t12)])) fun t13 =>
 sto 73 t2 t13 <|
 rR (vS (do loadVar 73 (← asAddr t2))) fun u_1 =>
 K u_1)
 (condK (t4 == 2)
 (fI 73 o_1 0 3 .i64 fun t17 =>
 fI 73 o_1 1 3 .i64 fun t19 =>
 oR (vS (Instr.build 73 #[(0, (.int .i64 t17)), (1, (.int .i64 t19))])) fun t20 =>
 sto 73 t2 t20 <|
 rR (vS (do loadVar 73 (← asAddr t2))) fun u_3 =>
 K u_3)
 (condK (t4 == 3)
 (fI 73 o_1 0 3 .i64 fun t24 =>
 fI 73 o_1 2 3 .i64 fun t26 =>
 fS 73 o_1 4 9 fun t28 =>
 fI 73 o_1 5 3 .i64 fun t30 =>
 oR (vS (Instr.build 73 #[(0, (.int .i64 t24)), (2, (.int .i64 t26)), (4, (.string t28)), (5, (.int .i64 t30))])) fun t31 =>
 sto 73 t2 t31 <|
 rR (vS (do loadVar 73 (← asAddr t2))) fun u_5 =>
 K u_5)
 (condK (t4 == 4)
 (fI 73 o_1 0 3 .i64 fun t35 =>
 fI 73 o_1 2 3 .i64 fun t37 =>
 fR 73 o_1 3 52 fun t39 =>
 oR (vS (Instr.build 73 #[(0, (.int .i64 t35)), (2, (.int .i64 t37)), (3, t39)])) fun t40 =>
 sto 73 t2 t40 <|
 rR (vS (do loadVar 73 (← asAddr t2))) fun u_7 =>
 K u_7)
 (fI 73 o_1 0 3 .i64 fun t42 =>
 fI 73 o_1 2 3 .i64 fun t44 =>
 oR (vS (Instr.build 73 #[(0, (.int .i64 t42)), (2, (.int .i64 t44))])) fun t45 =>
 sto 73 t2 t45 <|
 rR (vS (do loadVar 73 (← asAddr t2))) fun u_9 =>
 K u_9))))
theorem shell_bare_ok {o : Value} {K : Value → WP} (w : World) (h : shell_bare_sh o K w) : shell_bare o K w :=
  fn_ok cx_ok (hi := .l) (fn := Tryz.f79) Tryz.func79 (by kernel_rfl) h

/- tollhouse/tollhouseref31.digit -/
def ref31_digit_sh (c_ : Int) (K : Int → WP) : WP :=
 joinK [(8, .bool)] (fun (j1 : Bool → WP) =>
 condK (decide (c_ ≥ 48))
 (j1 (decide (c_ ≤ 57)))
 (j1 false))
 fun t8 =>
 condK t8
 (ArK .u8 (c_ - 48) fun t10 =>
 oI .i64 (vS (convert 5 3 (.int .u8 t10))) fun t11 =>
 K t11)
 (condK (decide (c_ ≥ 97))
 (condK (decide (c_ ≤ 102))
 (ArK .u8 (c_ - 97) fun t19 =>
 oI .i64 (vS (convert 5 3 (.int .u8 t19))) fun t20 =>
 ArK .i64 (t20 + 10) fun t21 =>
 K t21)
 (K (-1)))
 (K (-1)))
theorem ref31_digit_ok {c_ : Int} {K : Int → WP} (w : World) (h : ref31_digit_sh c_ K w) : ref31_digit c_ K w :=
  fn_ok cx_ok (hi := (.n .l (.n (.n (.j [(8, .bool)] .l) .l) .l))) (fn := Tryz.f89) Tryz.func89 (by kernel_rfl) h

/- (*strings.Builder).copyCheck -/
def strings_Builder_copyCheck_sh (b : Value) (K : Value → WP) : WP :=
 nR 101 b 0 99 fun t5 =>
 oB (bS .eql 99 (.tmp 5) (.const (.pointer none)) t5 (.pointer none)) fun t6 =>
 condK t6
 (oR (vS (convert 99 143 b)) fun t9 =>
 oR (callFunc 82 #[t9]) fun t10 =>
 oR (vS (convert 143 99 t10)) fun t11 =>
 nW 101 b 0 99 t11 <|
 K (.tuple #[]))
 (nR 101 b 0 99 fun t17 =>
 oB (bS .neq 99 (.tmp 17) (.tmp 18) t17 b) fun t19 =>
 condK t19
 ((fun _ => False))
 (K (.tuple #[])))
theorem strings_Builder_copyCheck_ok {b : Value} {K : Value → WP} (w : World) (h : strings_Builder_copyCheck_sh b K w) : strings_Builder_copyCheck b K w :=
  fn_ok cx_ok (hi := .l) (fn := Tryz.f69) Tryz.func69 (by kernel_rfl) h

/- (*strings.Builder).WriteString -/
def strings_Builder_WriteString_sh (b : Value) (s : ByteArray) (K : Int → Value → WP) : WP :=
 strings_Builder_copyCheck b fun _ =>
 nR 101 b 1 52 fun t12 =>
 oR (vS (Builtin.append_ #[52, 9] 52 #[t12, (.string s)])) fun t14 =>
 nW 101 b 1 52 t14 <|
 len 9 3 (.string s) fun t18 =>
 K t18 .nilIface
theorem strings_Builder_WriteString_ok {b : Value} {s : ByteArray} {K : Int → Value → WP} (w : World) (h : strings_Builder_WriteString_sh b s K w) : strings_Builder_WriteString b s K w :=
  fn_ok cx_ok (hi := .l) (fn := Tryz.f41) Tryz.func41 (by kernel_rfl) h

/- (*strings.Builder).Len -/
def strings_Builder_Len_sh (b : Value) (K : Int → WP) : WP :=
 nR 101 b 1 52 fun t6 =>
 len 52 3 t6 fun t7 =>
 K t7
theorem strings_Builder_Len_ok {b : Value} {K : Int → WP} (w : World) (h : strings_Builder_Len_sh b K w) : strings_Builder_Len b K w :=
  fn_ok cx_ok (hi := .l) (fn := Tryz.f42) Tryz.func42 (by kernel_rfl) h

/- (*strings.Builder).String -/
def strings_Builder_String_sh (b : Value) (K : ByteArray → WP) : WP :=
 DrawK fun S =>
 hR S 101 b 1 52 fun t6 =>
 hR S 101 b 1 52 fun t11 =>
 sI S .i64 (vS (Builtin.len_ #[52] 3 #[t11])) fun t12 =>
 oR (vS (Builtin.unsafeSliceData_ #[52] 131 #[t6])) fun t7 =>
 andK S <|
 oS (vS (Builtin.unsafeString_ #[131, 3] 9 #[t7, (.int .i64 t12)])) fun t13 =>
 andK S <|
 K t13
theorem strings_Builder_String_ok {b : Value} {K : ByteArray → WP} (w : World) (h : strings_Builder_String_sh b K w) : strings_Builder_String b K w :=
  fn_ok cx_ok (hi := (.n .l (.n (.o (odL [0, 1, 2, 3, 5, 6, 7, 8, 9, 4, 10, 11])) .l))) (fn := Tryz.f43) Tryz.func43 (by kernel_rfl) h

/- strings.Cut -/
def strings_Cut_sh (s : ByteArray) (sep : ByteArray) (K : ByteArray → ByteArray → Bool → WP) : WP :=
 stringslite_Cut s sep fun t9 t9_1 t9_2 =>
 K t9 t9_1 t9_2
theorem strings_Cut_ok {s : ByteArray} {sep : ByteArray} {K : ByteArray → ByteArray → Bool → WP} (w : World) (h : strings_Cut_sh s sep K w) : strings_Cut s sep K w :=
  fn_ok cx_ok (hi := .l) (fn := Tryz.f80) Tryz.func80 (by kernel_rfl) h

/- internal/stringslite.Cut -/
def stringslite_Cut_sh (s : ByteArray) (sep : ByteArray) (K : ByteArray → ByteArray → Bool → WP) : WP :=
 stringslite_Index s sep fun t10 =>
 condK (decide (t10 ≥ 0))
 (DrawK fun S =>
 qS (vS (Instr.sliceAt 9 (.string s) none (some (.int .i64 t10)) none)) fun t15 =>
 sI S .i64 (vS (Builtin.len_ #[9] 3 #[(.string sep)])) fun t19 =>
 ArK .i64 (t10 + t19) fun t20 =>
 qS (vS (Instr.sliceAt 9 (.string s) (some (.int .i64 t20)) none none)) fun t21 =>
 K t15 t21 true)
 (K s (⟨#[]⟩ : ByteArray) false)
theorem stringslite_Cut_ok {s : ByteArray} {sep : ByteArray} {K : ByteArray → ByteArray → Bool → WP} (w : World) (h : stringslite_Cut_sh s sep K w) : stringslite_Cut s sep K w :=
  fn_ok cx_ok (hi := (.n .l (.n (.n .l (.n .l (.n (.n (.o (odR 0 12)) .l) .l))) .l))) (fn := Tryz.f90) Tryz.func90 (by kernel_rfl) h

end Go.Proofs.YtoneapgooihajaaGreatDoor
