/-
  FUNCTIONS AS PLAIN TERMS, printed by shx.py.
-/
import Derived.Test.YtfofnagocedlgaaGreatDoorWd
set_option linter.unusedVariables false
set_option maxRecDepth 100000
namespace Go.Proofs.YtfofnagocedlgaaGreatDoor
open Go Sh
/- tollhouse/text.Lower -/
def text_Lower_sh (s : ByteArray) (K : ByteArray → WP) : WP :=
 oR (vS (convert 9 24 (.string s))) fun t7 =>
 len 24 3 t7 fun t9 =>
 loopK [(10, (.int .i64))] (fun (j1 : Int → WP) => j1 0) (fun (j2 : Int → WP) (t10 : Int) =>
 condK (decide (t10 < t9))
 (iI 24 t7 .i64 t10 5 .u8 fun t14 =>
 joinK [(20, .bool)] (fun (j3 : Bool → WP) =>
 condK (decide (t14 ≥ 65))
 (j3 (decide (t14 ≤ 90)))
 (j3 false))
 fun t20 =>
 condK t20
 (ArK .u8 (t14 + 97) fun t24 =>
 ArK .u8 (t24 - 65) fun t25 =>
 iW 24 t7 .i64 t10 5 (.int .u8 t25) <|
 ArK .i64 (t10 + 1) fun t27 =>
 j2 t27)
 (ArK .i64 (t10 + 1) fun t27_1 =>
 j2 t27_1))
 (oS (vS (convert 24 9 t7)) fun t29 =>
 K t29))
theorem text_Lower_ok {s : ByteArray} {K : ByteArray → WP} (w : World) (h : text_Lower_sh s K w) : text_Lower s K w :=
  fn_ok cx_ok (hi := (.n .l (.n .l (.n (.n .l (.n (.p [(10, (.int .i64))] (.n .l (.n .l (.n (.n (.n .l (.n (.j [(20, .bool)] .l) .l)) .l) .l)))) .l)) .l)))) (fn := Tryz.f62) Tryz.func62 (by kernel_rfl) h

/- tollhouse/text.Same -/
def text_Same_sh (a : ByteArray) (b : ByteArray) (K : Bool → WP) : WP :=
 text_Lower a fun t6 =>
 text_Lower b fun t8 =>
 oB (bS .eql 9 (.tmp 6) (.tmp 8) (.string t6) (.string t8)) fun t9 =>
 K t9
theorem text_Same_ok {a : ByteArray} {b : ByteArray} {K : Bool → WP} (w : World) (h : text_Same_sh a b K w) : text_Same a b K w :=
  fn_ok cx_ok (hi := .l) (fn := Tryz.f85) Tryz.func85 (by kernel_rfl) h

/- tollhouse/text.Trim -/
def text_Trim_sh (s : ByteArray) (K : ByteArray → WP) : WP :=
 strings_Trim s (⟨#[32, 9]⟩ : ByteArray) fun t4 =>
 K t4
theorem text_Trim_ok {s : ByteArray} {K : ByteArray → WP} (w : World) (h : text_Trim_sh s K w) : text_Trim s K w :=
  fn_ok cx_ok (hi := .l) (fn := Tryz.f94) Tryz.func94 (by kernel_rfl) h

/- tollhouse/text.List -/
def text_List_sh (s : ByteArray) (K : Value → WP) : WP :=
 oR (vS (Instr.box 9 (.string s))) fun s_1 =>
 oR (vS (Instr.alloc 61 true (.tuple #[]))) fun l =>
 oR (vS (Instr.alloc 3 true (.tuple #[]))) fun from_ =>
 sto 3 from_ (.int .i64 0) <|
 lS 9 s_1 fun t11 =>
 oR (vS (Instr.range 9 (.string t11))) fun t12 =>
 loopK [(5, .bool), (6, .bool)] (fun (j1 : Bool → Bool → WP) => j1 false false) (fun (j2 : Bool → Bool → WP) (quoted : Bool) (masked : Bool) =>
 NxK P (vS (Instr.next t12 true 0)) (.int .i64) (.int .i32)
 (lS 9 s_1 fun t41 =>
 len 9 3 (.string t41) fun t42 =>
 oR (callS (.func (.func 93) #[] #[s_1, from_, l]) #[(.int .i64 t42)]) fun _ =>
 lR 61 l fun t44 =>
 K t44)
 fun u_1 u_2 =>
 condK masked
 (j2 quoted false)
 (joinK [(19, .bool)] (fun (j3 : Bool → WP) =>
 condK quoted
 (j3 (u_2 == 92))
 (j3 false))
 fun t19 =>
 condK t19
 (j2 quoted true)
 (condK (u_2 == 34)
 (j2 (!quoted) masked)
 (condK (u_2 == 44)
 (condK (!quoted)
 (oR (callS (.func (.func 93) #[] #[s_1, from_, l]) #[(.int .i64 u_1)]) fun _ =>
 j2 quoted masked)
 (j2 quoted masked))
 (j2 quoted masked)))))
theorem text_List_ok {s : ByteArray} {K : Value → WP} (w : World) (h : text_List_sh s K w) : text_List s K w :=
  fn_ok cx_ok (hi := (.n .l (.n .l (.n .l (.n .l (.n (.n .l (.n (.p [(5, .bool), (6, .bool)] (.n .l (.n .l (.n (.n .l (.n (.n .l (.n .l (.n (.j [(19, .bool)] .l) .l))) .l)) .l)))) .l)) .l)))))) (fn := Tryz.f84) Tryz.func84 (by kernel_rfl) h

/- tollhouse/text.List$1 -/
def text_List_c1_sh (to : Int) (t1 : Value) (t2 : Value) (t3 : Value) (K : Value → WP) : WP :=
 lS 9 t1 fun t6 =>
 lI 3 .i64 t2 fun t7 =>
 oS (vS (Instr.sliceAt 9 (.string t6) (some (.int .i64 t7)) (some (.int .i64 to)) none)) fun t9 =>
 text_Trim t9 fun t10 =>
 oB (bS .neq 9 (.tmp 11) (.const (.string (⟨#[]⟩ : ByteArray))) (.string t10) (.string (⟨#[]⟩ : ByteArray))) fun t12 =>
 condK t12
 (lR 61 t3 fun t13 =>
 oR (vS (Instr.buildSlice 61 1 #[(0, (.string t10))])) fun t15 =>
 app 61 61 61 t13 t15 fun t16 =>
 sto 61 t3 t16 <|
 ArK .i64 (to + 1) fun t18 =>
 sto 3 t2 (.int .i64 t18) <|
 K (.tuple #[]))
 (ArK .i64 (to + 1) fun t18_1 =>
 sto 3 t2 (.int .i64 t18_1) <|
 K (.tuple #[]))
theorem text_List_c1_ok {to : Int} {t1 : Value} {t2 : Value} {t3 : Value} {K : Value → WP} (w : World) (h : text_List_c1_sh to t1 t2 t3 K w) : text_List_c1 to t1 t2 t3 K w :=
  fn_ok cx_ok (hi := .l) (fn := Tryz.f93) Tryz.func93 (by kernel_rfl) h

/- tollhouse/head.Get -/
def head_Get_sh (l : Value) (name : ByteArray) (K : Value → WP) : WP :=
 len 23 3 l fun t9 =>
 loopK [(5, .raw), (10, (.int .i64))] (fun (j1 : Value → Int → WP) => j1 (.slice none 0 0) 0) (fun (j2 : Value → Int → WP) (out : Value) (t10 : Int) =>
 condK (decide (t10 < t9))
 (iR 23 l .i64 t10 55 fun t13 =>
 oR (vS (Instr.alloc 55 true (.tuple #[]))) fun f =>
 sto 55 f t13 <|
 fS 55 f 0 9 fun t15 =>
 text_Same t15 name fun t17 =>
 condK t17
 (fS 55 f 1 9 fun t20 =>
 oR (vS (Instr.buildSlice 61 1 #[(0, (.string t20))])) fun t21 =>
 app 61 61 61 out t21 fun t22 =>
 ArK .i64 (t10 + 1) fun t23 =>
 j2 t22 t23)
 (ArK .i64 (t10 + 1) fun t23_1 =>
 j2 out t23_1))
 (K out))
theorem head_Get_ok {l : Value} {name : ByteArray} {K : Value → WP} (w : World) (h : head_Get_sh l name K w) : head_Get l name K w :=
  fn_ok cx_ok (hi := (.n .l (.n .l (.n (.n .l (.n (.p [(5, .raw), (10, (.int .i64))] .l) .l)) .l)))) (fn := Tryz.f65) Tryz.func65 (by kernel_rfl) h

/- tollhouse/hop.Elements -/
def hop_Elements_sh (l : Value) (name : ByteArray) (K : Value → WP) : WP :=
 head_Get l name fun t10 =>
 len 61 3 t10 fun t11 =>
 loopK [(5, .raw), (12, (.int .i64))] (fun (j1 : Value → Int → WP) => j1 (.slice none 0 0) 0) (fun (j2 : Value → Int → WP) (out : Value) (t12 : Int) =>
 condK (decide (t12 < t11))
 (iS 61 t10 .i64 t12 9 fun t15 =>
 text_List t15 fun t18 =>
 app 61 61 61 out t18 fun t19 =>
 ArK .i64 (t12 + 1) fun t20 =>
 j2 t19 t20)
 (K out))
theorem hop_Elements_ok {l : Value} {name : ByteArray} {K : Value → WP} (w : World) (h : hop_Elements_sh l name K w) : hop_Elements l name K w :=
  fn_ok cx_ok (hi := (.n .l (.n .l (.n (.n .l (.n (.p [(5, .raw), (12, (.int .i64))] .l) .l)) .l)))) (fn := Tryz.f61) Tryz.func61 (by kernel_rfl) h

/- tollhouse/vary.Names -/
def vary_Names_sh (l : Value) (K : Value → Bool → WP) : WP :=
 oR (vS (Instr.makeMap 98 none)) fun t9 =>
 hop_Elements l (⟨#[118, 97, 114, 121]⟩ : ByteArray) fun t11 =>
 len 61 3 t11 fun t12 =>
 loopK [(4, .raw), (13, (.int .i64))] (fun (j1 : Value → Int → WP) => j1 (.slice none 0 0) 0) (fun (j2 : Value → Int → WP) (names : Value) (t13 : Int) =>
 condK (decide (t13 < t12))
 (iS 61 t11 .i64 t13 9 fun t16 =>
 text_Lower t16 fun t18 =>
 joinK [(26, .bool)] (fun (j3 : Bool → WP) =>
 oI .i64 (vS (Instr.lookup 98 t9 (.string t18) false)) fun t21 =>
 condK (t21 == 0)
 (oB (bS .neq 9 (.tmp 24) (.const (.string (⟨#[42]⟩ : ByteArray))) (.string t18) (.string (⟨#[42]⟩ : ByteArray))) fun t25 =>
 j3 t25)
 (j3 false))
 fun t26 =>
 condK t26
 (oR (vS (Instr.buildSlice 61 1 #[(0, (.string t18))])) fun t29 =>
 app 61 61 61 names t29 fun t30 =>
 oR (uS (Instr.mapUpdate 98 t9 (.string t18) (.int .i64 1))) fun _ =>
 ArK .i64 (t13 + 1) fun t33 =>
 j2 t30 t33)
 (oR (uS (Instr.mapUpdate 98 t9 (.string t18) (.int .i64 1))) fun _ =>
 ArK .i64 (t13 + 1) fun t33_1 =>
 j2 names t33_1))
 (DrawK fun S =>
 sI S .i64 (vS (Instr.lookup 98 t9 (.string (⟨#[42]⟩ : ByteArray)) false)) fun t36 =>
 K names (decide (t36 > 0))))
theorem vary_Names_ok {l : Value} {K : Value → Bool → WP} (w : World) (h : vary_Names_sh l K w) : vary_Names l K w :=
  fn_ok cx_ok (hi := (.n .l (.n .l (.n .l (.n (.n .l (.n (.p [(4, .raw), (13, (.int .i64))] (.n .l (.n .l (.n (.n (.n .l (.n .l (.n (.n (.j [(26, .bool)] .l) .l) .l))) .l) .l)))) .l)) (.n (.o (odR 0 6)) .l)))))) (fn := Tryz.f31) Tryz.func31 (by kernel_rfl) h

/- tollhouse/vary.Same -/
def vary_Same_sh (a : Value) (b : Value) (K : Bool → WP) : WP :=
 slices_Equal_Field a b fun t7 =>
 K t7
theorem vary_Same_ok {a : Value} {b : Value} {K : Bool → WP} (w : World) (h : vary_Same_sh a b K w) : vary_Same a b K w :=
  fn_ok cx_ok (hi := .l) (fn := Tryz.f32) Tryz.func32 (by kernel_rfl) h

/- tollhouse/vary.Select -/
def vary_Select_sh (names : Value) (l : Value) (K : Value → WP) : WP :=
 oR (vS (Instr.box 23 l)) fun l_1 =>
 oR (vS (Instr.alloc 23 true (.tuple #[]))) fun out =>
 len 61 3 names fun t11 =>
 loopK [(12, (.int .i64))] (fun (j1 : Int → WP) => j1 0) (fun (j2 : Int → WP) (t12 : Int) =>
 condK (decide (t12 < t11))
 (iS 61 names .i64 t12 9 fun t15 =>
 oR (callS (.func (.func 64) #[] #[l_1, out]) #[(.string t15)]) fun _ =>
 ArK .i64 (t12 + 1) fun t19 =>
 j2 t19)
 (lR 23 out fun t20 =>
 K t20))
theorem vary_Select_ok {names : Value} {l : Value} {K : Value → WP} (w : World) (h : vary_Select_sh names l K w) : vary_Select names l K w :=
  fn_ok cx_ok (hi := (.n .l (.n .l (.n .l (.n (.n .l (.n (.p [(12, (.int .i64))] .l) .l)) .l))))) (fn := Tryz.f33) Tryz.func33 (by kernel_rfl) h

/- tollhouse/vary.Select$1 -/
def vary_Select_c1_sh (name : ByteArray) (t1 : Value) (t2 : Value) (K : Value → WP) : WP :=
 lR 23 t1 fun t5 =>
 head_Get t5 name fun t7 =>
 len 61 3 t7 fun t9 =>
 condK (decide (t9 > 0))
 (DrawK fun S =>
 sR S (vS (Instr.loadAt 23 t2)) fun t11 =>
 strings_Join t7 (⟨#[44, 32]⟩ : ByteArray) fun t14 =>
 andK S <|
 qR (vS (Instr.build 55 #[(0, (.string name)), (1, (.string t14))])) fun t15 =>
 oR (vS (Instr.buildSlice 23 1 #[(0, t15)])) fun t16 =>
 andK S <|
 app 23 23 23 t11 t16 fun t17 =>
 sto 23 t2 t17 <|
 K (.tuple #[]))
 (K (.tuple #[]))
theorem vary_Select_c1_ok {name : ByteArray} {t1 : Value} {t2 : Value} {K : Value → WP} (w : World) (h : vary_Select_c1_sh name t1 t2 K w) : vary_Select_c1 name t1 t2 K w :=
  fn_ok cx_ok (hi := (.n .l (.n .l (.n (.o (odR 0 8)) .l)))) (fn := Tryz.f64) Tryz.func64 (by kernel_rfl) h

/- slices.Equal[[]tollhouse/api.Field,tollhouse/api.Field] -/
def slices_Equal_Field_sh (s1 : Value) (s2 : Value) (K : Bool → WP) : WP :=
 len 23 3 s1 fun t7 =>
 len 23 3 s2 fun t9 =>
 condK (t7 != t9)
 (K false)
 (len 23 3 s1 fun t12 =>
 loopK [(13, (.int .i64))] (fun (j1 : Int → WP) => j1 0) (fun (j2 : Int → WP) (t13 : Int) =>
 condK (decide (t13 < t12))
 (DrawK fun S =>
 jR S 23 s1 .i64 t13 55 fun t19 =>
 jR S 23 s2 .i64 t13 55 fun t23 =>
 qB (bS .neq 55 (.tmp 19) (.tmp 23) t19 t23) fun t24 =>
 condK t24
 (K false)
 (ArK .i64 (t13 + 1) fun t25 =>
 j2 t25))
 (K true)))
theorem slices_Equal_Field_ok {s1 : Value} {s2 : Value} {K : Bool → WP} (w : World) (h : slices_Equal_Field_sh s1 s2 K w) : slices_Equal_Field s1 s2 K w :=
  fn_ok cx_ok (hi := (.n .l (.n .l (.n (.n .l (.n (.p [(13, (.int .i64))] (.n .l (.n .l (.n (.n (.n .l (.n (.o (odR 0 9)) .l)) .l) .l)))) .l)) .l)))) (fn := Tryz.f63) Tryz.func63 (by kernel_rfl) h

/- tollhouse/tollhouseref02.Lower -/
def ref02_Lower_sh (s : ByteArray) (K : ByteArray → WP) : WP :=
 loopK [(3, .raw), (4, (.int .i64))] (fun (j1 : Value → Int → WP) => j1 (.slice none 0 0) 0) (fun (j2 : Value → Int → WP) (b : Value) (i : Int) =>
 len 9 3 (.string s) fun t7 =>
 condK (decide (i < t7))
 (joinK [(20, .bool)] (fun (j3 : Bool → WP) =>
 oI .u8 (vS (Instr.index 9 (.string s) (.int .i64 i))) fun t13 =>
 condK (decide (t13 ≥ 65))
 (oI .u8 (vS (Instr.index 9 (.string s) (.int .i64 i))) fun t18 =>
 j3 (decide (t18 ≤ 90)))
 (j3 false))
 fun t20 =>
 condK t20
 (oI .u8 (vS (Instr.index 9 (.string s) (.int .i64 i))) fun t24 =>
 ArK .u8 (t24 + 32) fun t25 =>
 oR (vS (Instr.buildSlice 24 1 #[(0, (.int .u8 t25))])) fun t26 =>
 app 24 24 24 b t26 fun t27 =>
 ArK .i64 (i + 1) fun t10 =>
 j2 t27 t10)
 (oI .u8 (vS (Instr.index 9 (.string s) (.int .i64 i))) fun t31 =>
 oR (vS (Instr.buildSlice 24 1 #[(0, (.int .u8 t31))])) fun t32 =>
 app 24 24 24 b t32 fun t33 =>
 ArK .i64 (i + 1) fun t10_1 =>
 j2 t33 t10_1))
 (oS (vS (convert 24 9 b)) fun t35 =>
 K t35))
theorem ref02_Lower_ok {s : ByteArray} {K : ByteArray → WP} (w : World) (h : ref02_Lower_sh s K w) : ref02_Lower s K w :=
  fn_ok cx_ok (hi := (.n .l (.n .l (.n (.n .l (.n (.p [(3, .raw), (4, (.int .i64))] (.n .l (.n (.n (.n (.j [(20, .bool)] .l) .l) .l) .l))) .l)) .l)))) (fn := Tryz.f68) Tryz.func68 (by kernel_rfl) h

/- tollhouse/tollhouseref02.Same -/
def ref02_Same_sh (a : ByteArray) (b : ByteArray) (K : Bool → WP) : WP :=
 ref02_Lower a fun t6 =>
 ref02_Lower b fun t8 =>
 oB (bS .eql 9 (.tmp 6) (.tmp 8) (.string t6) (.string t8)) fun t9 =>
 K t9
theorem ref02_Same_ok {a : ByteArray} {b : ByteArray} {K : Bool → WP} (w : World) (h : ref02_Same_sh a b K w) : ref02_Same a b K w :=
  fn_ok cx_ok (hi := .l) (fn := Tryz.f69) Tryz.func69 (by kernel_rfl) h

/- tollhouse/tollhouseref02.quoted -/
def ref02_quoted_sh (s : ByteArray) (at_ : Int) (K : Int → WP) : WP :=
 ArK .i64 (at_ + 1) fun t6 =>
 loopK [(1, (.int .i64))] (fun (j1 : Int → WP) => j1 t6) (fun (j2 : Int → WP) (at__1 : Int) =>
 joinK [(16, .bool)] (fun (j3 : Bool → WP) =>
 len 9 3 (.string s) fun t9 =>
 condK (decide (at__1 < t9))
 (oI .u8 (vS (Instr.index 9 (.string s) (.int .i64 at__1))) fun t14 =>
 j3 (t14 != 34))
 (j3 false))
 fun t16 =>
 condK t16
 (oI .u8 (vS (Instr.index 9 (.string s) (.int .i64 at__1))) fun t19 =>
 condK (t19 == 92)
 (ArK .i64 (at__1 + 1) fun t22 =>
 ArK .i64 (t22 + 1) fun t24 =>
 j2 t24)
 (ArK .i64 (at__1 + 1) fun t24_1 =>
 j2 t24_1))
 (len 9 3 (.string s) fun t27 =>
 condK (decide (at__1 ≥ t27))
 (len 9 3 (.string s) fun t30 =>
 K t30)
 (ArK .i64 (at__1 + 1) fun t32 =>
 K t32)))
theorem ref02_quoted_ok {s : ByteArray} {at_ : Int} {K : Int → WP} (w : World) (h : ref02_quoted_sh s at_ K w) : ref02_quoted s at_ K w :=
  fn_ok cx_ok (hi := (.n .l (.n .l (.n (.n (.p [(1, (.int .i64))] (.n (.n (.j [(16, .bool)] .l) .l) .l)) .l) .l)))) (fn := Tryz.f97) Tryz.func97 (by kernel_rfl) h

/- tollhouse/tollhouseref02.Trim -/
def ref02_Trim_sh (s : ByteArray) (K : ByteArray → WP) : WP :=
 len 9 3 (.string s) fun t6 =>
 loopK [(3, (.int .i64))] (fun (j1 : Int → WP) => j1 0) (fun (j2 : Int → WP) (from_ : Int) =>
 condK (decide (from_ < t6))
 (oI .u8 (vS (Instr.index 9 (.string s) (.int .i64 from_))) fun t13 =>
 condK (t13 == 32)
 (ArK .i64 (from_ + 1) fun t23 =>
 j2 t23)
 (oI .u8 (vS (Instr.index 9 (.string s) (.int .i64 from_))) fun t18 =>
 condK (t18 == 9)
 (ArK .i64 (from_ + 1) fun t23_1 =>
 j2 t23_1)
 (loopK [(4, (.int .i64))] (fun (j3 : Int → WP) => j3 t6) (fun (j4 : Int → WP) (to : Int) =>
 condK (decide (from_ < to))
 (ArK .i64 (to - 1) fun t30 =>
 oI .u8 (vS (Instr.index 9 (.string s) (.int .i64 t30))) fun t31 =>
 condK (t31 == 32)
 (ArK .i64 (to - 1) fun t42 =>
 j4 t42)
 (ArK .i64 (to - 1) fun t36 =>
 oI .u8 (vS (Instr.index 9 (.string s) (.int .i64 t36))) fun t37 =>
 condK (t37 == 9)
 (ArK .i64 (to - 1) fun t42_1 =>
 j4 t42_1)
 (oS (vS (Instr.sliceAt 9 (.string s) (some (.int .i64 from_)) (some (.int .i64 to)) none)) fun t46 =>
 K t46)))
 (oS (vS (Instr.sliceAt 9 (.string s) (some (.int .i64 from_)) (some (.int .i64 to)) none)) fun t46_1 =>
 K t46_1)))))
 (loopK [(4, (.int .i64))] (fun (j5 : Int → WP) => j5 t6) (fun (j6 : Int → WP) (to_1 : Int) =>
 condK (decide (from_ < to_1))
 (ArK .i64 (to_1 - 1) fun t30_1 =>
 oI .u8 (vS (Instr.index 9 (.string s) (.int .i64 t30_1))) fun t31_1 =>
 condK (t31_1 == 32)
 (ArK .i64 (to_1 - 1) fun t42_2 =>
 j6 t42_2)
 (ArK .i64 (to_1 - 1) fun t36_1 =>
 oI .u8 (vS (Instr.index 9 (.string s) (.int .i64 t36_1))) fun t37_1 =>
 condK (t37_1 == 9)
 (ArK .i64 (to_1 - 1) fun t42_3 =>
 j6 t42_3)
 (oS (vS (Instr.sliceAt 9 (.string s) (some (.int .i64 from_)) (some (.int .i64 to_1)) none)) fun t46_2 =>
 K t46_2)))
 (oS (vS (Instr.sliceAt 9 (.string s) (some (.int .i64 from_)) (some (.int .i64 to_1)) none)) fun t46_3 =>
 K t46_3))))
theorem ref02_Trim_ok {s : ByteArray} {K : ByteArray → WP} (w : World) (h : ref02_Trim_sh s K w) : ref02_Trim s K w :=
  fn_ok cx_ok (hi := (.n .l (.n .l (.n (.n (.p [(3, (.int .i64))] .l) .l) (.n (.n (.p [(4, (.int .i64))] .l) .l) .l))))) (fn := Tryz.f98) Tryz.func98 (by kernel_rfl) h

/- tollhouse/tollhouseref02.List -/
def ref02_List_sh (s : ByteArray) (K : Value → WP) : WP :=
 loopK [(3, .raw), (4, (.int .i64)), (5, (.int .i64))] (fun (j1 : Value → Int → Int → WP) => j1 (.slice none 0 0) 0 0) (fun (j2 : Value → Int → Int → WP) (l : Value) (from_ : Int) (at_ : Int) =>
 len 9 3 (.string s) fun t9 =>
 condK (decide (at_ ≤ t9))
 (joinK [(20, .bool)] (fun (j3 : Bool → WP) =>
 len 9 3 (.string s) fun t13 =>
 condK (decide (at_ < t13))
 (oI .u8 (vS (Instr.index 9 (.string s) (.int .i64 at_))) fun t18 =>
 j3 (t18 == 34))
 (j3 false))
 fun t20 =>
 condK t20
 (ref02_quoted s at_ fun t23 =>
 j2 l from_ t23)
 (joinK [(33, .bool)] (fun (j4 : Bool → WP) =>
 len 9 3 (.string s) fun t26 =>
 condK (at_ == t26)
 (j4 true)
 (oI .u8 (vS (Instr.index 9 (.string s) (.int .i64 at_))) fun t31 =>
 j4 (t31 == 44)))
 fun t33 =>
 condK t33
 (oS (vS (Instr.sliceAt 9 (.string s) (some (.int .i64 from_)) (some (.int .i64 at_)) none)) fun t37 =>
 ref02_Trim t37 fun t38 =>
 oB (bS .neq 9 (.tmp 39) (.const (.string (⟨#[]⟩ : ByteArray))) (.string t38) (.string (⟨#[]⟩ : ByteArray))) fun t40 =>
 condK t40
 (oR (vS (Instr.buildSlice 61 1 #[(0, (.string t38))])) fun t43 =>
 app 61 61 61 l t43 fun t44 =>
 ArK .i64 (at_ + 1) fun t46 =>
 ArK .i64 (at_ + 1) fun t48 =>
 j2 t44 t46 t48)
 (ArK .i64 (at_ + 1) fun t46_1 =>
 ArK .i64 (at_ + 1) fun t48_1 =>
 j2 l t46_1 t48_1))
 (ArK .i64 (at_ + 1) fun t48_2 =>
 j2 l from_ t48_2)))
 (K l))
theorem ref02_List_ok {s : ByteArray} {K : Value → WP} (w : World) (h : ref02_List_sh s K w) : ref02_List s K w :=
  fn_ok cx_ok (hi := (.n .l (.n .l (.n .l (.n (.n .l (.n (.p [(3, .raw), (4, (.int .i64)), (5, (.int .i64))] (.n .l (.n (.n (.n (.j [(20, .bool)] .l) .l) (.n (.n (.j [(33, .bool)] .l) .l) .l)) .l))) .l)) .l))))) (fn := Tryz.f89) Tryz.func89 (by kernel_rfl) h

/- tollhouse/tollhouseref11.Elements -/
def ref11_Elements_sh (l : Value) (name : ByteArray) (K : Value → WP) : WP :=
 loopK [(5, .raw), (6, (.int .i64))] (fun (j1 : Value → Int → WP) => j1 (.slice none 0 0) 0) (fun (j2 : Value → Int → WP) (out : Value) (i : Int) =>
 len 23 3 l fun t9 =>
 condK (decide (i < t9))
 (oR (vS (Instr.indexAt 23 l (.int .i64 i))) fun t15 =>
 fS 55 t15 0 9 fun t17 =>
 ref02_Same t17 name fun t19 =>
 condK t19
 (oR (vS (Instr.indexAt 23 l (.int .i64 i))) fun t23 =>
 fS 55 t23 1 9 fun t25 =>
 ref02_List t25 fun t26 =>
 app 61 61 61 out t26 fun t27 =>
 ArK .i64 (i + 1) fun t12 =>
 j2 t27 t12)
 (ArK .i64 (i + 1) fun t12_1 =>
 j2 out t12_1))
 (K out))
theorem ref11_Elements_ok {l : Value} {name : ByteArray} {K : Value → WP} (w : World) (h : ref11_Elements_sh l name K w) : ref11_Elements l name K w :=
  fn_ok cx_ok (hi := (.n .l (.n .l (.n (.n .l (.n (.p [(5, .raw), (6, (.int .i64))] .l) .l)) .l)))) (fn := Tryz.f67) Tryz.func67 (by kernel_rfl) h

/- tollhouse/tollhouseref16.Names -/
def ref16_Names_sh (l : Value) (K : Value → Bool → WP) : WP :=
 ref11_Elements l (⟨#[118, 97, 114, 121]⟩ : ByteArray) fun t12 =>
 loopK [(4, .raw), (5, .bool), (7, (.int .i64))] (fun (j1 : Value → Bool → Int → WP) => j1 (.slice none 0 0) false 0) (fun (j2 : Value → Bool → Int → WP) (names : Value) (star : Bool) (i : Int) =>
 len 61 3 t12 fun t15 =>
 condK (decide (i < t15))
 (iS 61 t12 .i64 i 9 fun t22 =>
 ref02_Lower t22 fun t23 =>
 oB (bS .eql 9 (.tmp 24) (.const (.string (⟨#[42]⟩ : ByteArray))) (.string t23) (.string (⟨#[42]⟩ : ByteArray))) fun t25 =>
 condK t25
 (ArK .i64 (i + 1) fun t18 =>
 j2 names true t18)
 (loopK [(9, .bool), (10, (.int .i64))] (fun (j3 : Bool → Int → WP) => j3 false 0) (fun (j4 : Bool → Int → WP) (there : Bool) (k : Int) =>
 len 61 3 names fun t28 =>
 condK (decide (k < t28))
 (condK there
 (ArK .i64 (k + 1) fun t31 =>
 j4 true t31)
 (iS 61 names .i64 k 9 fun t37 =>
 oB (bS .eql 9 (.tmp 37) (.tmp 38) (.string t37) (.string t23)) fun t39 =>
 ArK .i64 (k + 1) fun t31_1 =>
 j4 t39 t31_1))
 (condK (!there)
 (oR (vS (Instr.buildSlice 61 1 #[(0, (.string t23))])) fun t45 =>
 app 61 61 61 names t45 fun t46 =>
 ArK .i64 (i + 1) fun t18_1 =>
 j2 t46 star t18_1)
 (ArK .i64 (i + 1) fun t18_2 =>
 j2 names star t18_2)))))
 (K names star))
theorem ref16_Names_ok {l : Value} {K : Value → Bool → WP} (w : World) (h : ref16_Names_sh l K w) : ref16_Names l K w :=
  fn_ok cx_ok (hi := (.n .l (.n .l (.n .l (.n .l (.n (.n .l (.n (.p [(4, .raw), (5, .bool), (7, (.int .i64))] (.n .l (.n (.n (.n .l (.n .l (.n .l (.n (.n .l (.n (.p [(9, .bool), (10, (.int .i64))] .l) .l)) .l)))) .l) .l))) .l)) .l)))))) (fn := Tryz.f34) Tryz.func34 (by kernel_rfl) h

/- tollhouse/tollhouseref16.Select -/
def ref16_Select_sh (names : Value) (l : Value) (K : Value → WP) : WP :=
 loopK [(5, .raw), (6, (.int .i64))] (fun (j1 : Value → Int → WP) => j1 (.slice none 0 0) 0) (fun (j2 : Value → Int → WP) (out : Value) (i : Int) =>
 len 61 3 names fun t12 =>
 condK (decide (i < t12))
 (loopK [(7, .str), (8, (.int .i64)), (9, (.int .i64))] (fun (j3 : ByteArray → Int → Int → WP) => j3 (⟨#[]⟩ : ByteArray) 0 0) (fun (j4 : ByteArray → Int → Int → WP) (value : ByteArray) (many : Int) (k : Int) =>
 len 23 3 l fun t18 =>
 condK (decide (k < t18))
 (DrawK fun S =>
 qR (vS (Instr.indexAt 23 l (.int .i64 k))) fun t24 =>
 gS S 55 t24 0 9 fun t26 =>
 jS S 61 names .i64 i 9 fun t30 =>
 ref02_Same t26 t30 fun t31 =>
 condK (!t31)
 (ArK .i64 (k + 1) fun t21 =>
 j4 value many t21)
 (joinK [(7, .str)] (fun (j5 : ByteArray → WP) =>
 condK (decide (many > 0))
 (oS (bS .add 9 (.tmp 35) (.const (.string (⟨#[44, 32]⟩ : ByteArray))) (.string value) (.string (⟨#[44, 32]⟩ : ByteArray))) fun t36 =>
 j5 t36)
 (j5 value))
 fun value_1 =>
 oR (vS (Instr.indexAt 23 l (.int .i64 k))) fun t40 =>
 fS 55 t40 1 9 fun t42 =>
 oS (bS .add 9 (.tmp 37) (.tmp 42) (.string value_1) (.string t42)) fun t43 =>
 ArK .i64 (many + 1) fun t45 =>
 ArK .i64 (k + 1) fun t21_1 =>
 j4 t43 t45 t21_1))
 (condK (decide (many > 0))
 (iS 61 names .i64 i 9 fun t52 =>
 oR (vS (Instr.build 55 #[(0, (.string t52)), (1, (.string value))])) fun t54 =>
 oR (vS (Instr.buildSlice 23 1 #[(0, t54)])) fun t55 =>
 app 23 23 23 out t55 fun t56 =>
 ArK .i64 (i + 1) fun t15 =>
 j2 t56 t15)
 (ArK .i64 (i + 1) fun t15_1 =>
 j2 out t15_1))))
 (K out))
theorem ref16_Select_ok {names : Value} {l : Value} {K : Value → WP} (w : World) (h : ref16_Select_sh names l K w) : ref16_Select names l K w :=
  fn_ok cx_ok (hi := (.n .l (.n .l (.n (.n .l (.n (.p [(5, .raw), (6, (.int .i64))] (.n .l (.n (.n (.n .l (.n (.n .l (.n (.p [(7, .str), (8, (.int .i64)), (9, (.int .i64))] (.n .l (.n (.n (.n (.n (.o (odR 0 11)) .l) (.n (.j [(7, .str)] .l) .l)) .l) .l))) .l)) .l)) .l) .l))) .l)) .l)))) (fn := Tryz.f35) Tryz.func35 (by kernel_rfl) h

/- tollhouse/tollhouseref16.Same -/
def ref16_Same_sh (a : Value) (b : Value) (K : Bool → WP) : WP :=
 len 23 3 a fun t7 =>
 len 23 3 b fun t9 =>
 condK (t7 != t9)
 (K false)
 (loopK [(5, (.int .i64))] (fun (j1 : Int → WP) => j1 0) (fun (j2 : Int → WP) (i : Int) =>
 len 23 3 a fun t13 =>
 condK (decide (i < t13))
 (DrawK fun S =>
 qR (vS (Instr.indexAt 23 a (.int .i64 i))) fun t19 =>
 gS S 55 t19 0 9 fun t21 =>
 qR (vS (Instr.indexAt 23 b (.int .i64 i))) fun t24 =>
 gS S 55 t24 0 9 fun t26 =>
 qB (bS .neq 9 (.tmp 21) (.tmp 26) (.string t21) (.string t26)) fun t27 =>
 condK t27
 (K false)
 (qR (vS (Instr.indexAt 23 a (.int .i64 i))) fun t31 =>
 gS S 55 t31 1 9 fun t33 =>
 qR (vS (Instr.indexAt 23 b (.int .i64 i))) fun t36 =>
 gS S 55 t36 1 9 fun t38 =>
 qB (bS .neq 9 (.tmp 33) (.tmp 38) (.string t33) (.string t38)) fun t39 =>
 condK t39
 (K false)
 (ArK .i64 (i + 1) fun t16 =>
 j2 t16)))
 (K true)))
theorem ref16_Same_ok {a : Value} {b : Value} {K : Bool → WP} (w : World) (h : ref16_Same_sh a b K w) : ref16_Same a b K w :=
  fn_ok cx_ok (hi := (.n .l (.n .l (.n (.n .l (.n (.p [(5, (.int .i64))] (.n .l (.n (.n (.n (.o (odR 0 24)) .l) .l) .l))) .l)) .l)))) (fn := Tryz.f14) Tryz.func14 (by kernel_rfl) h

/- slices.Clone[[]tollhouse/api.Field,tollhouse/api.Field] -/
def slices_Clone_Field_sh (s : Value) (K : Value → WP) : WP :=
 oB (bS .eql 23 (.tmp 3) (.const (.slice none 0 0)) s (.slice none 0 0)) fun t4 =>
 condK t4
 (K (.slice none 0 0))
 (oR (vS (Instr.buildSlice 23 0 #[])) fun t5 =>
 app 23 23 23 t5 s fun t7 =>
 K t7)
theorem slices_Clone_Field_ok {s : Value} {K : Value → WP} (w : World) (h : slices_Clone_Field_sh s K w) : slices_Clone_Field s K w :=
  fn_ok cx_ok (hi := .l) (fn := Tryz.f73) Tryz.func73 (by kernel_rfl) h

/- bytes.Clone -/
def bytes_Clone_sh (b : Value) (K : Value → WP) : WP :=
 oB (bS .eql 24 (.tmp 3) (.const (.slice none 0 0)) b (.slice none 0 0)) fun t4 =>
 condK t4
 (K (.slice none 0 0))
 (oR (vS (Instr.buildSlice 24 0 #[])) fun t5 =>
 app 24 24 24 t5 b fun t7 =>
 K t7)
theorem bytes_Clone_ok {b : Value} {K : Value → WP} (w : World) (h : bytes_Clone_sh b K w) : bytes_Clone b K w :=
  fn_ok cx_ok (hi := .l) (fn := Tryz.f74) Tryz.func74 (by kernel_rfl) h

/- tollhouse/tollhouseref09.Own -/
def ref09_Own_sh (b : Value) (K : Value → WP) : WP :=
 oR (vS (Builtin.append_ #[24, 24] 24 #[(.slice none 0 0), b])) fun t6 =>
 K t6
theorem ref09_Own_ok {b : Value} {K : Value → WP} (w : World) (h : ref09_Own_sh b K w) : ref09_Own b K w :=
  fn_ok cx_ok (hi := .l) (fn := Tryz.f53) Tryz.func53 (by kernel_rfl) h

/- tollhouse/tollhouseref09.SameFields -/
def ref09_SameFields_sh (a : Value) (b : Value) (K : Bool → WP) : WP :=
 len 23 3 a fun t7 =>
 len 23 3 b fun t9 =>
 condK (t7 != t9)
 (K false)
 (loopK [(5, (.int .i64))] (fun (j1 : Int → WP) => j1 0) (fun (j2 : Int → WP) (i : Int) =>
 len 23 3 a fun t13 =>
 condK (decide (i < t13))
 (DrawK fun S =>
 jR S 23 a .i64 i 55 fun t20 =>
 jR S 23 b .i64 i 55 fun t24 =>
 qB (bS .neq 55 (.tmp 20) (.tmp 24) t20 t24) fun t25 =>
 condK t25
 (K false)
 (ArK .i64 (i + 1) fun t16 =>
 j2 t16))
 (K true)))
theorem ref09_SameFields_ok {a : Value} {b : Value} {K : Bool → WP} (w : World) (h : ref09_SameFields_sh a b K w) : ref09_SameFields a b K w :=
  fn_ok cx_ok (hi := (.n .l (.n .l (.n (.n .l (.n (.p [(5, (.int .i64))] (.n .l (.n (.n (.n (.o (odR 0 9)) .l) .l) .l))) .l)) .l)))) (fn := Tryz.f48) Tryz.func48 (by kernel_rfl) h

/- tollhouse/tollhouseref09.SameResponse -/
def ref09_SameResponse_sh (a : Value) (b : Value) (K : Bool → WP) : WP :=
 oR (vS (Instr.box 26 a)) fun a_1 =>
 oR (vS (Instr.box 26 b)) fun b_1 =>
 fI 26 a_1 0 3 .i64 fun t6 =>
 fI 26 b_1 0 3 .i64 fun t8 =>
 condK (t6 == t8)
 (fS 26 a_1 1 9 fun t12 =>
 fS 26 b_1 1 9 fun t14 =>
 oB (bS .eql 9 (.tmp 12) (.tmp 14) (.string t12) (.string t14)) fun t15 =>
 condK t15
 (fI 26 a_1 2 3 .i64 fun t19 =>
 fI 26 b_1 2 3 .i64 fun t21 =>
 condK (t19 == t21)
 (fR 26 a_1 3 23 fun t26 =>
 fR 26 b_1 3 23 fun t28 =>
 ref09_SameFields t26 t28 fun t29 =>
 condK t29
 (fR 26 a_1 4 24 fun t33 =>
 oS (vS (convert 24 9 t33)) fun t34 =>
 fR 26 b_1 4 24 fun t36 =>
 oS (vS (convert 24 9 t36)) fun t37 =>
 oB (bS .eql 9 (.tmp 34) (.tmp 37) (.string t34) (.string t37)) fun t38 =>
 K t38)
 (K false))
 (K false))
 (K false))
 (K false)
theorem ref09_SameResponse_ok {a : Value} {b : Value} {K : Bool → WP} (w : World) (h : ref09_SameResponse_sh a b K w) : ref09_SameResponse a b K w :=
  fn_ok cx_ok (hi := .l) (fn := Tryz.f49) Tryz.func49 (by kernel_rfl) h

end Go.Proofs.YtfofnagocedlgaaGreatDoor
