/-
  FUNCTIONS AS PLAIN TERMS, printed by shx.py.
-/
import Derived.Test.YtiabhghlhnnnjaaGreatDoorWd
set_option linter.unusedVariables false
set_option maxRecDepth 100000
namespace Go.Proofs.YtiabhghlhnnnjaaGreatDoor
open Go Sh
/- tollhouse/audit.Look -/
def audit_Look_sh (p : Value) (c_ : Value) (K : Value → Int → WP) : WP :=
 oR (vS (Instr.box 33 c_)) fun c__1 =>
 proxy_Proxy_Machines p fun t10 =>
 condK (t10 == 0)
 (K (.slice none 0 0) 2)
 (proxy_Proxy_Machines p fun t13 =>
 loopK [(6, .raw), (14, (.int .i64))] (fun (j1 : Value → Int → WP) => j1 (.slice none 0 0) 0) (fun (j2 : Value → Int → WP) (l : Value) (t14 : Int) =>
 condK (decide (t14 < t13))
 (oR (vS (Instr.alloc 24 true (.tuple #[]))) fun t =>
 joinK [] (fun (j3 : WP) =>
 fR 33 c__1 0 31 fun t19 =>
 len 31 3 t19 fun t20 =>
 condK (decide (t14 < t20))
 (fR 33 c__1 0 31 fun t23 =>
 iR 31 t23 .i64 t14 24 fun t26 =>
 sto 24 t t26 <|
 j3)
 (j3))
 <|
 DrawK fun S =>
 sR S (vS (Instr.loadAt 24 t)) fun t31 =>
 proxy_Proxy_Machine p t14 fun t30 =>
 andK S <|
 audit_Machine t30 t31 t14 fun t33 =>
 app 27 27 27 l t33 fun t34 =>
 andK S <|
 ArK .i64 (t14 + 1) fun t35 =>
 j2 t34 t35)
 (K l 0)))
theorem audit_Look_ok {p : Value} {c_ : Value} {K : Value → Int → WP} (w : World) (h : audit_Look_sh p c_ K w) : audit_Look p c_ K w :=
  fn_ok cx_ok (hi := (.n .l (.n .l (.n .l (.n (.n .l (.n (.p [(6, .raw), (14, (.int .i64))] (.n .l (.n .l (.n (.n (.n .l (.n .l (.n (.j [] .l) (.o (odL [0, 1, 2, 4, 5, 3, 6, 7, 8]))))) .l) .l)))) .l)) .l))))) (fn := Tryz.f4) Tryz.func4 (by kernel_rfl) h

/- tollhouse/audit.Machine -/
def audit_Machine_sh (m : Value) (t : Value) (number : Int) (K : Value → WP) : WP :=
 oR (vS (Instr.box 24 t)) fun t_1 =>
 tenant_Machine_Store m fun t8 =>
 oB (bS .eql 54 (.tmp 8) (.const (.pointer none)) t8 (.pointer none)) fun t9 =>
 condK t9
 (lR 24 t_1 fun t11 =>
 oR (vS (Instr.buildSlice 93 1 #[(0, (.func (.func 15) #[] #[]))])) fun t13 =>
 audit_gather m t11 number 4 t13 fun t14 =>
 K t14)
 (lR 24 t_1 fun t16 =>
 oR (vS (Instr.buildSlice 93 5 #[(0, (.func (.func 16) #[] #[])), (1, (.func (.func 17) #[] #[])), (2, (.func (.func 18) #[] #[])), (3, (.func (.func 15) #[] #[])), (4, (.func (.func 19) #[] #[]))])) fun t18 =>
 audit_gather m t16 number 1 t18 fun t19 =>
 K t19)
theorem audit_Machine_ok {m : Value} {t : Value} {number : Int} {K : Value → WP} (w : World) (h : audit_Machine_sh m t number K w) : audit_Machine m t number K w :=
  fn_ok cx_ok (hi := .l) (fn := Tryz.f6) Tryz.func6 (by kernel_rfl) h

/- tollhouse/audit.gather -/
def audit_gather_sh (m : Value) (t : Value) (number : Int) (first : Int) (rules : Value) (K : Value → WP) : WP :=
 oR (vS (Instr.box 24 t)) fun t_1 =>
 oR (vS (Instr.box 3 (.int .i64 number))) fun number_1 =>
 oR (vS (Instr.box 3 (.int .i64 first))) fun first_1 =>
 oR (vS (Instr.alloc 27 true (.tuple #[]))) fun l =>
 len 93 3 rules fun t15 =>
 loopK [(16, (.int .i64))] (fun (j1 : Int → WP) => j1 0) (fun (j2 : Int → WP) (t16 : Int) =>
 condK (decide (t16 < t15))
 (iR 93 rules .i64 t16 94 fun t20 =>
 oR (vS (Instr.alloc 3 true (.tuple #[]))) fun k =>
 sto 3 k (.int .i64 t16) <|
 lR 24 t_1 fun t23 =>
 oR (callS t20 #[m, t23, (.func (.func 32) #[] #[l, first_1, k, number_1])]) fun _ =>
 ArK .i64 (t16 + 1) fun t26 =>
 j2 t26)
 (lR 27 l fun t27 =>
 K t27))
theorem audit_gather_ok {m : Value} {t : Value} {number : Int} {first : Int} {rules : Value} {K : Value → WP} (w : World) (h : audit_gather_sh m t number first rules K w) : audit_gather m t number first rules K w :=
  fn_ok cx_ok (hi := (.n .l (.n .l (.n (.n .l (.n (.p [(16, (.int .i64))] .l) .l)) .l)))) (fn := Tryz.f14) Tryz.func14 (by kernel_rfl) h

/- tollhouse/audit.slots -/
def audit_slots_sh (m : Value) (t : Value) (found : Value) (K : Value → WP) : WP :=
 oR (vS (Instr.box 24 t)) fun _ =>
 tenant_Machine_Door m fun t11 =>
 door_Door_Slots t11 fun t12 =>
 loopK [(13, (.int .i64))] (fun (j1 : Int → WP) => j1 0) (fun (j2 : Int → WP) (t13 : Int) =>
 condK (decide (t13 < t12))
 (tenant_Machine_Of m t13 fun _ t19_1 =>
 tenant_Machine_Door m fun t23 =>
 door_Door_State t23 t13 fun t25 =>
 joinK [(40, .bool)] (fun (j3 : Bool → WP) =>
 condK (t25 == 2)
 (oB (bS .neq 4 (.tmp 31) (.tmp 32) (.bool true) (.bool t19_1)) fun t33 =>
 condK t33
 (j3 true)
 (tenant_Machine_Door m fun t36 =>
 door_Door_Held t36 t13 fun t38 =>
 j3 (decide (t38 > 16384))))
 (oB (bS .neq 4 (.tmp 31) (.tmp 32) (.bool (t25 == 3)) (.bool t19_1)) fun t33_1 =>
 condK t33_1
 (j3 true)
 (tenant_Machine_Door m fun t36_1 =>
 door_Door_Held t36_1 t13 fun t38_1 =>
 j3 (decide (t38_1 > 16384)))))
 fun t40 =>
 condK t40
 (oR (callS found #[(.int .i64 t13)]) fun _ =>
 ArK .i64 (t13 + 1) fun t44 =>
 j2 t44)
 (ArK .i64 (t13 + 1) fun t44_1 =>
 j2 t44_1))
 (K (.tuple #[])))
theorem audit_slots_ok {m : Value} {t : Value} {found : Value} {K : Value → WP} (w : World) (h : audit_slots_sh m t found K w) : audit_slots m t found K w :=
  fn_ok cx_ok (hi := (.n .l (.n .l (.n (.p [(13, (.int .i64))] (.n .l (.n .l (.n (.n (.n .l (.n .l (.n .l (.n (.j [(40, .bool)] .l) .l)))) .l) .l)))) .l)))) (fn := Tryz.f15) Tryz.func15 (by kernel_rfl) h

/- (*tollhouse/proxy.Proxy).Machines -/
def proxy_Proxy_Machines_sh (p : Value) (K : Int → WP) : WP :=
 oB (bS .eql 25 (.tmp 3) (.const (.pointer none)) p (.pointer none)) fun t4 =>
 condK t4
 (K 0)
 (nR 61 p 0 58 fun t8 =>
 len 58 3 t8 fun t9 =>
 K t9)
theorem proxy_Proxy_Machines_ok {p : Value} {K : Int → WP} (w : World) (h : proxy_Proxy_Machines_sh p K w) : proxy_Proxy_Machines p K w :=
  fn_ok cx_ok (hi := .l) (fn := Tryz.f7) Tryz.func7 (by kernel_rfl) h

/- (*tollhouse/tenant.Machine).Store -/
def tenant_Machine_Store_sh (m : Value) (K : Value → WP) : WP :=
 oB (bS .eql 26 (.tmp 3) (.const (.pointer none)) m (.pointer none)) fun t4 =>
 condK t4
 (K (.pointer none))
 (nR 92 m 3 54 fun t8 =>
 K t8)
theorem tenant_Machine_Store_ok {m : Value} {K : Value → WP} (w : World) (h : tenant_Machine_Store_sh m K w) : tenant_Machine_Store m K w :=
  fn_ok cx_ok (hi := .l) (fn := Tryz.f13) Tryz.func13 (by kernel_rfl) h

/- (*tollhouse/tenant.Machine).Door -/
def tenant_Machine_Door_sh (m : Value) (K : Value → WP) : WP :=
 oB (bS .eql 26 (.tmp 3) (.const (.pointer none)) m (.pointer none)) fun t4 =>
 condK t4
 (K (.pointer none))
 (nR 92 m 2 75 fun t8 =>
 K t8)
theorem tenant_Machine_Door_ok {m : Value} {K : Value → WP} (w : World) (h : tenant_Machine_Door_sh m K w) : tenant_Machine_Door m K w :=
  fn_ok cx_ok (hi := .l) (fn := Tryz.f33) Tryz.func33 (by kernel_rfl) h

/- (*tollhouse/door.Door).Slots -/
def door_Door_Slots_sh (d : Value) (K : Int → WP) : WP :=
 oB (bS .eql 75 (.tmp 3) (.const (.pointer none)) d (.pointer none)) fun t4 =>
 condK t4
 (K 0)
 (nI 145 d 1 3 .i64 fun t8 =>
 K t8)
theorem door_Door_Slots_ok {d : Value} {K : Int → WP} (w : World) (h : door_Door_Slots_sh d K w) : door_Door_Slots d K w :=
  fn_ok cx_ok (hi := .l) (fn := Tryz.f34) Tryz.func34 (by kernel_rfl) h

/- tollhouse/tollhouselaw29.AuditNone -/
def law29_AuditNone_sh (t : Value) (number : Int) (K : Bool → WP) : WP :=
 oR (vS (Instr.box 24 t)) fun t_1 =>
 oR (vS (Instr.build 33 #[])) fun t11 =>
 audit_Look (.pointer none) t11 fun _ t12_1 =>
 law29_awake fun t15 =>
 condK t15
 (condK (t12_1 == 2)
 (lR 24 t_1 fun t22 =>
 audit_Machine (.pointer none) t22 number fun t24 =>
 len 27 3 t24 fun t25 =>
 K (t25 == 0))
 (K false))
 (K false)
theorem law29_AuditNone_ok {t : Value} {number : Int} {K : Bool → WP} (w : World) (h : law29_AuditNone_sh t number K w) : law29_AuditNone t number K w :=
  fn_ok cx_ok (hi := .l) (fn := Tryz.f3) Tryz.func3 (by kernel_rfl) h

end Go.Proofs.YtiabhghlhnnnjaaGreatDoor
