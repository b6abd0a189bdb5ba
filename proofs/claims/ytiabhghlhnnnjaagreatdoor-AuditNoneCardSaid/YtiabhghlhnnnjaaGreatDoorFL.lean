/-
  FUNCTIONS AS PLAIN TERMS, printed by shx.py.
-/
import Derived.Test.YtiabhghlhnnnjaaGreatDoorWd
set_option linter.unusedVariables false
set_option maxRecDepth 100000
namespace Go.Proofs.YtiabhghlhnnnjaaGreatDoor
open Go Sh
/- tollhouse/text.Lower -/
def text_Lower_sh (s : ByteArray) (K : ByteArray → WP) : WP :=
 oR (vS (convert 9 42 (.string s))) fun t7 =>
 len 42 3 t7 fun t9 =>
 loopK [(10, (.int .i64))] (fun (j1 : Int → WP) => j1 0) (fun (j2 : Int → WP) (t10 : Int) =>
 condK (decide (t10 < t9))
 (iI 42 t7 .i64 t10 5 .u8 fun t14 =>
 joinK [(20, .bool)] (fun (j3 : Bool → WP) =>
 condK (decide (t14 ≥ 65))
 (j3 (decide (t14 ≤ 90)))
 (j3 false))
 fun t20 =>
 condK t20
 (ArK .u8 (t14 + 97) fun t24 =>
 ArK .u8 (t24 - 65) fun t25 =>
 iW 42 t7 .i64 t10 5 (.int .u8 t25) <|
 ArK .i64 (t10 + 1) fun t27 =>
 j2 t27)
 (ArK .i64 (t10 + 1) fun t27_1 =>
 j2 t27_1))
 (oS (vS (convert 42 9 t7)) fun t29 =>
 K t29))
theorem text_Lower_ok {s : ByteArray} {K : ByteArray → WP} (w : World) (h : text_Lower_sh s K w) : text_Lower s K w :=
  fn_ok cx_ok (hi := (.n .l (.n .l (.n (.n .l (.n (.p [(10, (.int .i64))] (.n .l (.n .l (.n (.n (.n .l (.n (.j [(20, .bool)] .l) .l)) .l) .l)))) .l)) .l)))) (fn := Tryz.f76) Tryz.func76 (by kernel_rfl) h

end Go.Proofs.YtiabhghlhnnnjaaGreatDoor
