/-
  FUNCTIONS AS PLAIN TERMS, printed by shx.py.
-/
import Derived.Test.YtinijbijcnihhaaCx
set_option linter.unusedVariables false
set_option maxRecDepth 100000
namespace Go.Proofs.Ytinijbijcnihhaa
open Go Sh
/- tollhouse/bucket.New -/
def bucket_New_sh (rate : Int) (burst : Int) (now : Int) (K : Value → Int → WP) : WP :=
  joinK [(25, .bool)] (fun (j1 : Bool → WP) =>
  condK (decide (rate < 1))
  (j1 true)
  (condK (decide (rate > 1000))
  (j1 true)
  (condK (decide (burst < 1))
  (j1 true)
  (condK (decide (burst > 1000))
  (j1 true)
  (j1 (decide (now > 4503599627370496)))))))
  fun (t25 : Bool) =>
  condK t25
  (K (.pointer none) 1)
  (OpK P (.one .raw) (vS (convert 3 72 (.int .i64 rate))) fun (t27 : Value) =>
  OpK P (.one .raw) (vS (convert 3 72 (.int .i64 burst))) fun (t29 : Value) =>
  OpK P (.one .raw) (vS (convert 3 72 (.int .i64 burst))) fun (t31 : Value) =>
  OpK P (.one .raw) (bS .mul 72 (.tmp 31) (.const (.float .f64 4652007308841189376)) t31 (.float .f64 4652007308841189376)) fun (t32 : Value) =>
  OpK P (.one .raw) (vS (convert 27 72 (.int .u64 now))) fun (t34 : Value) =>
  OpK P (.one .raw) (vS (Builtin.complex_ #[72, 72] 73 #[t32, t34])) fun (t35 : Value) =>
  OpK P (.one .raw) (vS (Instr.build 75 #[(0, t27), (1, t29), (2, t35)])) fun (t36 : Value) =>
  OpK P (.one .raw) (vS (Instr.box 75 t36)) fun (t37 : Value) =>
  K t37 0)
theorem bucket_New_ok (rate : Int) (burst : Int) (now : Int) (K : Value → Int → WP) (w : World) (h : bucket_New_sh rate burst now K w) : FnK P (.tup [.raw, (.int .i64)]) 10 #[(.int .i64 rate), (.int .i64 burst), (.int .u64 now)] K w :=
  fn_ok cx_ok (hi := (.n .l (.n (.n (.j [(25, .bool)] .l) .l) .l))) (fn := Try.f10) Try.func10 (by kernel_rfl : fnK cx _ _ [(.int .i64 rate), (.int .i64 burst), (.int .u64 now)] (unR (.tup [.raw, (.int .i64)]) K) = bucket_New_sh rate burst now K) h

/- (*tollhouse/bucket.Bucket).looked -/
def bucket_Bucket_looked_sh (b : Value) (now : Int) (K : Value → WP) : WP :=
  NilK b <|
  OpK P (.one .raw) (vS (Instr.fieldAt 75 b 1)) fun (t10 : Value) =>
  OpK P (.one .raw) (vS (Instr.loadAt 72 t10)) fun (t11 : Value) =>
  OpK P (.one .raw) (bS .mul 72 (.tmp 11) (.const (.float .f64 4652007308841189376)) t11 (.float .f64 4652007308841189376)) fun (t12 : Value) =>
  OpK P (.one .raw) (vS (convert 27 72 (.int .u64 now))) fun (t14 : Value) =>
  NilK b <|
  OpK P (.one .raw) (vS (Instr.fieldAt 75 b 2)) fun (t17 : Value) =>
  OpK P (.one .raw) (vS (Instr.loadAt 73 t17)) fun (t18 : Value) =>
  OpK P (.one .raw) (vS (Builtin.imag_ #[73] 72 #[t18])) fun (t19 : Value) =>
  OpK P (.one .raw) (bS .sub 72 (.tmp 14) (.tmp 19) t14 t19) fun (t20 : Value) =>
  OpK P (.one .bool) (bS .leq 72 (.tmp 21) (.const (.float .f64 0)) t20 (.float .f64 0)) fun (t22 : Bool) =>
  condK t22
  (NilK b <|
  OpK P (.one .raw) (vS (Instr.fieldAt 75 b 2)) fun (t25 : Value) =>
  OpK P (.one .raw) (vS (Instr.loadAt 73 t25)) fun (t26 : Value) =>
  K t26)
  (NilK b <|
  OpK P (.one .raw) (vS (Instr.fieldAt 75 b 0)) fun (t29 : Value) =>
  OpK P (.one .raw) (vS (Instr.loadAt 72 t29)) fun (t30 : Value) =>
  OpK P (.one .raw) (vS (Builtin.min_ #[72, 72] 72 #[t20, t12])) fun (t33 : Value) =>
  OpK P (.one .raw) (bS .mul 72 (.tmp 30) (.tmp 33) t30 t33) fun (t34 : Value) =>
  NilK b <|
  OpK P (.one .raw) (vS (Instr.fieldAt 75 b 2)) fun (t38 : Value) =>
  OpK P (.one .raw) (vS (Instr.loadAt 73 t38)) fun (t39 : Value) =>
  OpK P (.one .raw) (vS (Builtin.real_ #[73] 72 #[t39])) fun (t40 : Value) =>
  OpK P (.one .raw) (bS .add 72 (.tmp 40) (.tmp 41) t40 t34) fun (t42 : Value) =>
  OpK P (.one .raw) (vS (Builtin.min_ #[72, 72] 72 #[t12, t42])) fun (t43 : Value) =>
  OpK P (.one .raw) (vS (convert 27 72 (.int .u64 now))) fun (t45 : Value) =>
  OpK P (.one .raw) (vS (Builtin.complex_ #[72, 72] 73 #[t43, t45])) fun (t46 : Value) =>
  K t46)
theorem bucket_Bucket_looked_ok (b : Value) (now : Int) (K : Value → WP) (w : World) (h : bucket_Bucket_looked_sh b now K w) : FnK P (.one .raw) 30 #[b, (.int .u64 now)] K w :=
  fn_ok cx_ok (hi := .l) (fn := Try.f30) Try.func30 (by kernel_rfl : fnK cx _ _ [b, (.int .u64 now)] (unR (.one .raw) K) = bucket_Bucket_looked_sh b now K) h

/- (*tollhouse/bucket.Bucket).Take -/
def bucket_Bucket_Take_sh (b : Value) (now : Int) (K : Bool → Int → WP) : WP :=
  joinK [(6, .bool)] (fun (j1 : Bool → WP) =>
  OpK P (.one .bool) (bS .eql 28 (.tmp 7) (.const (.pointer none)) b (.pointer none)) fun (t8 : Bool) =>
  condK t8
  (j1 true)
  (NilK b <|
  OpK P (.one .raw) (vS (Instr.fieldAt 75 b 0)) fun (t12 : Value) =>
  OpK P (.one .raw) (vS (Instr.loadAt 72 t12)) fun (t13 : Value) =>
  OpK P (.one .bool) (bS .eql 72 (.tmp 13) (.const (.float .f64 0)) t13 (.float .f64 0)) fun (t14 : Bool) =>
  j1 t14))
  fun (t6 : Bool) =>
  condK t6
  (K false 2)
  (condK (decide (now > 4503599627370496))
  (K false 1)
  (FnK P (.one .raw) 30 #[b, (.int .u64 now)] fun (t22 : Value) =>
  NilK b <|
  OpK P (.one .raw) (vS (Instr.fieldAt 75 b 2)) fun (t24 : Value) =>
  OpK P (.one .raw) (uS (Instr.storeAt 73 t24 t22)) fun (_ : Value) =>
  NilK b <|
  OpK P (.one .raw) (vS (Instr.fieldAt 75 b 2)) fun (t27 : Value) =>
  OpK P (.one .raw) (vS (Instr.loadAt 73 t27)) fun (t28 : Value) =>
  OpK P (.one .raw) (vS (Builtin.real_ #[73] 72 #[t28])) fun (t29 : Value) =>
  OpK P (.one .bool) (bS .lss 72 (.tmp 29) (.const (.float .f64 4652007308841189376)) t29 (.float .f64 4652007308841189376)) fun (t30 : Bool) =>
  condK t30
  (K false 0)
  (NilK b <|
  OpK P (.one .raw) (vS (Instr.fieldAt 75 b 2)) fun (t33 : Value) =>
  OpK P (.one .raw) (vS (Instr.loadAt 73 t33)) fun (t34 : Value) =>
  OpK P (.one .raw) (bS .sub 73 (.tmp 34) (.const (.complex .f64 4652007308841189376 0)) t34 (.complex .f64 4652007308841189376 0)) fun (t35 : Value) =>
  NilK b <|
  OpK P (.one .raw) (vS (Instr.fieldAt 75 b 2)) fun (t37 : Value) =>
  OpK P (.one .raw) (uS (Instr.storeAt 73 t37 t35)) fun (_ : Value) =>
  K true 0)))
theorem bucket_Bucket_Take_ok (b : Value) (now : Int) (K : Bool → Int → WP) (w : World) (h : bucket_Bucket_Take_sh b now K w) : FnK P (.tup [.bool, (.int .i64)]) 12 #[b, (.int .u64 now)] K w :=
  fn_ok cx_ok (hi := (.n .l (.n (.n (.n (.j [(6, .bool)] .l) .l) .l) .l))) (fn := Try.f12) Try.func12 (by kernel_rfl : fnK cx _ _ [b, (.int .u64 now)] (unR (.tup [.bool, (.int .i64)]) K) = bucket_Bucket_Take_sh b now K) h

/- (*tollhouse/bucket.Bucket).Left -/
def bucket_Bucket_Left_sh (b : Value) (now : Int) (K : Int → WP) : WP :=
  joinK [(10, .bool)] (fun (j1 : Bool → WP) =>
  OpK P (.one .bool) (bS .eql 28 (.tmp 5) (.const (.pointer none)) b (.pointer none)) fun (t6 : Bool) =>
  condK t6
  (j1 true)
  (j1 (decide (now > 4503599627370496))))
  fun (t10 : Bool) =>
  condK t10
  (K 0)
  (FnK P (.one .raw) 30 #[b, (.int .u64 now)] fun (t13 : Value) =>
  OpK P (.one .raw) (vS (Builtin.real_ #[73] 72 #[t13])) fun (t14 : Value) =>
  OpK P (.one .raw) (bS .quo 72 (.tmp 14) (.const (.float .f64 4652007308841189376)) t14 (.float .f64 4652007308841189376)) fun (t15 : Value) =>
  OpK P (.one (.int .i64)) (vS (convert 72 3 t15)) fun (t16 : Int) =>
  K t16)
theorem bucket_Bucket_Left_ok (b : Value) (now : Int) (K : Int → WP) (w : World) (h : bucket_Bucket_Left_sh b now K w) : FnK P (.one (.int .i64)) 13 #[b, (.int .u64 now)] K w :=
  fn_ok cx_ok (hi := (.n .l (.n (.n (.j [(10, .bool)] .l) .l) .l))) (fn := Try.f13) Try.func13 (by kernel_rfl : fnK cx _ _ [b, (.int .u64 now)] (unR (.one (.int .i64)) K) = bucket_Bucket_Left_sh b now K) h

/- tollhouse/tollhouselaw13.awake -/
def law13_awake_sh (K : Bool → WP) : WP :=
  FnK P (.tup [.raw, (.int .i64)]) 10 #[(.int .i64 2), (.int .i64 3), (.int .u64 0)] fun (t12 : Value) (t12_1 : Int) =>
  condK (t12_1 != 0)
  (K false)
  (OpK P (.one .raw) (vS (Instr.buildSlice 76 4 #[(0, (.bool true)), (1, (.bool true)), (2, (.bool true)), (3, (.bool false))])) fun (t17 : Value) =>
  OpK P (.one (.int .i64)) (vS (Builtin.len_ #[76] 3 #[t17])) fun (t18 : Int) =>
  loopK [(19, (.int .i64))] (fun (j1 : Int → WP) => j1 0) (fun (j2 : Int → WP) (t19 : Int) =>
  condK (decide (t19 < t18))
  (OpK P (.one .raw) (vS (Instr.indexAt 76 t17 (.int .i64 t19))) fun (t21 : Value) =>
  OpK P (.one .bool) (vS (Instr.loadAt 4 t21)) fun (t22 : Bool) =>
  FnK P (.tup [.bool, (.int .i64)]) 12 #[t12, (.int .u64 0)] fun (t25 : Bool) (t25_1 : Int) =>
  condK (t25_1 != 0)
  (K false)
  (OpK P (.one .bool) (bS .neq 4 (.tmp 31) (.tmp 32) (.bool t25) (.bool t22)) fun (t33 : Bool) =>
  condK t33
  (K false)
  (ArK .i64 (t19 + 1) fun (t35 : Int) =>
  j2 t35)))
  (FnK P (.tup [.bool, (.int .i64)]) 12 #[t12, (.int .u64 499)] fun (t38 : Bool) (_ : Int) =>
  FnK P (.tup [.bool, (.int .i64)]) 12 #[t12, (.int .u64 500)] fun (t43 : Bool) (_ : Int) =>
  condK (!t38)
  (condK t43
  (FnK P (.one (.int .i64)) 13 #[t12, (.int .u64 1500)] fun (t53 : Int) =>
  K (t53 == 2))
  (K false))
  (K false))))
theorem law13_awake_ok (K : Bool → WP) (w : World) (h : law13_awake_sh  K w) : FnK P (.one .bool) 11 #[] K w :=
  fn_ok cx_ok (hi := (.n .l (.n .l (.n .l (.n (.n .l (.n (.p [(19, (.int .i64))] .l) .l)) .l))))) (fn := Try.f11) Try.func11 (by kernel_rfl : fnK cx _ _ [] (unR (.one .bool) K) = law13_awake_sh  K) h

/- tollhouse/tollhouselaw13.BucketNever -/
def law13_BucketNever_sh (w_ : Value) (K : Bool → WP) : WP :=
  OpK P (.one .raw) (vS (Instr.box 26 w_)) fun (w__1 : Value) =>
  DrawK fun (S : WP) =>
  PuK P (.one .raw) (vS (Instr.fieldAt 26 w__1 0)) fun (t15 : Value) =>
  StK P S (.one (.int .u16)) (vS (Instr.loadAt 22 t15)) fun (t16 : Int) =>
  PuK P (.one (.int .u16)) (bS .rem 22 (.tmp 16) (.const (.int .u16 1000)) (.int .u16 t16) (.int .u16 1000)) fun (t17 : Int) =>
  StK P S (.one (.int .i64)) (vS (convert 22 3 (.int .u16 t17))) fun (t18 : Int) =>
  ArK .i64 (1 + t18) fun (t19 : Int) =>
  PuK P (.one .raw) (vS (Instr.fieldAt 26 w__1 1)) fun (t20 : Value) =>
  StK P S (.one (.int .u16)) (vS (Instr.loadAt 22 t20)) fun (t21 : Int) =>
  PuK P (.one (.int .u16)) (bS .rem 22 (.tmp 21) (.const (.int .u16 1000)) (.int .u16 t21) (.int .u16 1000)) fun (t22 : Int) =>
  StK P S (.one (.int .i64)) (vS (convert 22 3 (.int .u16 t22))) fun (t23 : Int) =>
  ArK .i64 (1 + t23) fun (t24 : Int) =>
  OpK P (.one .raw) (vS (Instr.fieldAt 26 w__1 2)) fun (t25 : Value) =>
  OpK P (.one (.int .u32)) (vS (Instr.loadAt 23 t25)) fun (t26 : Int) =>
  OpK P (.one (.int .u64)) (vS (convert 23 27 (.int .u32 t26))) fun (t27 : Int) =>
  FnK P (.tup [.raw, (.int .i64)]) 10 #[(.int .i64 t19), (.int .i64 t24), (.int .u64 t27)] fun (t32 : Value) (t32_1 : Int) =>
  joinK [(40, .bool)] (fun (j1 : Bool → WP) =>
  FnK P (.one .bool) 11 #[] fun (t35 : Bool) =>
  condK (!t35)
  (j1 true)
  (j1 (t32_1 != 0)))
  fun (t40 : Bool) =>
  condK t40
  (K false)
  (joinK [(8, (.int .i64))] (fun (j2 : Int → WP) =>
  OpK P (.one .raw) (vS (Instr.fieldAt 26 w__1 3)) fun (t41 : Value) =>
  OpK P (.one .raw) (vS (Instr.loadAt 24 t41)) fun (t42 : Value) =>
  OpK P (.one (.int .i64)) (vS (Builtin.len_ #[24] 3 #[t42])) fun (t43 : Int) =>
  condK (decide (t43 > 0))
  (OpK P (.one .raw) (vS (Instr.fieldAt 26 w__1 4)) fun (t45 : Value) =>
  OpK P (.one (.int .u16)) (vS (Instr.loadAt 22 t45)) fun (t46 : Int) =>
  OpK P (.one (.int .i64)) (vS (convert 22 3 (.int .u16 t46))) fun (t47 : Int) =>
  OpK P (.one .raw) (vS (Instr.fieldAt 26 w__1 3)) fun (t48 : Value) =>
  OpK P (.one .raw) (vS (Instr.loadAt 24 t48)) fun (t49 : Value) =>
  OpK P (.one (.int .i64)) (vS (Builtin.len_ #[24] 3 #[t49])) fun (t50 : Int) =>
  OpK P (.one (.int .i64)) (bS .rem 3 (.tmp 47) (.tmp 50) (.int .i64 t47) (.int .i64 t50)) fun (t51 : Int) =>
  j2 t51)
  (j2 0))
  fun (from_ : Int) =>
  OpK P (.one .raw) (vS (Instr.fieldAt 26 w__1 3)) fun (t53 : Value) =>
  OpK P (.one .raw) (vS (Instr.loadAt 24 t53)) fun (t54 : Value) =>
  OpK P (.one (.int .i64)) (vS (Builtin.len_ #[24] 3 #[t54])) fun (t55 : Int) =>
  loopK [(5, (.int .u64)), (9, (.int .u64)), (10, (.int .i64)), (56, (.int .i64))] (fun (j3 : Int → Int → Int → Int → WP) => j3 t27 t27 0 0) (fun (j4 : Int → Int → Int → Int → WP) (now : Int) (began : Int) (taken : Int) (t56 : Int) =>
  condK (decide (t56 < t55))
  (OpK P (.one .raw) (vS (Instr.indexAt 24 t54 (.int .i64 t56))) fun (t59 : Value) =>
  OpK P (.one (.int .u32)) (vS (Instr.loadAt 23 t59)) fun (t60 : Int) =>
  OpK P (.one (.int .u32)) (bS .rem 23 (.tmp 62) (.const (.int .u32 100001)) (.int .u32 t60) (.int .u32 100001)) fun (t63 : Int) =>
  OpK P (.one (.int .u64)) (vS (convert 23 27 (.int .u32 t63))) fun (t64 : Int) =>
  ArK .u64 (now + t64) fun (t65 : Int) =>
  joinK [(9, (.int .u64)), (10, (.int .i64))] (fun (j5 : Int → Int → WP) =>
  condK (t56 == from_)
  (j5 t65 0)
  (j5 began taken))
  fun (began_1 : Int) (taken_1 : Int) =>
  FnK P (.tup [.bool, (.int .i64)]) 12 #[t32, (.int .u64 t65)] fun (t73 : Bool) (t73_1 : Int) =>
  condK (t73_1 != 0)
  (K false)
  (joinK [(10, (.int .i64))] (fun (j6 : Int → WP) =>
  condK t73
  (ArK .i64 (taken_1 + 1) fun (t80 : Int) =>
  j6 t80)
  (j6 taken_1))
  fun (taken_2 : Int) =>
  OpK P (.one (.int .u64)) (vS (convert 3 27 (.int .i64 taken_2))) fun (t82 : Int) =>
  OpK P (.one (.int .u64)) (vS (convert 3 27 (.int .i64 t24))) fun (t84 : Int) =>
  OpK P (.one (.int .u64)) (vS (convert 3 27 (.int .i64 t19))) fun (t86 : Int) =>
  ArK .u64 (t65 - began_1) fun (t89 : Int) =>
  ArK .u64 (t86 * t89) fun (t90 : Int) =>
  OpK P (.one (.int .u64)) (bS .quo 27 (.tmp 90) (.const (.int .u64 1000)) (.int .u64 t90) (.int .u64 1000)) fun (t91 : Int) =>
  ArK .u64 (t84 + t91) fun (t92 : Int) =>
  condK (decide (t82 > t92))
  (K false)
  (ArK .i64 (t56 + 1) fun (t94 : Int) =>
  j4 t65 began_1 taken_2 t94)))
  (K true)))
theorem law13_BucketNever_ok (w_ : Value) (K : Bool → WP) (w : World) (h : law13_BucketNever_sh w_ K w) : FnK P (.one .bool) 3 #[w_] K w :=
  fn_ok cx_ok (hi := (.n .l (.n (.o (odR 0 12)) (.n .l (.n .l (.n (.n (.j [(40, .bool)] .l) .l) (.n .l (.n (.j [(8, (.int .i64))] .l) (.n .l (.n (.n .l (.n (.p [(5, (.int .u64)), (9, (.int .u64)), (10, (.int .i64)), (56, (.int .i64))] (.n .l (.n .l (.n (.n (.n .l (.n .l (.n (.j [(9, (.int .u64)), (10, (.int .i64))] .l) (.n .l (.n .l (.n (.j [(10, (.int .i64))] .l) .l)))))) .l) .l)))) .l)) .l)))))))))) (fn := Try.f3) Try.func3 (by kernel_rfl : fnK cx _ _ [w_] (unR (.one .bool) K) = law13_BucketNever_sh w_ K) h

/- tollhouse/tollhouselaw13.BucketAlways -/
def law13_BucketAlways_sh (w_ : Value) (K : Bool → WP) : WP :=
  OpK P (.one .raw) (vS (Instr.box 26 w_)) fun (w__1 : Value) =>
  DrawK fun (S : WP) =>
  PuK P (.one .raw) (vS (Instr.fieldAt 26 w__1 0)) fun (t18 : Value) =>
  StK P S (.one (.int .u16)) (vS (Instr.loadAt 22 t18)) fun (t19 : Int) =>
  PuK P (.one (.int .u16)) (bS .rem 22 (.tmp 19) (.const (.int .u16 1000)) (.int .u16 t19) (.int .u16 1000)) fun (t20 : Int) =>
  StK P S (.one (.int .i64)) (vS (convert 22 3 (.int .u16 t20))) fun (t21 : Int) =>
  ArK .i64 (1 + t21) fun (t22 : Int) =>
  PuK P (.one .raw) (vS (Instr.fieldAt 26 w__1 1)) fun (t23 : Value) =>
  StK P S (.one (.int .u16)) (vS (Instr.loadAt 22 t23)) fun (t24 : Int) =>
  PuK P (.one (.int .u16)) (bS .rem 22 (.tmp 24) (.const (.int .u16 1000)) (.int .u16 t24) (.int .u16 1000)) fun (t25 : Int) =>
  StK P S (.one (.int .i64)) (vS (convert 22 3 (.int .u16 t25))) fun (t26 : Int) =>
  ArK .i64 (1 + t26) fun (t27 : Int) =>
  OpK P (.one .raw) (vS (Instr.fieldAt 26 w__1 2)) fun (t28 : Value) =>
  OpK P (.one (.int .u32)) (vS (Instr.loadAt 23 t28)) fun (t29 : Int) =>
  OpK P (.one (.int .u64)) (vS (convert 23 27 (.int .u32 t29))) fun (t30 : Int) =>
  FnK P (.tup [.raw, (.int .i64)]) 10 #[(.int .i64 t22), (.int .i64 t27), (.int .u64 t30)] fun (t35 : Value) (t35_1 : Int) =>
  joinK [(43, .bool)] (fun (j1 : Bool → WP) =>
  FnK P (.one .bool) 11 #[] fun (t38 : Bool) =>
  condK (!t38)
  (j1 true)
  (j1 (t35_1 != 0)))
  fun (t43 : Bool) =>
  condK t43
  (K false)
  (joinK [(5, (.int .u64))] (fun (j2 : Int → WP) =>
  OpK P (.one .raw) (vS (Instr.fieldAt 26 w__1 3)) fun (t44 : Value) =>
  OpK P (.one .raw) (vS (Instr.loadAt 24 t44)) fun (t45 : Value) =>
  OpK P (.one (.int .i64)) (vS (Builtin.len_ #[24] 3 #[t45])) fun (t46 : Int) =>
  loopK [(5, (.int .u64)), (47, (.int .i64))] (fun (j3 : Int → Int → WP) => j3 t30 0) (fun (j4 : Int → Int → WP) (now : Int) (t47 : Int) =>
  condK (decide (t47 < t46))
  (OpK P (.one .raw) (vS (Instr.indexAt 24 t45 (.int .i64 t47))) fun (t50 : Value) =>
  OpK P (.one (.int .u32)) (vS (Instr.loadAt 23 t50)) fun (t51 : Int) =>
  OpK P (.one (.int .u32)) (bS .rem 23 (.tmp 53) (.const (.int .u32 2000)) (.int .u32 t51) (.int .u32 2000)) fun (t54 : Int) =>
  OpK P (.one (.int .u64)) (vS (convert 23 27 (.int .u32 t54))) fun (t55 : Int) =>
  ArK .u64 (now + t55) fun (t56 : Int) =>
  condK (t47 == 2000)
  (j2 t56)
  (FnK P (.tup [.bool, (.int .i64)]) 12 #[t35, (.int .u64 t56)] fun (t62 : Bool) (t62_1 : Int) =>
  condK (t62_1 != 0)
  (K false)
  (condK t62
  (ArK .i64 (t47 + 1) fun (t88 : Int) =>
  j4 t56 t88)
  (ArK .i64 (1000 + t22) fun (t70 : Int) =>
  ArK .i64 (t70 - 1) fun (t71 : Int) =>
  OpK P (.one (.int .i64)) (bS .quo 3 (.tmp 71) (.tmp 72) (.int .i64 t71) (.int .i64 t22)) fun (t73 : Int) =>
  OpK P (.one (.int .u64)) (vS (convert 3 27 (.int .i64 t73))) fun (t74 : Int) =>
  ArK .u64 (t56 + t74) fun (t75 : Int) =>
  FnK P (.tup [.bool, (.int .i64)]) 12 #[t35, (.int .u64 t75)] fun (t79 : Bool) (t79_1 : Int) =>
  condK (t79_1 != 0)
  (K false)
  (condK (!t79)
  (K false)
  (ArK .i64 (t47 + 1) fun (t88_1 : Int) =>
  j4 t75 t88_1))))))
  (j2 now)))
  fun (now_1 : Int) =>
  FnK P (.one (.int .i64)) 13 #[t35, (.int .u64 now_1)] fun (t91 : Int) =>
  loopK [(93, (.int .i64))] (fun (j5 : Int → WP) => j5 0) (fun (j6 : Int → WP) (t93 : Int) =>
  condK (decide (t93 < t91))
  (FnK P (.tup [.bool, (.int .i64)]) 12 #[t35, (.int .u64 now_1)] fun (t98 : Bool) (t98_1 : Int) =>
  condK (t98_1 != 0)
  (K false)
  (condK (!t98)
  (K false)
  (ArK .i64 (t93 + 1) fun (t107 : Int) =>
  j6 t107)))
  (FnK P (.tup [.bool, (.int .i64)]) 12 #[t35, (.int .u64 now_1)] fun (t111 : Bool) (t111_1 : Int) =>
  condK (t111_1 == 0)
  (condK (!t111)
  (K (decide (t91 ≤ t27)))
  (K false))
  (K false))))
theorem law13_BucketAlways_ok (w_ : Value) (K : Bool → WP) (w : World) (h : law13_BucketAlways_sh w_ K w) : FnK P (.one .bool) 4 #[w_] K w :=
  fn_ok cx_ok (hi := (.n .l (.n (.o (odR 0 12)) (.n .l (.n .l (.n (.n (.j [(43, .bool)] .l) .l) (.n (.j [(5, (.int .u64))] (.n .l (.n (.p [(5, (.int .u64)), (47, (.int .i64))] .l) .l))) (.n .l (.n (.n .l (.n (.p [(93, (.int .i64))] .l) .l)) .l))))))))) (fn := Try.f4) Try.func4 (by kernel_rfl : fnK cx _ _ [w_] (unR (.one .bool) K) = law13_BucketAlways_sh w_ K) h

/- tollhouse/tollhouseref13.New -/
def ref13_New_sh (rate : Int) (burst : Int) (now : Int) (K : Value → Int → WP) : WP :=
  joinK [(25, .bool)] (fun (j1 : Bool → WP) =>
  condK (decide (rate < 1))
  (j1 true)
  (condK (decide (rate > 1000))
  (j1 true)
  (condK (decide (burst < 1))
  (j1 true)
  (condK (decide (burst > 1000))
  (j1 true)
  (j1 (decide (now > 4503599627370496)))))))
  fun (t25 : Bool) =>
  condK t25
  (K (.pointer none) 1)
  (OpK P (.one (.int .u64)) (vS (convert 3 27 (.int .i64 rate))) fun (t27 : Int) =>
  OpK P (.one (.int .u64)) (vS (convert 3 27 (.int .i64 burst))) fun (t29 : Int) =>
  OpK P (.one (.int .u64)) (vS (convert 3 27 (.int .i64 burst))) fun (t31 : Int) =>
  ArK .u64 (1000 * t31) fun (t32 : Int) =>
  OpK P (.one .raw) (vS (Instr.build 79 #[(0, (.int .u64 t27)), (1, (.int .u64 t29)), (2, (.int .u64 t32)), (3, (.int .u64 now))])) fun (t34 : Value) =>
  OpK P (.one .raw) (vS (Instr.box 79 t34)) fun (t35 : Value) =>
  K t35 0)
theorem ref13_New_ok (rate : Int) (burst : Int) (now : Int) (K : Value → Int → WP) (w : World) (h : ref13_New_sh rate burst now K w) : FnK P (.tup [.raw, (.int .i64)]) 14 #[(.int .i64 rate), (.int .i64 burst), (.int .u64 now)] K w :=
  fn_ok cx_ok (hi := (.n .l (.n (.n (.j [(25, .bool)] .l) .l) .l))) (fn := Try.f14) Try.func14 (by kernel_rfl : fnK cx _ _ [(.int .i64 rate), (.int .i64 burst), (.int .u64 now)] (unR (.tup [.raw, (.int .i64)]) K) = ref13_New_sh rate burst now K) h

/- (*tollhouse/tollhouseref13.Bucket).Look -/
def ref13_Bucket_Look_sh (b : Value) (now : Int) (K : Value → WP) : WP :=
  NilK b <|
  OpK P (.one .raw) (vS (Instr.fieldAt 79 b 3)) fun (t7 : Value) =>
  OpK P (.one (.int .u64)) (vS (Instr.loadAt 27 t7)) fun (t8 : Int) =>
  condK (decide (now ≤ t8))
  (K (.tuple #[]))
  (DrawK fun (S : WP) =>
  NilK b <|
  PuK P (.one .raw) (vS (Instr.fieldAt 79 b 2)) fun (t12 : Value) =>
  StK P S (.one (.int .u64)) (vS (Instr.loadAt 27 t12)) fun (t13 : Int) =>
  NilK b <|
  PuK P (.one .raw) (vS (Instr.fieldAt 79 b 0)) fun (t16 : Value) =>
  StK P S (.one (.int .u64)) (vS (Instr.loadAt 27 t16)) fun (t17 : Int) =>
  NilK b <|
  PuK P (.one .raw) (vS (Instr.fieldAt 79 b 3)) fun (t21 : Value) =>
  StK P S (.one (.int .u64)) (vS (Instr.loadAt 27 t21)) fun (t22 : Int) =>
  ArK .u64 (now - t22) fun (t23 : Int) =>
  ArK .u64 (t17 * t23) fun (t24 : Int) =>
  ArK .u64 (t13 + t24) fun (t25 : Int) =>
  NilK b <|
  PuK P (.one .raw) (vS (Instr.fieldAt 79 b 2)) fun (t27 : Value) =>
  OpK P (.one .raw) (uS (Instr.storeAt 27 t27 (.int .u64 t25))) fun (_ : Value) =>
  DrawK fun (S : WP) =>
  NilK b <|
  PuK P (.one .raw) (vS (Instr.fieldAt 79 b 2)) fun (t30 : Value) =>
  StK P S (.one (.int .u64)) (vS (Instr.loadAt 27 t30)) fun (t31 : Int) =>
  NilK b <|
  PuK P (.one .raw) (vS (Instr.fieldAt 79 b 1)) fun (t34 : Value) =>
  StK P S (.one (.int .u64)) (vS (Instr.loadAt 27 t34)) fun (t35 : Int) =>
  ArK .u64 (1000 * t35) fun (t36 : Int) =>
  condK (decide (t31 > t36))
  (NilK b <|
  OpK P (.one .raw) (vS (Instr.fieldAt 79 b 1)) fun (t41 : Value) =>
  OpK P (.one (.int .u64)) (vS (Instr.loadAt 27 t41)) fun (t42 : Int) =>
  ArK .u64 (1000 * t42) fun (t43 : Int) =>
  NilK b <|
  OpK P (.one .raw) (vS (Instr.fieldAt 79 b 2)) fun (t45 : Value) =>
  OpK P (.one .raw) (uS (Instr.storeAt 27 t45 (.int .u64 t43))) fun (_ : Value) =>
  NilK b <|
  OpK P (.one .raw) (vS (Instr.fieldAt 79 b 3)) fun (t49 : Value) =>
  OpK P (.one .raw) (uS (Instr.storeAt 27 t49 (.int .u64 now))) fun (_ : Value) =>
  K (.tuple #[]))
  (NilK b <|
  OpK P (.one .raw) (vS (Instr.fieldAt 79 b 3)) fun (t49_1 : Value) =>
  OpK P (.one .raw) (uS (Instr.storeAt 27 t49_1 (.int .u64 now))) fun (_ : Value) =>
  K (.tuple #[])))
theorem ref13_Bucket_Look_ok (b : Value) (now : Int) (K : Value → WP) (w : World) (h : ref13_Bucket_Look_sh b now K w) : FnK P (.one .raw) 31 #[b, (.int .u64 now)] K w :=
  fn_ok cx_ok (hi := (.n .l (.n (.o (odR 0 19)) (.n (.n (.o (odR 0 10)) .l) .l)))) (fn := Try.f31) Try.func31 (by kernel_rfl : fnK cx _ _ [b, (.int .u64 now)] (unR (.one .raw) K) = ref13_Bucket_Look_sh b now K) h

/- (*tollhouse/tollhouseref13.Bucket).Left -/
def ref13_Bucket_Left_sh (b : Value) (now : Int) (K : Int → WP) : WP :=
  condK (decide (now > 4503599627370496))
  (K 0)
  (DrawK fun (S : WP) =>
  NilK b <|
  PuK P (.one .raw) (vS (Instr.fieldAt 79 b 0)) fun (t10 : Value) =>
  StK P S (.one (.int .u64)) (vS (Instr.loadAt 27 t10)) fun (t11 : Int) =>
  NilK b <|
  PuK P (.one .raw) (vS (Instr.fieldAt 79 b 1)) fun (t14 : Value) =>
  StK P S (.one (.int .u64)) (vS (Instr.loadAt 27 t14)) fun (t15 : Int) =>
  NilK b <|
  PuK P (.one .raw) (vS (Instr.fieldAt 79 b 2)) fun (t18 : Value) =>
  StK P S (.one (.int .u64)) (vS (Instr.loadAt 27 t18)) fun (t19 : Int) =>
  NilK b <|
  PuK P (.one .raw) (vS (Instr.fieldAt 79 b 3)) fun (t22 : Value) =>
  StK P S (.one (.int .u64)) (vS (Instr.loadAt 27 t22)) fun (t23 : Int) =>
  PuK P (.one .raw) (vS (Instr.build 79 #[(0, (.int .u64 t11)), (1, (.int .u64 t15)), (2, (.int .u64 t19)), (3, (.int .u64 t23))])) fun (t24 : Value) =>
  OpK P (.one .raw) (vS (Instr.box 79 t24)) fun (t25 : Value) =>
  andK S <|
  FnK P (.one .raw) 31 #[t25, (.int .u64 now)] fun (_ : Value) =>
  NilK t25 <|
  OpK P (.one .raw) (vS (Instr.fieldAt 79 t25 2)) fun (t31 : Value) =>
  OpK P (.one (.int .u64)) (vS (Instr.loadAt 27 t31)) fun (t32 : Int) =>
  OpK P (.one (.int .u64)) (bS .quo 27 (.tmp 32) (.const (.int .u64 1000)) (.int .u64 t32) (.int .u64 1000)) fun (t33 : Int) =>
  OpK P (.one (.int .i64)) (vS (convert 27 3 (.int .u64 t33))) fun (t34 : Int) =>
  K t34)
theorem ref13_Bucket_Left_ok (b : Value) (now : Int) (K : Int → WP) (w : World) (h : ref13_Bucket_Left_sh b now K w) : FnK P (.one (.int .i64)) 15 #[b, (.int .u64 now)] K w :=
  fn_ok cx_ok (hi := (.n .l (.n .l (.n (.o (odR 0 19)) .l)))) (fn := Try.f15) Try.func15 (by kernel_rfl : fnK cx _ _ [b, (.int .u64 now)] (unR (.one (.int .i64)) K) = ref13_Bucket_Left_sh b now K) h

/- (*tollhouse/bucket.Bucket).Copy -/
def bucket_Bucket_Copy_sh (b : Value) (K : Value → WP) : WP :=
  OpK P (.one .bool) (bS .eql 28 (.tmp 4) (.const (.pointer none)) b (.pointer none)) fun (t5 : Bool) =>
  condK t5
  (K (.pointer none))
  (NilK b <|
  OpK P (.one .raw) (vS (Instr.loadAt 75 b)) fun (t8 : Value) =>
  OpK P (.one .raw) (vS (Instr.alloc 75 true (.tuple #[]))) fun (x : Value) =>
  OpK P (.one .raw) (uS (Instr.storeAt 75 x t8)) fun (_ : Value) =>
  K x)
theorem bucket_Bucket_Copy_ok (b : Value) (K : Value → WP) (w : World) (h : bucket_Bucket_Copy_sh b K w) : FnK P (.one .raw) 16 #[b] K w :=
  fn_ok cx_ok (hi := .l) (fn := Try.f16) Try.func16 (by kernel_rfl : fnK cx _ _ [b] (unR (.one .raw) K) = bucket_Bucket_Copy_sh b K) h

/- (*tollhouse/tollhouseref13.Bucket).Take -/
def ref13_Bucket_Take_sh (b : Value) (now : Int) (K : Bool → Int → WP) : WP :=
  condK (decide (now > 4503599627370496))
  (K false 1)
  (FnK P (.one .raw) 31 #[b, (.int .u64 now)] fun (_ : Value) =>
  NilK b <|
  OpK P (.one .raw) (vS (Instr.fieldAt 79 b 2)) fun (t13 : Value) =>
  OpK P (.one (.int .u64)) (vS (Instr.loadAt 27 t13)) fun (t14 : Int) =>
  condK (decide (t14 < 1000))
  (K false 0)
  (NilK b <|
  OpK P (.one .raw) (vS (Instr.fieldAt 79 b 2)) fun (t18 : Value) =>
  OpK P (.one (.int .u64)) (vS (Instr.loadAt 27 t18)) fun (t19 : Int) =>
  ArK .u64 (t19 - 1000) fun (t20 : Int) =>
  NilK b <|
  OpK P (.one .raw) (vS (Instr.fieldAt 79 b 2)) fun (t22 : Value) =>
  OpK P (.one .raw) (uS (Instr.storeAt 27 t22 (.int .u64 t20))) fun (_ : Value) =>
  K true 0))
theorem ref13_Bucket_Take_ok (b : Value) (now : Int) (K : Bool → Int → WP) (w : World) (h : ref13_Bucket_Take_sh b now K w) : FnK P (.tup [.bool, (.int .i64)]) 17 #[b, (.int .u64 now)] K w :=
  fn_ok cx_ok (hi := .l) (fn := Try.f17) Try.func17 (by kernel_rfl : fnK cx _ _ [b, (.int .u64 now)] (unR (.tup [.bool, (.int .i64)]) K) = ref13_Bucket_Take_sh b now K) h

/- tollhouse/tollhouselaw13.BucketPlays -/
def law13_BucketPlays_sh (rate : Int) (burst : Int) (times : Value) (K : Bool → WP) : WP :=
  FnK P (.one .bool) 11 #[] fun (t20 : Bool) =>
  condK (!t20)
  (K false)
  (joinK [(7, (.int .u64))] (fun (j1 : Int → WP) =>
  OpK P (.one (.int .i64)) (vS (Builtin.len_ #[37] 3 #[times])) fun (t23 : Int) =>
  condK (decide (t23 > 0))
  (OpK P (.one .raw) (vS (Instr.indexAt 37 times (.int .i64 0))) fun (t26 : Value) =>
  OpK P (.one (.int .u64)) (vS (Instr.loadAt 27 t26)) fun (t27 : Int) =>
  j1 t27)
  (j1 0))
  fun (start : Int) =>
  FnK P (.tup [.raw, (.int .i64)]) 10 #[(.int .i64 rate), (.int .i64 burst), (.int .u64 start)] fun (t32 : Value) (t32_1 : Int) =>
  FnK P (.tup [.raw, (.int .i64)]) 14 #[(.int .i64 rate), (.int .i64 burst), (.int .u64 start)] fun (t39 : Value) (t39_1 : Int) =>
  joinK [(51, .bool)] (fun (j2 : Bool → WP) =>
  condK (t32_1 != t39_1)
  (j2 true)
  (OpK P (.one .bool) (bS .eql 28 (.tmp 46) (.const (.pointer none)) t32 (.pointer none)) fun (t47 : Bool) =>
  OpK P (.one .bool) (bS .eql 38 (.tmp 48) (.const (.pointer none)) t39 (.pointer none)) fun (t49 : Bool) =>
  OpK P (.one .bool) (bS .neq 4 (.tmp 47) (.tmp 49) (.bool t47) (.bool t49)) fun (t50 : Bool) =>
  j2 t50))
  fun (t51 : Bool) =>
  condK t51
  (K false)
  (OpK P (.one .bool) (bS .eql 38 (.tmp 52) (.const (.pointer none)) t39 (.pointer none)) fun (t53 : Bool) =>
  condK t53
  (K true)
  (OpK P (.one (.int .i64)) (vS (Builtin.len_ #[37] 3 #[times])) fun (t55 : Int) =>
  loopK [(8, .raw), (56, (.int .i64))] (fun (j3 : Value → Int → WP) => j3 t32 0) (fun (j4 : Value → Int → WP) (b : Value) (t56 : Int) =>
  condK (decide (t56 < t55))
  (OpK P (.one .raw) (vS (Instr.indexAt 37 times (.int .i64 t56))) fun (t59 : Value) =>
  OpK P (.one (.int .u64)) (vS (Instr.loadAt 27 t59)) fun (t60 : Int) =>
  OpK P (.one (.int .i64)) (vS (Builtin.len_ #[37] 3 #[times])) fun (t63 : Int) =>
  ArK .i64 (t63 - 1) fun (t64 : Int) =>
  ArK .i64 (t64 - t56) fun (t66 : Int) =>
  OpK P (.one .raw) (vS (Instr.indexAt 37 times (.int .i64 t66))) fun (t67 : Value) =>
  OpK P (.one (.int .u64)) (vS (Instr.loadAt 27 t67)) fun (t68 : Int) =>
  joinK [(84, .bool)] (fun (j5 : Bool → WP) =>
  FnK P (.one (.int .i64)) 13 #[b, (.int .u64 t68)] fun (t71 : Int) =>
  FnK P (.one (.int .i64)) 15 #[t39, (.int .u64 t68)] fun (t74 : Int) =>
  condK (t71 != t74)
  (j5 true)
  (FnK P (.one (.int .i64)) 13 #[b, (.int .u64 t60)] fun (t79 : Int) =>
  FnK P (.one (.int .i64)) 15 #[t39, (.int .u64 t60)] fun (t82 : Int) =>
  j5 (t79 != t82)))
  fun (t84 : Bool) =>
  condK t84
  (K false)
  (joinK [(8, .raw)] (fun (j6 : Value → WP) =>
  OpK P (.one (.int .i64)) (bS .rem 3 (.tmp 85) (.const (.int .i64 5)) (.int .i64 t56) (.int .i64 5)) fun (t86 : Int) =>
  condK (t86 == 4)
  (FnK P (.one .raw) 16 #[b] fun (t89 : Value) =>
  FnK P (.tup [.bool, (.int .i64)]) 12 #[b, (.int .u64 t60)] fun (_ : Bool) (_ : Int) =>
  OpK P (.one .bool) (bS .eql 28 (.tmp 94) (.const (.pointer none)) t89 (.pointer none)) fun (t95 : Bool) =>
  condK t95
  (K false)
  (j6 t89))
  (j6 b))
  fun (b_1 : Value) =>
  FnK P (.tup [.bool, (.int .i64)]) 12 #[b_1, (.int .u64 t60)] fun (t99 : Bool) (t99_1 : Int) =>
  FnK P (.tup [.bool, (.int .i64)]) 17 #[t39, (.int .u64 t60)] fun (t105 : Bool) (t105_1 : Int) =>
  OpK P (.one .bool) (bS .neq 4 (.tmp 108) (.tmp 109) (.bool t99) (.bool t105)) fun (t110 : Bool) =>
  condK t110
  (K false)
  (condK (t99_1 != t105_1)
  (K false)
  (ArK .i64 (t56 + 1) fun (t116 : Int) =>
  j4 b_1 t116))))
  (K true)))))
theorem law13_BucketPlays_ok (rate : Int) (burst : Int) (times : Value) (K : Bool → WP) (w : World) (h : law13_BucketPlays_sh rate burst times K w) : FnK P (.one .bool) 5 #[(.int .i64 rate), (.int .i64 burst), times] K w :=
  fn_ok cx_ok (hi := (.n .l (.n .l (.n .l (.n (.j [(7, (.int .u64))] .l) (.n .l (.n .l (.n (.n (.j [(51, .bool)] .l) .l) (.n .l (.n (.n .l (.n (.p [(8, .raw), (56, (.int .i64))] (.n .l (.n .l (.n (.n (.n .l (.n .l (.n (.n (.j [(84, .bool)] .l) .l) (.n (.j [(8, .raw)] .l) .l)))) .l) .l)))) .l)) .l)))))))))) (fn := Try.f5) Try.func5 (by kernel_rfl : fnK cx _ _ [(.int .i64 rate), (.int .i64 burst), times] (unR (.one .bool) K) = law13_BucketPlays_sh rate burst times K) h

/- tollhouse/tollhouselaw13.BucketKnown -/
def law13_BucketKnown_sh (K : Bool → WP) : WP :=
  FnK P (.tup [.raw, (.int .i64)]) 10 #[(.int .i64 0), (.int .i64 1), (.int .u64 0)] fun (_ : Value) (t29_1 : Int) =>
  FnK P (.tup [.raw, (.int .i64)]) 10 #[(.int .i64 1), (.int .i64 1001), (.int .u64 0)] fun (_ : Value) (t33_1 : Int) =>
  FnK P (.tup [.raw, (.int .i64)]) 10 #[(.int .i64 1001), (.int .i64 1), (.int .u64 0)] fun (_ : Value) (t37_1 : Int) =>
  FnK P (.tup [.raw, (.int .i64)]) 10 #[(.int .i64 1), (.int .i64 0), (.int .u64 0)] fun (_ : Value) (t41_1 : Int) =>
  FnK P (.tup [.raw, (.int .i64)]) 10 #[(.int .i64 1), (.int .i64 1), (.int .u64 4503599627370497)] fun (_ : Value) (t45_1 : Int) =>
  FnK P (.tup [.raw, (.int .i64)]) 10 #[(.int .i64 1000), (.int .i64 1000), (.int .u64 0)] fun (t49 : Value) (t49_1 : Int) =>
  joinK [(59, .bool)] (fun (j1 : Bool → WP) =>
  FnK P (.one .bool) 11 #[] fun (t53 : Bool) =>
  condK (!t53)
  (j1 true)
  (j1 (t49_1 != 0)))
  fun (t59 : Bool) =>
  condK t59
  (K false)
  (loopK [(60, (.int .i64))] (fun (j2 : Int → WP) => j2 0) (fun (j3 : Int → WP) (t60 : Int) =>
  condK (decide (t60 < 1000))
  (FnK P (.tup [.bool, (.int .i64)]) 12 #[t49, (.int .u64 0)] fun (t64 : Bool) (_ : Int) =>
  condK (!t64)
  (K false)
  (ArK .i64 (t60 + 1) fun (t69 : Int) =>
  j3 t69))
  (FnK P (.tup [.bool, (.int .i64)]) 12 #[t49, (.int .u64 0)] fun (t72 : Bool) (_ : Int) =>
  FnK P (.one (.int .i64)) 13 #[t49, (.int .u64 999)] fun (t76 : Int) =>
  FnK P (.tup [.bool, (.int .i64)]) 12 #[t49, (.int .u64 4503599627370497)] fun (t79 : Bool) (t79_1 : Int) =>
  FnK P (.one (.int .i64)) 13 #[t49, (.int .u64 4503599627370496)] fun (t83 : Int) =>
  FnK P (.tup [.bool, (.int .i64)]) 12 #[t49, (.int .u64 4503599627370496)] fun (t86 : Bool) (t86_1 : Int) =>
  FnK P (.tup [.bool, (.int .i64)]) 12 #[t49, (.int .u64 5)] fun (t91 : Bool) (t91_1 : Int) =>
  FnK P (.tup [.bool, (.int .i64)]) 12 #[(.pointer none), (.int .u64 0)] fun (t96 : Bool) (t96_1 : Int) =>
  condK (t29_1 == 1)
  (condK (t33_1 == 1)
  (condK (t37_1 == 1)
  (condK (t41_1 == 1)
  (condK (t45_1 == 1)
  (condK (!t72)
  (condK (t76 == 999)
  (condK (!t79)
  (condK (t79_1 == 1)
  (condK (t83 == 1000)
  (condK t86
  (condK (t86_1 == 0)
  (condK t91
  (condK (t91_1 == 0)
  (FnK P (.one (.int .i64)) 13 #[t49, (.int .u64 0)] fun (t153 : Int) =>
  condK (t153 == 998)
  (FnK P (.one (.int .i64)) 13 #[t49, (.int .u64 4503599627370497)] fun (t158 : Int) =>
  condK (t158 == 0)
  (condK (!t96)
  (condK (t96_1 == 2)
  (FnK P (.one (.int .i64)) 13 #[(.pointer none), (.int .u64 0)] fun (t171 : Int) =>
  condK (t171 == 0)
  (FnK P (.one .raw) 16 #[(.pointer none)] fun (t176 : Value) =>
  OpK P (.one .bool) (bS .eql 28 (.tmp 176) (.const (.pointer none)) t176 (.pointer none)) fun (t177 : Bool) =>
  K t177)
  (K false))
  (K false))
  (K false))
  (K false))
  (K false))
  (K false))
  (K false))
  (K false))
  (K false))
  (K false))
  (K false))
  (K false))
  (K false))
  (K false))
  (K false))
  (K false))
  (K false))
  (K false))
  (K false))))
theorem law13_BucketKnown_ok (K : Bool → WP) (w : World) (h : law13_BucketKnown_sh  K w) : FnK P (.one .bool) 6 #[] K w :=
  fn_ok cx_ok (hi := (.n .l (.n .l (.n .l (.n .l (.n .l (.n .l (.n .l (.n (.n (.j [(59, .bool)] .l) .l) (.n (.n .l (.n (.p [(60, (.int .i64))] .l) .l)) .l)))))))))) (fn := Try.f6) Try.func6 (by kernel_rfl : fnK cx _ _ [] (unR (.one .bool) K) = law13_BucketKnown_sh  K) h

/- tollhouse/queue.New -/
def queue_New_sh (most : Int) (K : Value → Int → WP) : WP :=
  condK (decide (most < 0))
  (K (.pointer none) 1)
  (condK (decide (most > 16384))
  (K (.pointer none) 1)
  (OpK P (.one .raw) (vS (Instr.makeSlice 46 (.int .i64 most) (.int .i64 most))) fun (t11 : Value) =>
  OpK P (.one .raw) (vS (Instr.build 59 #[(0, t11), (3, (.bool true))])) fun (t12 : Value) =>
  OpK P (.one .raw) (vS (Instr.box 59 t12)) fun (t13 : Value) =>
  K t13 0))
theorem queue_New_ok (most : Int) (K : Value → Int → WP) (w : World) (h : queue_New_sh most K w) : FnK P (.tup [.raw, (.int .i64)]) 18 #[(.int .i64 most)] K w :=
  fn_ok cx_ok (hi := .l) (fn := Try.f18) Try.func18 (by kernel_rfl : fnK cx _ _ [(.int .i64 most)] (unR (.tup [.raw, (.int .i64)]) K) = queue_New_sh most K) h

/- (*tollhouse/queue.Queue).part -/
def queue_Queue_part_sh (q : Value) (at_ : Int) (n : Int) (K : Value → WP) : WP :=
  ArK .i64 (at_ + n) fun (t10 : Int) =>
  NilK q <|
  OpK P (.one .raw) (vS (Instr.fieldAt 59 q 0)) fun (t13 : Value) =>
  OpK P (.one .raw) (vS (Instr.loadAt 46 t13)) fun (t14 : Value) =>
  OpK P (.one (.int .i64)) (vS (Builtin.len_ #[46] 3 #[t14])) fun (t15 : Int) =>
  OpK P (.one (.int .i64)) (vS (Builtin.min_ #[3, 3] 3 #[(.int .i64 t10), (.int .i64 t15)])) fun (t16 : Int) =>
  NilK q <|
  OpK P (.one .raw) (vS (Instr.fieldAt 59 q 0)) fun (t19 : Value) =>
  OpK P (.one .raw) (vS (Instr.loadAt 46 t19)) fun (t20 : Value) =>
  OpK P (.one .raw) (vS (Instr.sliceAt 46 t20 (some (.int .i64 at_)) (some (.int .i64 t16)) (some (.int .i64 t16)))) fun (t24 : Value) =>
  K t24
theorem queue_Queue_part_ok (q : Value) (at_ : Int) (n : Int) (K : Value → WP) (w : World) (h : queue_Queue_part_sh q at_ n K w) : FnK P (.one .raw) 32 #[q, (.int .i64 at_), (.int .i64 n)] K w :=
  fn_ok cx_ok (hi := .l) (fn := Try.f32) Try.func32 (by kernel_rfl : fnK cx _ _ [q, (.int .i64 at_), (.int .i64 n)] (unR (.one .raw) K) = queue_Queue_part_sh q at_ n K) h

/- (*tollhouse/queue.Queue).Bytes -/
def queue_Queue_Bytes_sh (q : Value) (K : Value → WP) : WP :=
  OpK P (.one .bool) (bS .eql 47 (.tmp 5) (.const (.pointer none)) q (.pointer none)) fun (t6 : Bool) =>
  condK t6
  (K (.slice none 0 0))
  (NilK q <|
  OpK P (.one .raw) (vS (Instr.fieldAt 59 q 2)) fun (t9 : Value) =>
  OpK P (.one (.int .i64)) (vS (Instr.loadAt 3 t9)) fun (t10 : Int) =>
  OpK P (.one .raw) (vS (Instr.makeSlice 46 (.int .i64 t10) (.int .i64 t10))) fun (t11 : Value) =>
  DrawK fun (S : WP) =>
  NilK q <|
  PuK P (.one .raw) (vS (Instr.fieldAt 59 q 1)) fun (t16 : Value) =>
  StK P S (.one (.int .i64)) (vS (Instr.loadAt 3 t16)) fun (t17 : Int) =>
  NilK q <|
  PuK P (.one .raw) (vS (Instr.fieldAt 59 q 2)) fun (t20 : Value) =>
  StK P S (.one (.int .i64)) (vS (Instr.loadAt 3 t20)) fun (t21 : Int) =>
  FnK P (.one .raw) 32 #[q, (.int .i64 t17), (.int .i64 t21)] fun (t22 : Value) =>
  OpK P (.one (.int .i64)) (vS (Builtin.copy_ #[46, 46] 3 #[t11, t22])) fun (t23 : Int) =>
  andK S <|
  DrawK fun (S : WP) =>
  PuK P (.one .raw) (vS (Instr.sliceAt 46 t11 (some (.int .i64 t23)) none none)) fun (t26 : Value) =>
  NilK q <|
  PuK P (.one .raw) (vS (Instr.fieldAt 59 q 0)) fun (t29 : Value) =>
  StK P S (.one .raw) (vS (Instr.loadAt 46 t29)) fun (t30 : Value) =>
  OpK P (.one (.int .i64)) (vS (Builtin.copy_ #[46, 46] 3 #[t26, t30])) fun (_ : Int) =>
  K t11)
theorem queue_Queue_Bytes_ok (q : Value) (K : Value → WP) (w : World) (h : queue_Queue_Bytes_sh q K w) : FnK P (.one .raw) 20 #[q] K w :=
  fn_ok cx_ok (hi := (.n .l (.n .l (.n .l (.n (.o (odR 0 13)) (.n (.o (odR 0 8)) .l)))))) (fn := Try.f20) Try.func20 (by kernel_rfl : fnK cx _ _ [q] (unR (.one .raw) K) = queue_Queue_Bytes_sh q K) h

/- (*tollhouse/queue.Queue).Room -/
def queue_Queue_Room_sh (q : Value) (K : Int → WP) : WP :=
  OpK P (.one .bool) (bS .eql 47 (.tmp 3) (.const (.pointer none)) q (.pointer none)) fun (t4 : Bool) =>
  condK t4
  (K 0)
  (DrawK fun (S : WP) =>
  NilK q <|
  PuK P (.one .raw) (vS (Instr.fieldAt 59 q 0)) fun (t7 : Value) =>
  StK P S (.one .raw) (vS (Instr.loadAt 46 t7)) fun (t8 : Value) =>
  StK P S (.one (.int .i64)) (vS (Builtin.len_ #[46] 3 #[t8])) fun (t9 : Int) =>
  NilK q <|
  PuK P (.one .raw) (vS (Instr.fieldAt 59 q 2)) fun (t12 : Value) =>
  StK P S (.one (.int .i64)) (vS (Instr.loadAt 3 t12)) fun (t13 : Int) =>
  ArK .i64 (t9 - t13) fun (t14 : Int) =>
  K t14)
theorem queue_Queue_Room_ok (q : Value) (K : Int → WP) (w : World) (h : queue_Queue_Room_sh q K w) : FnK P (.one (.int .i64)) 25 #[q] K w :=
  fn_ok cx_ok (hi := (.n .l (.n .l (.n (.o (odR 0 11)) .l)))) (fn := Try.f25) Try.func25 (by kernel_rfl : fnK cx _ _ [q] (unR (.one (.int .i64)) K) = queue_Queue_Room_sh q K) h

/- (*tollhouse/queue.Queue).Push -/
def queue_Queue_Push_sh (q : Value) (b : Value) (K : Int → WP) : WP :=
  joinK [(7, .bool)] (fun (j1 : Bool → WP) =>
  OpK P (.one .bool) (bS .eql 47 (.tmp 8) (.const (.pointer none)) q (.pointer none)) fun (t9 : Bool) =>
  condK t9
  (j1 true)
  (NilK q <|
  OpK P (.one .raw) (vS (Instr.fieldAt 59 q 3)) fun (t13 : Value) =>
  OpK P (.one .bool) (vS (Instr.loadAt 4 t13)) fun (t14 : Bool) =>
  j1 (!t14)))
  fun (t7 : Bool) =>
  condK t7
  (K 2)
  (OpK P (.one (.int .i64)) (vS (Builtin.len_ #[46] 3 #[b])) fun (t19 : Int) =>
  FnK P (.one (.int .i64)) 25 #[q] fun (t21 : Int) =>
  condK (decide (t19 > t21))
  (K 7)
  (loopK [(1, .raw)] (fun (j2 : Value → WP) => j2 b) (fun (j3 : Value → WP) (b_1 : Value) =>
  OpK P (.one (.int .i64)) (vS (Builtin.len_ #[46] 3 #[b_1])) fun (t24 : Int) =>
  condK (decide (t24 > 0))
  (DrawK fun (S : WP) =>
  NilK q <|
  PuK P (.one .raw) (vS (Instr.fieldAt 59 q 1)) fun (t28 : Value) =>
  StK P S (.one (.int .i64)) (vS (Instr.loadAt 3 t28)) fun (t29 : Int) =>
  NilK q <|
  PuK P (.one .raw) (vS (Instr.fieldAt 59 q 2)) fun (t32 : Value) =>
  StK P S (.one (.int .i64)) (vS (Instr.loadAt 3 t32)) fun (t33 : Int) =>
  ArK .i64 (t29 + t33) fun (t34 : Int) =>
  NilK q <|
  PuK P (.one .raw) (vS (Instr.fieldAt 59 q 0)) fun (t37 : Value) =>
  StK P S (.one .raw) (vS (Instr.loadAt 46 t37)) fun (t38 : Value) =>
  StK P S (.one (.int .i64)) (vS (Builtin.len_ #[46] 3 #[t38])) fun (t39 : Int) =>
  PuK P (.one (.int .i64)) (bS .rem 3 (.tmp 34) (.tmp 39) (.int .i64 t34) (.int .i64 t39)) fun (t40 : Int) =>
  FnK P (.one (.int .i64)) 25 #[q] fun (t44 : Int) =>
  FnK P (.one .raw) 32 #[q, (.int .i64 t40), (.int .i64 t44)] fun (t45 : Value) =>
  OpK P (.one (.int .i64)) (vS (Builtin.copy_ #[46, 46] 3 #[t45, b_1])) fun (t47 : Int) =>
  NilK q <|
  OpK P (.one .raw) (vS (Instr.fieldAt 59 q 2)) fun (t50 : Value) =>
  OpK P (.one (.int .i64)) (vS (Instr.loadAt 3 t50)) fun (t51 : Int) =>
  ArK .i64 (t51 + t47) fun (t53 : Int) =>
  NilK q <|
  OpK P (.one .raw) (vS (Instr.fieldAt 59 q 2)) fun (t55 : Value) =>
  OpK P (.one .raw) (uS (Instr.storeAt 3 t55 (.int .i64 t53))) fun (_ : Value) =>
  OpK P (.one .raw) (vS (Instr.sliceAt 46 b_1 (some (.int .i64 t47)) none none)) fun (t58 : Value) =>
  j3 t58)
  (K 0))))
theorem queue_Queue_Push_ok (q : Value) (b : Value) (K : Int → WP) (w : World) (h : queue_Queue_Push_sh q b K w) : FnK P (.one (.int .i64)) 21 #[q, b] K w :=
  fn_ok cx_ok (hi := (.n .l (.n (.n (.n (.j [(7, .bool)] .l) .l) .l) (.n (.n (.p [(1, .raw)] (.n .l (.n (.n (.o (odR 0 16)) .l) .l))) .l) .l)))) (fn := Try.f21) Try.func21 (by kernel_rfl : fnK cx _ _ [q, b] (unR (.one (.int .i64)) K) = queue_Queue_Push_sh q b K) h

/- (*tollhouse/queue.Queue).Len -/
def queue_Queue_Len_sh (q : Value) (K : Int → WP) : WP :=
  OpK P (.one .bool) (bS .eql 47 (.tmp 3) (.const (.pointer none)) q (.pointer none)) fun (t4 : Bool) =>
  condK t4
  (K 0)
  (NilK q <|
  OpK P (.one .raw) (vS (Instr.fieldAt 59 q 2)) fun (t7 : Value) =>
  OpK P (.one (.int .i64)) (vS (Instr.loadAt 3 t7)) fun (t8 : Int) =>
  K t8)
theorem queue_Queue_Len_ok (q : Value) (K : Int → WP) (w : World) (h : queue_Queue_Len_sh q K w) : FnK P (.one (.int .i64)) 23 #[q] K w :=
  fn_ok cx_ok (hi := .l) (fn := Try.f23) Try.func23 (by kernel_rfl : fnK cx _ _ [q] (unR (.one (.int .i64)) K) = queue_Queue_Len_sh q K) h

/- (*tollhouse/queue.Queue).Take -/
def queue_Queue_Take_sh (q : Value) (n : Int) (K : Value → Int → WP) : WP :=
  joinK [(7, .bool)] (fun (j1 : Bool → WP) =>
  OpK P (.one .bool) (bS .eql 47 (.tmp 8) (.const (.pointer none)) q (.pointer none)) fun (t9 : Bool) =>
  condK t9
  (j1 true)
  (NilK q <|
  OpK P (.one .raw) (vS (Instr.fieldAt 59 q 3)) fun (t13 : Value) =>
  OpK P (.one .bool) (vS (Instr.loadAt 4 t13)) fun (t14 : Bool) =>
  j1 (!t14)))
  fun (t7 : Bool) =>
  condK t7
  (K (.slice none 0 0) 2)
  (condK (decide (n < 0))
  (K (.slice none 0 0) 1)
  (NilK q <|
  OpK P (.one .raw) (vS (Instr.fieldAt 59 q 2)) fun (t24 : Value) =>
  OpK P (.one (.int .i64)) (vS (Instr.loadAt 3 t24)) fun (t25 : Int) =>
  condK (decide (n > t25))
  (K (.slice none 0 0) 4)
  (FnK P (.one .raw) 20 #[q] fun (t28 : Value) =>
  OpK P (.one .raw) (vS (Instr.sliceAt 46 t28 none (some (.int .i64 n)) (some (.int .i64 n)))) fun (t31 : Value) =>
  NilK q <|
  OpK P (.one .raw) (vS (Instr.fieldAt 59 q 2)) fun (t34 : Value) =>
  OpK P (.one (.int .i64)) (vS (Instr.loadAt 3 t34)) fun (t35 : Int) =>
  ArK .i64 (t35 - n) fun (t37 : Int) =>
  NilK q <|
  OpK P (.one .raw) (vS (Instr.fieldAt 59 q 2)) fun (t39 : Value) =>
  OpK P (.one .raw) (uS (Instr.storeAt 3 t39 (.int .i64 t37))) fun (_ : Value) =>
  NilK q <|
  OpK P (.one .raw) (vS (Instr.fieldAt 59 q 0)) fun (t42 : Value) =>
  OpK P (.one .raw) (vS (Instr.loadAt 46 t42)) fun (t43 : Value) =>
  OpK P (.one (.int .i64)) (vS (Builtin.len_ #[46] 3 #[t43])) fun (t44 : Int) =>
  condK (decide (t44 > 0))
  (DrawK fun (S : WP) =>
  NilK q <|
  PuK P (.one .raw) (vS (Instr.fieldAt 59 q 1)) fun (t49 : Value) =>
  StK P S (.one (.int .i64)) (vS (Instr.loadAt 3 t49)) fun (t50 : Int) =>
  ArK .i64 (t50 + n) fun (t52 : Int) =>
  NilK q <|
  PuK P (.one .raw) (vS (Instr.fieldAt 59 q 0)) fun (t55 : Value) =>
  StK P S (.one .raw) (vS (Instr.loadAt 46 t55)) fun (t56 : Value) =>
  StK P S (.one (.int .i64)) (vS (Builtin.len_ #[46] 3 #[t56])) fun (t57 : Int) =>
  PuK P (.one (.int .i64)) (bS .rem 3 (.tmp 52) (.tmp 57) (.int .i64 t52) (.int .i64 t57)) fun (t58 : Int) =>
  NilK q <|
  PuK P (.one .raw) (vS (Instr.fieldAt 59 q 1)) fun (t60 : Value) =>
  OpK P (.one .raw) (uS (Instr.storeAt 3 t60 (.int .i64 t58))) fun (_ : Value) =>
  K t31 0)
  (K t31 0))))
theorem queue_Queue_Take_ok (q : Value) (n : Int) (K : Value → Int → WP) (w : World) (h : queue_Queue_Take_sh q n K w) : FnK P (.tup [.raw, (.int .i64)]) 24 #[q, (.int .i64 n)] K w :=
  fn_ok cx_ok (hi := (.n .l (.n (.n (.n (.j [(7, .bool)] .l) .l) .l) (.n .l (.n .l (.n (.n .l (.n (.o (odR 0 16)) .l)) .l)))))) (fn := Try.f24) Try.func24 (by kernel_rfl : fnK cx _ _ [q, (.int .i64 n)] (unR (.tup [.raw, (.int .i64)]) K) = queue_Queue_Take_sh q n K) h

/- tollhouse/tollhouselaw01.awake -/
def law01_awake_sh (K : Bool → WP) : WP :=
  FnK P (.tup [.raw, (.int .i64)]) 18 #[(.int .i64 4)] fun (t5 : Value) (t5_1 : Int) =>
  joinK [(35, .bool)] (fun (j1 : Bool → WP) =>
  condK (t5_1 != 0)
  (j1 true)
  (OpK P (.one .raw) (vS (Instr.buildSlice 46 3 #[(0, (.int .u8 97)), (1, (.int .u8 98)), (2, (.int .u8 99))])) fun (t12 : Value) =>
  OpK P (.one .raw) (vS (convert 46 46 t12)) fun (t13 : Value) =>
  FnK P (.one (.int .i64)) 21 #[t5, t13] fun (t14 : Int) =>
  condK (t14 != 0)
  (j1 true)
  (OpK P (.one .raw) (vS (Instr.buildSlice 46 2 #[(0, (.int .u8 100)), (1, (.int .u8 101))])) fun (t19 : Value) =>
  OpK P (.one .raw) (vS (convert 46 46 t19)) fun (t20 : Value) =>
  FnK P (.one (.int .i64)) 21 #[t5, t20] fun (t21 : Int) =>
  condK (t21 != 7)
  (j1 true)
  (OpK P (.one .raw) (vS (Instr.buildSlice 46 1 #[(0, (.int .u8 100))])) fun (t26 : Value) =>
  OpK P (.one .raw) (vS (convert 46 46 t26)) fun (t27 : Value) =>
  FnK P (.one (.int .i64)) 21 #[t5, t27] fun (t28 : Int) =>
  condK (t28 != 0)
  (j1 true)
  (FnK P (.one (.int .i64)) 25 #[t5] fun (t33 : Int) =>
  j1 (t33 != 0))))))
  fun (t35 : Bool) =>
  condK t35
  (K false)
  (FnK P (.tup [.raw, (.int .i64)]) 24 #[t5, (.int .i64 2)] fun (t38 : Value) (t38_1 : Int) =>
  condK (t38_1 == 0)
  (OpK P (.one .str) (vS (convert 46 9 t38)) fun (t45 : ByteArray) =>
  OpK P (.one .bool) (bS .eql 9 (.tmp 45) (.const (.string (⟨#[97, 98]⟩ : ByteArray))) (.string t45) (.string (⟨#[97, 98]⟩ : ByteArray))) fun (t46 : Bool) =>
  condK t46
  (OpK P (.one .raw) (vS (Instr.buildSlice 46 2 #[(0, (.int .u8 101)), (1, (.int .u8 102))])) fun (t50 : Value) =>
  OpK P (.one .raw) (vS (convert 46 46 t50)) fun (t51 : Value) =>
  FnK P (.one (.int .i64)) 21 #[t5, t51] fun (t52 : Int) =>
  condK (t52 == 0)
  (FnK P (.one .raw) 20 #[t5] fun (t57 : Value) =>
  OpK P (.one .str) (vS (convert 46 9 t57)) fun (t58 : ByteArray) =>
  OpK P (.one .bool) (bS .eql 9 (.tmp 58) (.const (.string (⟨#[99, 100, 101, 102]⟩ : ByteArray))) (.string t58) (.string (⟨#[99, 100, 101, 102]⟩ : ByteArray))) fun (t59 : Bool) =>
  condK t59
  (FnK P (.one (.int .i64)) 23 #[t5] fun (t63 : Int) =>
  K (t63 == 4))
  (K false))
  (K false))
  (K false))
  (K false))
theorem law01_awake_ok (K : Bool → WP) (w : World) (h : law01_awake_sh  K w) : FnK P (.one .bool) 19 #[] K w :=
  fn_ok cx_ok (hi := (.n .l (.n .l (.n (.n (.j [(35, .bool)] .l) .l) .l)))) (fn := Try.f19) Try.func19 (by kernel_rfl : fnK cx _ _ [] (unR (.one .bool) K) = law01_awake_sh  K) h

/- bytes.Equal -/
def bytes_Equal_sh (a : Value) (b : Value) (K : Bool → WP) : WP :=
  OpK P (.one .str) (vS (convert 46 9 a)) fun (t6 : ByteArray) =>
  OpK P (.one .str) (vS (convert 46 9 b)) fun (t8 : ByteArray) =>
  OpK P (.one .bool) (bS .eql 9 (.tmp 6) (.tmp 8) (.string t6) (.string t8)) fun (t9 : Bool) =>
  K t9
theorem bytes_Equal_ok (a : Value) (b : Value) (K : Bool → WP) (w : World) (h : bytes_Equal_sh a b K w) : FnK P (.one .bool) 22 #[a, b] K w :=
  fn_ok cx_ok (hi := .l) (fn := Try.f22) Try.func22 (by kernel_rfl : fnK cx _ _ [a, b] (unR (.one .bool) K) = bytes_Equal_sh a b K) h

/- tollhouse/tollhouselaw01.QueueOrder -/
def law01_QueueOrder_sh (most : Int) (l : Value) (takes : Value) (K : Bool → WP) : WP :=
  OpK P (.one (.int .u16)) (bS .rem 22 (.tmp 19) (.const (.int .u16 301)) (.int .u16 most) (.int .u16 301)) fun (t20 : Int) =>
  OpK P (.one (.int .i64)) (vS (convert 22 3 (.int .u16 t20))) fun (t21 : Int) =>
  FnK P (.tup [.raw, (.int .i64)]) 18 #[(.int .i64 t21)] fun (t24 : Value) (t24_1 : Int) =>
  joinK [(32, .bool)] (fun (j1 : Bool → WP) =>
  FnK P (.one .bool) 19 #[] fun (t27 : Bool) =>
  condK (!t27)
  (j1 true)
  (j1 (t24_1 != 0)))
  fun (t32 : Bool) =>
  condK t32
  (K false)
  (OpK P (.one (.int .i64)) (vS (Builtin.len_ #[45] 3 #[l])) fun (t34 : Int) =>
  loopK [(10, .raw), (11, .raw), (35, (.int .i64))] (fun (j2 : Value → Value → Int → WP) => j2 (.slice none 0 0) (.slice none 0 0) 0) (fun (j3 : Value → Value → Int → WP) (in_ : Value) (out : Value) (t35 : Int) =>
  condK (decide (t35 < t34))
  (OpK P (.one .raw) (vS (Instr.indexAt 45 l (.int .i64 t35))) fun (t38 : Value) =>
  OpK P (.one .raw) (vS (Instr.loadAt 46 t38)) fun (t39 : Value) =>
  FnK P (.one .raw) 20 #[t24] fun (t41 : Value) =>
  joinK [(10, .raw)] (fun (j4 : Value → WP) =>
  FnK P (.one (.int .i64)) 21 #[t24, t39] fun (t44 : Int) =>
  condK (t44 == 0)
  (OpK P (.one .raw) (vS (Builtin.append_ #[46, 46] 46 #[in_, t39])) fun (t50 : Value) =>
  j4 t50)
  (condK (t44 != 7)
  (K false)
  (OpK P (.one (.int .i64)) (vS (Builtin.len_ #[46] 3 #[t39])) fun (t56 : Int) =>
  OpK P (.one (.int .i64)) (vS (Builtin.len_ #[46] 3 #[t41])) fun (t59 : Int) =>
  ArK .i64 (t21 - t59) fun (t60 : Int) =>
  condK (decide (t56 ≤ t60))
  (K false)
  (FnK P (.one .raw) 20 #[t24] fun (t65 : Value) =>
  FnK P (.one .bool) 22 #[t65, t41] fun (t67 : Bool) =>
  condK (!t67)
  (K false)
  (j4 in_)))))
  fun (in__1 : Value) =>
  joinK [(11, .raw)] (fun (j5 : Value → WP) =>
  OpK P (.one (.int .i64)) (vS (Builtin.len_ #[46] 3 #[takes])) fun (t72 : Int) =>
  condK (decide (t35 < t72))
  (DrawK fun (S : WP) =>
  PuK P (.one .raw) (vS (Instr.indexAt 46 takes (.int .i64 t35))) fun (t76 : Value) =>
  StK P S (.one (.int .u8)) (vS (Instr.loadAt 5 t76)) fun (t77 : Int) =>
  StK P S (.one (.int .i64)) (vS (convert 5 3 (.int .u8 t77))) fun (t78 : Int) =>
  FnK P (.one (.int .i64)) 23 #[t24] fun (t80 : Int) =>
  andK S <|
  PuK P (.one (.int .i64)) (vS (Builtin.min_ #[3, 3] 3 #[(.int .i64 t78), (.int .i64 t80)])) fun (t81 : Int) =>
  FnK P (.tup [.raw, (.int .i64)]) 24 #[t24, (.int .i64 t81)] fun (t85 : Value) (t85_1 : Int) =>
  condK (t85_1 != 0)
  (K false)
  (OpK P (.one (.int .i64)) (vS (Builtin.len_ #[46] 3 #[t85])) fun (t92 : Int) =>
  condK (t92 != t81)
  (K false)
  (OpK P (.one .raw) (vS (Builtin.append_ #[46, 46] 46 #[out, t85])) fun (t98 : Value) =>
  j5 t98)))
  (j5 out))
  fun (out_1 : Value) =>
  FnK P (.one (.int .i64)) 23 #[t24] fun (t100 : Int) =>
  condK (decide (t100 > t21))
  (K false)
  (FnK P (.one (.int .i64)) 23 #[t24] fun (t105 : Int) =>
  FnK P (.one (.int .i64)) 25 #[t24] fun (t107 : Int) =>
  ArK .i64 (t105 + t107) fun (t108 : Int) =>
  condK (t108 != t21)
  (K false)
  (ArK .i64 (t35 + 1) fun (t112 : Int) =>
  j3 in__1 out_1 t112)))
  (FnK P (.one .raw) 20 #[t24] fun (t116 : Value) =>
  OpK P (.one .raw) (vS (Builtin.append_ #[46, 46] 46 #[out, t116])) fun (t117 : Value) =>
  FnK P (.one .bool) 22 #[in_, t117] fun (t118 : Bool) =>
  K t118)))
theorem law01_QueueOrder_ok (most : Int) (l : Value) (takes : Value) (K : Bool → WP) (w : World) (h : law01_QueueOrder_sh most l takes K w) : FnK P (.one .bool) 7 #[(.int .u16 most), l, takes] K w :=
  fn_ok cx_ok (hi := (.n .l (.n .l (.n .l (.n (.n (.j [(32, .bool)] .l) .l) (.n .l (.n (.n .l (.n (.p [(10, .raw), (11, .raw), (35, (.int .i64))] (.n .l (.n .l (.n (.n (.n .l (.n .l (.n (.j [(10, .raw)] .l) (.n (.j [(11, .raw)] (.n .l (.n (.n (.o (odR 0 9)) .l) .l))) .l)))) .l) .l)))) .l)) .l))))))) (fn := Try.f7) Try.func7 (by kernel_rfl : fnK cx _ _ [(.int .u16 most), l, takes] (unR (.one .bool) K) = law01_QueueOrder_sh most l takes K) h

/- slices.Clone[[]byte,byte] -/
def slices_Clone_g_sh (s : Value) (K : Value → WP) : WP :=
  OpK P (.one .bool) (bS .eql 46 (.tmp 3) (.const (.slice none 0 0)) s (.slice none 0 0)) fun (t4 : Bool) =>
  condK t4
  (K (.slice none 0 0))
  (OpK P (.one .raw) (vS (Instr.buildSlice 46 0 #[])) fun (t5 : Value) =>
  OpK P (.one .raw) (vS (Builtin.append_ #[46, 46] 46 #[t5, s])) fun (t7 : Value) =>
  K t7)
theorem slices_Clone_g_ok (s : Value) (K : Value → WP) (w : World) (h : slices_Clone_g_sh s K w) : FnK P (.one .raw) 33 #[s] K w :=
  fn_ok cx_ok (hi := .l) (fn := Try.f33) Try.func33 (by kernel_rfl : fnK cx _ _ [s] (unR (.one .raw) K) = slices_Clone_g_sh s K) h

/- (*tollhouse/queue.Queue).Copy -/
def queue_Queue_Copy_sh (q : Value) (K : Value → WP) : WP :=
  OpK P (.one .bool) (bS .eql 47 (.tmp 4) (.const (.pointer none)) q (.pointer none)) fun (t5 : Bool) =>
  condK t5
  (K (.pointer none))
  (NilK q <|
  OpK P (.one .raw) (vS (Instr.loadAt 59 q)) fun (t8 : Value) =>
  OpK P (.one .raw) (vS (Instr.alloc 59 true (.tuple #[]))) fun (x : Value) =>
  OpK P (.one .raw) (uS (Instr.storeAt 59 x t8)) fun (_ : Value) =>
  NilK q <|
  OpK P (.one .raw) (vS (Instr.fieldAt 59 q 0)) fun (t11 : Value) =>
  OpK P (.one .raw) (vS (Instr.loadAt 46 t11)) fun (t12 : Value) =>
  FnK P (.one .raw) 33 #[t12] fun (t13 : Value) =>
  OpK P (.one .raw) (vS (Instr.fieldAt 59 x 0)) fun (t14 : Value) =>
  OpK P (.one .raw) (uS (Instr.storeAt 46 t14 t13)) fun (_ : Value) =>
  K x)
theorem queue_Queue_Copy_ok (q : Value) (K : Value → WP) (w : World) (h : queue_Queue_Copy_sh q K w) : FnK P (.one .raw) 26 #[q] K w :=
  fn_ok cx_ok (hi := .l) (fn := Try.f26) Try.func26 (by kernel_rfl : fnK cx _ _ [q] (unR (.one .raw) K) = queue_Queue_Copy_sh q K) h

/- tollhouse/tollhouselaw01.QueueKnown -/
def law01_QueueKnown_sh (K : Bool → WP) : WP :=
  FnK P (.tup [.raw, (.int .i64)]) 18 #[(.int .i64 (-1))] fun (_ : Value) (t22_1 : Int) =>
  FnK P (.tup [.raw, (.int .i64)]) 18 #[(.int .i64 16385)] fun (_ : Value) (t26_1 : Int) =>
  FnK P (.tup [.raw, (.int .i64)]) 18 #[(.int .i64 16384)] fun (t30 : Value) (t30_1 : Int) =>
  FnK P (.tup [.raw, (.int .i64)]) 18 #[(.int .i64 0)] fun (t34 : Value) (t34_1 : Int) =>
  joinK [(48, .bool)] (fun (j1 : Bool → WP) =>
  FnK P (.one .bool) 19 #[] fun (t38 : Bool) =>
  condK (!t38)
  (j1 true)
  (condK (t30_1 != 0)
  (j1 true)
  (j1 (t34_1 != 0))))
  fun (t48 : Bool) =>
  condK t48
  (K false)
  (FnK P (.one (.int .i64)) 21 #[t34, (.slice none 0 0)] fun (t50 : Int) =>
  OpK P (.one .raw) (vS (Instr.buildSlice 46 1 #[(0, (.int .u8 1))])) fun (t52 : Value) =>
  FnK P (.one (.int .i64)) 21 #[t34, t52] fun (t53 : Int) =>
  FnK P (.tup [.raw, (.int .i64)]) 24 #[t34, (.int .i64 0)] fun (t56 : Value) (t56_1 : Int) =>
  OpK P (.one .raw) (vS (Instr.makeSlice 46 (.int .i64 16384) (.int .i64 16384))) fun (t60 : Value) =>
  FnK P (.one (.int .i64)) 21 #[t30, t60] fun (t61 : Int) =>
  FnK P (.tup [.raw, (.int .i64)]) 24 #[t30, (.int .i64 (-1))] fun (_ : Value) (t64_1 : Int) =>
  FnK P (.tup [.raw, (.int .i64)]) 24 #[t30, (.int .i64 16385)] fun (_ : Value) (t69_1 : Int) =>
  FnK P (.tup [.raw, (.int .i64)]) 24 #[(.pointer none), (.int .i64 0)] fun (_ : Value) (t74_1 : Int) =>
  condK (t22_1 == 1)
  (condK (t26_1 == 1)
  (condK (t50 == 0)
  (condK (t53 == 7)
  (OpK P (.one (.int .i64)) (vS (Builtin.len_ #[46] 3 #[t56])) fun (t93 : Int) =>
  condK (t93 == 0)
  (condK (t56_1 == 0)
  (condK (t61 == 0)
  (condK (t64_1 == 1)
  (condK (t69_1 == 4)
  (condK (t74_1 == 2)
  (FnK P (.one (.int .i64)) 21 #[(.pointer none), (.slice none 0 0)] fun (t118 : Int) =>
  condK (t118 == 2)
  (FnK P (.one (.int .i64)) 23 #[(.pointer none)] fun (t123 : Int) =>
  condK (t123 == 0)
  (FnK P (.one (.int .i64)) 25 #[(.pointer none)] fun (t128 : Int) =>
  condK (t128 == 0)
  (FnK P (.one .raw) 20 #[(.pointer none)] fun (t133 : Value) =>
  OpK P (.one (.int .i64)) (vS (Builtin.len_ #[46] 3 #[t133])) fun (t134 : Int) =>
  condK (t134 == 0)
  (FnK P (.one .raw) 26 #[(.pointer none)] fun (t139 : Value) =>
  OpK P (.one .bool) (bS .eql 47 (.tmp 139) (.const (.pointer none)) t139 (.pointer none)) fun (t140 : Bool) =>
  condK t140
  (OpK P (.one .raw) (vS (Instr.build 59 #[])) fun (t143 : Value) =>
  OpK P (.one .raw) (vS (Instr.box 59 t143)) fun (t144 : Value) =>
  FnK P (.one (.int .i64)) 21 #[t144, (.slice none 0 0)] fun (t145 : Int) =>
  K (t145 == 2))
  (K false))
  (K false))
  (K false))
  (K false))
  (K false))
  (K false))
  (K false))
  (K false))
  (K false))
  (K false))
  (K false))
  (K false))
  (K false))
  (K false))
  (K false))
theorem law01_QueueKnown_ok (K : Bool → WP) (w : World) (h : law01_QueueKnown_sh  K w) : FnK P (.one .bool) 8 #[] K w :=
  fn_ok cx_ok (hi := (.n .l (.n .l (.n .l (.n .l (.n .l (.n (.n (.j [(48, .bool)] .l) .l) .l))))))) (fn := Try.f8) Try.func8 (by kernel_rfl : fnK cx _ _ [] (unR (.one .bool) K) = law01_QueueKnown_sh  K) h

/- tollhouse/tollhouseref01.New -/
def ref01_New_sh (most : Int) (K : Value → Int → WP) : WP :=
  condK (decide (most < 0))
  (K (.pointer none) 1)
  (condK (decide (most > 16384))
  (K (.pointer none) 1)
  (OpK P (.one .raw) (vS (Instr.build 70 #[(1, (.int .i64 most))])) fun (t11 : Value) =>
  OpK P (.one .raw) (vS (Instr.box 70 t11)) fun (t12 : Value) =>
  K t12 0))
theorem ref01_New_ok (most : Int) (K : Value → Int → WP) (w : World) (h : ref01_New_sh most K w) : FnK P (.tup [.raw, (.int .i64)]) 27 #[(.int .i64 most)] K w :=
  fn_ok cx_ok (hi := .l) (fn := Try.f27) Try.func27 (by kernel_rfl : fnK cx _ _ [(.int .i64 most)] (unR (.tup [.raw, (.int .i64)]) K) = ref01_New_sh most K) h

/- tollhouse/tollhouseref01.Own -/
def ref01_Own_sh (b : Value) (K : Value → WP) : WP :=
  OpK P (.one .raw) (vS (Builtin.append_ #[46, 46] 46 #[(.slice none 0 0), b])) fun (t6 : Value) =>
  K t6
theorem ref01_Own_ok (b : Value) (K : Value → WP) (w : World) (h : ref01_Own_sh b K w) : FnK P (.one .raw) 34 #[b] K w :=
  fn_ok cx_ok (hi := .l) (fn := Try.f34) Try.func34 (by kernel_rfl : fnK cx _ _ [b] (unR (.one .raw) K) = ref01_Own_sh b K) h

/- (*tollhouse/tollhouseref01.Queue).Push -/
def ref01_Queue_Push_sh (q : Value) (b : Value) (K : Int → WP) : WP :=
  DrawK fun (S : WP) =>
  NilK q <|
  PuK P (.one .raw) (vS (Instr.fieldAt 70 q 0)) fun (t7 : Value) =>
  StK P S (.one .raw) (vS (Instr.loadAt 46 t7)) fun (t8 : Value) =>
  StK P S (.one (.int .i64)) (vS (Builtin.len_ #[46] 3 #[t8])) fun (t9 : Int) =>
  StK P S (.one (.int .i64)) (vS (Builtin.len_ #[46] 3 #[b])) fun (t11 : Int) =>
  ArK .i64 (t9 + t11) fun (t12 : Int) =>
  NilK q <|
  PuK P (.one .raw) (vS (Instr.fieldAt 70 q 1)) fun (t15 : Value) =>
  StK P S (.one (.int .i64)) (vS (Instr.loadAt 3 t15)) fun (t16 : Int) =>
  condK (decide (t12 > t16))
  (K 7)
  (NilK q <|
  OpK P (.one .raw) (vS (Instr.fieldAt 70 q 0)) fun (t21 : Value) =>
  OpK P (.one .raw) (vS (Instr.loadAt 46 t21)) fun (t22 : Value) =>
  FnK P (.one .raw) 34 #[t22] fun (t23 : Value) =>
  OpK P (.one .raw) (vS (Builtin.append_ #[46, 46] 46 #[t23, b])) fun (t25 : Value) =>
  NilK q <|
  OpK P (.one .raw) (vS (Instr.fieldAt 70 q 0)) fun (t27 : Value) =>
  OpK P (.one .raw) (uS (Instr.storeAt 46 t27 t25)) fun (_ : Value) =>
  K 0)
theorem ref01_Queue_Push_ok (q : Value) (b : Value) (K : Int → WP) (w : World) (h : ref01_Queue_Push_sh q b K w) : FnK P (.one (.int .i64)) 28 #[q, b] K w :=
  fn_ok cx_ok (hi := (.n .l (.n (.n (.o (odR 0 13)) .l) .l))) (fn := Try.f28) Try.func28 (by kernel_rfl : fnK cx _ _ [q, b] (unR (.one (.int .i64)) K) = ref01_Queue_Push_sh q b K) h

/- (*tollhouse/tollhouseref01.Queue).Take -/
def ref01_Queue_Take_sh (q : Value) (n : Int) (K : Value → Int → WP) : WP :=
  condK (decide (n < 0))
  (K (.slice none 0 0) 1)
  (NilK q <|
  OpK P (.one .raw) (vS (Instr.fieldAt 70 q 0)) fun (t12 : Value) =>
  OpK P (.one .raw) (vS (Instr.loadAt 46 t12)) fun (t13 : Value) =>
  OpK P (.one (.int .i64)) (vS (Builtin.len_ #[46] 3 #[t13])) fun (t14 : Int) =>
  condK (decide (n > t14))
  (K (.slice none 0 0) 4)
  (NilK q <|
  OpK P (.one .raw) (vS (Instr.fieldAt 70 q 0)) fun (t18 : Value) =>
  OpK P (.one .raw) (vS (Instr.loadAt 46 t18)) fun (t19 : Value) =>
  OpK P (.one .raw) (vS (Instr.sliceAt 46 t19 none (some (.int .i64 n)) none)) fun (t21 : Value) =>
  FnK P (.one .raw) 34 #[t21] fun (t22 : Value) =>
  NilK q <|
  OpK P (.one .raw) (vS (Instr.fieldAt 70 q 0)) fun (t26 : Value) =>
  OpK P (.one .raw) (vS (Instr.loadAt 46 t26)) fun (t27 : Value) =>
  OpK P (.one .raw) (vS (Instr.sliceAt 46 t27 (some (.int .i64 n)) none none)) fun (t29 : Value) =>
  FnK P (.one .raw) 34 #[t29] fun (t30 : Value) =>
  NilK q <|
  OpK P (.one .raw) (vS (Instr.fieldAt 70 q 0)) fun (t32 : Value) =>
  OpK P (.one .raw) (uS (Instr.storeAt 46 t32 t30)) fun (_ : Value) =>
  K t22 0))
theorem ref01_Queue_Take_ok (q : Value) (n : Int) (K : Value → Int → WP) (w : World) (h : ref01_Queue_Take_sh q n K w) : FnK P (.tup [.raw, (.int .i64)]) 29 #[q, (.int .i64 n)] K w :=
  fn_ok cx_ok (hi := .l) (fn := Try.f29) Try.func29 (by kernel_rfl : fnK cx _ _ [q, (.int .i64 n)] (unR (.tup [.raw, (.int .i64)]) K) = ref01_Queue_Take_sh q n K) h

/- tollhouse/tollhouselaw01.QueuePlays -/
def law01_QueuePlays_sh (most : Int) (l : Value) (K : Bool → WP) : WP :=
  FnK P (.one .bool) 19 #[] fun (t21 : Bool) =>
  condK (!t21)
  (K false)
  (FnK P (.tup [.raw, (.int .i64)]) 18 #[(.int .i64 most)] fun (t25 : Value) (t25_1 : Int) =>
  FnK P (.tup [.raw, (.int .i64)]) 27 #[(.int .i64 most)] fun (t30 : Value) (t30_1 : Int) =>
  joinK [(42, .bool)] (fun (j1 : Bool → WP) =>
  condK (t25_1 != t30_1)
  (j1 true)
  (OpK P (.one .bool) (bS .eql 47 (.tmp 37) (.const (.pointer none)) t25 (.pointer none)) fun (t38 : Bool) =>
  OpK P (.one .bool) (bS .eql 61 (.tmp 39) (.const (.pointer none)) t30 (.pointer none)) fun (t40 : Bool) =>
  OpK P (.one .bool) (bS .neq 4 (.tmp 38) (.tmp 40) (.bool t38) (.bool t40)) fun (t41 : Bool) =>
  j1 t41))
  fun (t42 : Bool) =>
  condK t42
  (K false)
  (OpK P (.one .bool) (bS .eql 61 (.tmp 43) (.const (.pointer none)) t30 (.pointer none)) fun (t44 : Bool) =>
  condK t44
  (K true)
  (OpK P (.one (.int .i64)) (vS (Builtin.len_ #[60] 3 #[l])) fun (t46 : Int) =>
  loopK [(5, .raw), (47, (.int .i64))] (fun (j2 : Value → Int → WP) => j2 t25 0) (fun (j3 : Value → Int → WP) (q : Value) (t47 : Int) =>
  condK (decide (t47 < t46))
  (OpK P (.one .raw) (vS (Instr.indexAt 60 l (.int .i64 t47))) fun (t50 : Value) =>
  OpK P (.one .raw) (vS (Instr.loadAt 65 t50)) fun (t51 : Value) =>
  OpK P (.one .raw) (vS (Instr.alloc 65 true (.tuple #[]))) fun (a : Value) =>
  OpK P (.one .raw) (uS (Instr.storeAt 65 a t51)) fun (_ : Value) =>
  condK (t47 == 200)
  (K true)
  (joinK [(5, .raw)] (fun (j4 : Value → WP) =>
  OpK P (.one .raw) (vS (Instr.fieldAt 65 a 0)) fun (t54 : Value) =>
  OpK P (.one (.int .i64)) (vS (Instr.loadAt 3 t54)) fun (t55 : Int) =>
  condK (t55 == 0)
  (OpK P (.one .raw) (vS (Instr.buildSlice 46 0 #[])) fun (t58 : Value) =>
  OpK P (.one .raw) (vS (Instr.fieldAt 65 a 2)) fun (t59 : Value) =>
  OpK P (.one .raw) (vS (Instr.loadAt 46 t59)) fun (t60 : Value) =>
  OpK P (.one .raw) (vS (Builtin.append_ #[46, 46] 46 #[t58, t60])) fun (t61 : Value) =>
  DrawK fun (S : WP) =>
  PuK P (.one .raw) (vS (Instr.fieldAt 65 a 2)) fun (t66 : Value) =>
  StK P S (.one .raw) (vS (Instr.loadAt 46 t66)) fun (t67 : Value) =>
  FnK P (.one (.int .i64)) 21 #[q, t61] fun (t64 : Int) =>
  andK S <|
  FnK P (.one (.int .i64)) 28 #[t30, t67] fun (t68 : Int) =>
  condK (t64 != t68)
  (K false)
  (OpK P (.one (.int .i64)) (vS (Builtin.len_ #[46] 3 #[t61])) fun (t71 : Int) =>
  loopK [(72, (.int .i64))] (fun (j5 : Int → WP) => j5 0) (fun (j6 : Int → WP) (t72 : Int) =>
  condK (decide (t72 < t71))
  (OpK P (.one .raw) (vS (Instr.indexAt 46 t61 (.int .i64 t72))) fun (t77 : Value) =>
  OpK P (.one (.int .u8)) (vS (Instr.loadAt 5 t77)) fun (t78 : Int) =>
  OpK P (.one (.int .u8)) (bS .xor 5 (.tmp 78) (.const (.int .u8 255)) (.int .u8 t78) (.int .u8 255)) fun (t79 : Int) =>
  OpK P (.one .raw) (vS (Instr.indexAt 46 t61 (.int .i64 t72))) fun (t80 : Value) =>
  OpK P (.one .raw) (uS (Instr.storeAt 5 t80 (.int .u8 t79))) fun (_ : Value) =>
  ArK .i64 (t72 + 1) fun (t81 : Int) =>
  j6 t81)
  (j4 q))))
  (condK (t55 == 1)
  (OpK P (.one .raw) (vS (Instr.fieldAt 65 a 1)) fun (t86 : Value) =>
  OpK P (.one (.int .i64)) (vS (Instr.loadAt 3 t86)) fun (t87 : Int) =>
  FnK P (.tup [.raw, (.int .i64)]) 24 #[q, (.int .i64 t87)] fun (t88 : Value) (t88_1 : Int) =>
  OpK P (.one .raw) (vS (Instr.fieldAt 65 a 1)) fun (t93 : Value) =>
  OpK P (.one (.int .i64)) (vS (Instr.loadAt 3 t93)) fun (t94 : Int) =>
  FnK P (.tup [.raw, (.int .i64)]) 29 #[t30, (.int .i64 t94)] fun (t95 : Value) (t95_1 : Int) =>
  joinK [(106, .bool)] (fun (j7 : Bool → WP) =>
  condK (t88_1 != t95_1)
  (j7 true)
  (FnK P (.one .bool) 22 #[t88, t95] fun (t104 : Bool) =>
  j7 (!t104)))
  fun (t106 : Bool) =>
  condK t106
  (K false)
  (OpK P (.one (.int .i64)) (vS (Builtin.len_ #[46] 3 #[t88])) fun (t108 : Int) =>
  loopK [(109, (.int .i64))] (fun (j8 : Int → WP) => j8 0) (fun (j9 : Int → WP) (t109 : Int) =>
  condK (decide (t109 < t108))
  (OpK P (.one .raw) (vS (Instr.indexAt 46 t88 (.int .i64 t109))) fun (t114 : Value) =>
  OpK P (.one (.int .u8)) (vS (Instr.loadAt 5 t114)) fun (t115 : Int) =>
  OpK P (.one (.int .u8)) (bS .xor 5 (.tmp 115) (.const (.int .u8 255)) (.int .u8 t115) (.int .u8 255)) fun (t116 : Int) =>
  OpK P (.one .raw) (vS (Instr.indexAt 46 t88 (.int .i64 t109))) fun (t117 : Value) =>
  OpK P (.one .raw) (uS (Instr.storeAt 5 t117 (.int .u8 t116))) fun (_ : Value) =>
  ArK .i64 (t109 + 1) fun (t118 : Int) =>
  j9 t118)
  (j4 q))))
  (condK (t55 == 2)
  (FnK P (.one .raw) 26 #[q] fun (t122 : Value) =>
  FnK P (.tup [.raw, (.int .i64)]) 24 #[q, (.int .i64 1)] fun (_ : Value) (_ : Int) =>
  OpK P (.one .raw) (vS (Instr.buildSlice 46 6 #[(0, (.int .u8 115)), (1, (.int .u8 112)), (2, (.int .u8 111)), (3, (.int .u8 105)), (4, (.int .u8 108)), (5, (.int .u8 116))])) fun (t126 : Value) =>
  OpK P (.one .raw) (vS (convert 46 46 t126)) fun (t127 : Value) =>
  FnK P (.one (.int .i64)) 21 #[q, t127] fun (_ : Int) =>
  j4 t122)
  (j4 q))))
  fun (q_1 : Value) =>
  OpK P (.one .bool) (bS .eql 47 (.tmp 130) (.const (.pointer none)) q_1 (.pointer none)) fun (t131 : Bool) =>
  condK t131
  (K false)
  (FnK P (.one .raw) 20 #[q_1] fun (t133 : Value) =>
  joinK [(165, .bool)] (fun (j10 : Bool → WP) =>
  DrawK fun (S : WP) =>
  NilK t30 <|
  PuK P (.one .raw) (vS (Instr.fieldAt 70 t30 0)) fun (t137 : Value) =>
  StK P S (.one .raw) (vS (Instr.loadAt 46 t137)) fun (t138 : Value) =>
  FnK P (.one .bool) 22 #[t133, t138] fun (t139 : Bool) =>
  andK S <|
  condK (!t139)
  (j10 true)
  (NilK t30 <|
  PuK P (.one .raw) (vS (Instr.fieldAt 70 t30 0)) fun (t146 : Value) =>
  StK P S (.one .raw) (vS (Instr.loadAt 46 t146)) fun (t147 : Value) =>
  StK P S (.one (.int .i64)) (vS (Builtin.len_ #[46] 3 #[t147])) fun (t148 : Int) =>
  FnK P (.one (.int .i64)) 23 #[q_1] fun (t143 : Int) =>
  andK S <|
  condK (t143 != t148)
  (j10 true)
  (NilK t30 <|
  PuK P (.one .raw) (vS (Instr.fieldAt 70 t30 1)) fun (t156 : Value) =>
  StK P S (.one (.int .i64)) (vS (Instr.loadAt 3 t156)) fun (t157 : Int) =>
  NilK t30 <|
  PuK P (.one .raw) (vS (Instr.fieldAt 70 t30 0)) fun (t160 : Value) =>
  StK P S (.one .raw) (vS (Instr.loadAt 46 t160)) fun (t161 : Value) =>
  StK P S (.one (.int .i64)) (vS (Builtin.len_ #[46] 3 #[t161])) fun (t162 : Int) =>
  ArK .i64 (t157 - t162) fun (t163 : Int) =>
  FnK P (.one (.int .i64)) 25 #[q_1] fun (t153 : Int) =>
  andK S <|
  j10 (t153 != t163))))
  fun (t165 : Bool) =>
  condK t165
  (K false)
  (OpK P (.one (.int .i64)) (vS (Builtin.len_ #[46] 3 #[t133])) fun (t167 : Int) =>
  loopK [(168, (.int .i64))] (fun (j11 : Int → WP) => j11 0) (fun (j12 : Int → WP) (t168 : Int) =>
  condK (decide (t168 < t167))
  (OpK P (.one .raw) (vS (Instr.indexAt 46 t133 (.int .i64 t168))) fun (t173 : Value) =>
  OpK P (.one (.int .u8)) (vS (Instr.loadAt 5 t173)) fun (t174 : Int) =>
  OpK P (.one (.int .u8)) (bS .xor 5 (.tmp 174) (.const (.int .u8 255)) (.int .u8 t174) (.int .u8 255)) fun (t175 : Int) =>
  OpK P (.one .raw) (vS (Instr.indexAt 46 t133 (.int .i64 t168))) fun (t176 : Value) =>
  OpK P (.one .raw) (uS (Instr.storeAt 5 t176 (.int .u8 t175))) fun (_ : Value) =>
  ArK .i64 (t168 + 1) fun (t177 : Int) =>
  j12 t177)
  (ArK .i64 (t47 + 1) fun (t178 : Int) =>
  j3 q_1 t178))))))
  (K true)))))
theorem law01_QueuePlays_ok (most : Int) (l : Value) (K : Bool → WP) (w : World) (h : law01_QueuePlays_sh most l K w) : FnK P (.one .bool) 9 #[(.int .i64 most), l] K w :=
  fn_ok cx_ok (hi := (.n .l (.n .l (.n .l (.n .l (.n (.n (.j [(42, .bool)] .l) .l) (.n .l (.n (.n .l (.n (.p [(5, .raw), (47, (.int .i64))] (.n .l (.n .l (.n (.n (.n .l (.n .l (.n (.j [(5, .raw)] (.n .l (.n (.n .l (.n (.n .l (.n (.n (.o (odL [0, 1, 3, 4, 5, 2, 6, 7])) .l) (.n .l (.n (.p [(72, (.int .i64))] .l) .l)))) (.n .l (.n (.n .l (.n .l (.n (.n (.j [(106, .bool)] .l) .l) (.n .l (.n (.p [(109, (.int .i64))] .l) .l))))) .l)))) .l))) (.n .l (.n .l (.n (.n (.j [(165, .bool)] (.o (odL [0, 1, 2, 3, 4, 5, 6, 7, 8, 10, 11, 12, 13, 14, 9, 15, 16, 17, 18, 20, 21, 22, 23, 24, 25, 26, 27, 28, 29, 19, 30, 31]))) .l) (.n .l (.n (.p [(168, (.int .i64))] .l) .l)))))))) .l) .l)))) .l)) .l)))))))) (fn := Try.f9) Try.func9 (by kernel_rfl : fnK cx _ _ [(.int .i64 most), l] (unR (.one .bool) K) = law01_QueuePlays_sh most l K) h

end Go.Proofs.Ytinijbijcnihhaa
