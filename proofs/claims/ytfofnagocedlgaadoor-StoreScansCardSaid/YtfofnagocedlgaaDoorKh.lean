/- The texts Ve Vf FS Se Sf Sg FA Qt So, laid together. -/
import Derived.Deep.Draws
import Derived.Test.YtfofnagocedlgaaDoorKd
import Derived.Test.YtfofnagocedlgaaDoorKf
import Derived.Test.YtfofnagocedlgaaDoorKg
section
/-
  FIELDS (layer 16): Select.
-/
set_option maxRecDepth 100000
set_option linter.unusedVariables false
set_option linter.unusedSectionVars false
set_option linter.unusedSimpArgs false
set_option maxHeartbeats 0
namespace Go.Proofs.YtfofnagocedlgaaDoor.Tx
open Go Sh Sl
open Go.RowKit
attribute [local irreducible] condK ArK NilK OpK FnK StK joinK loopK DrawK andK PuK NxK EnK vS uS bS callS invokeS
def joinC (g : List Bs) : Bs := Lib.join g [44, 32]
def selO (l : List Fd) (n : Bs) : List Fd := if get l n = [] then [] else [(n, joinC (get l n))]
def sel (ns : List Bs) (l : List Fd) : List Fd := ns.flatMap (selO l)
theorem join_snoc (g : List Bs) (v : Bs) : joinC (g ++ [v]) = if g = [] then v else joinC g ++ [44, 32] ++ v := by
  unfold joinC
  cases g with
  | nil => simp [Lib.join_one]
  | cons x r =>
    rw [List.cons_append, Lib.join_cons, Lib.join_cons]
    simp [Lib.joinTail]
theorem join_len (g : List Bs) : (joinC g).length ≤ tot g + 2 * g.length := by
  unfold joinC
  cases g with
  | nil => simp [Lib.join_nil]
  | cons x r =>
    rw [Lib.join_cons]
    have : ∀ r : List Bs, (Lib.joinTail [44, 32] r).length ≤ tot r + 2 * r.length := by
      intro r
      induction r with
      | nil => simp [Lib.joinTail, tot]
      | cons y r ih => simp [Lib.joinTail, tot] at ih ⊢; omega
    have := this r
    simp [tot] at this ⊢
    omega
theorem joinf_len (l : List Fd) (n : Bs) : (joinC (get l n)).length ≤ fsz l := by
  have h1 := join_len (get l n)
  have h2 := get_tot l n
  omega
theorem selO_len (l : List Fd) (n : Bs) : (selO l n).length ≤ 1 := by unfold selO; split <;> simp
theorem sel_len (ns : List Bs) (l : List Fd) : (sel ns l).length ≤ ns.length := by
  induction ns with
  | nil => simp [sel]
  | cons n ns ih =>
    have := selO_len l n
    simp only [sel, List.flatMap_cons, List.length_append, List.length_cons] at ih ⊢
    omega
section
variable {e : Env} {ctx ctx' rest R : List HProp}
theorem join_spec {K : ByteArray → WP} {a : Option Addr} {c : Nat} {g : List Bs} (hr : Rd rest a (ss g)) (hc : g.length ≤ c) (h0 : 0 < g.length) (hg : tot g + 2 * g.length ≤ 1099511627776) (h : Ent e rest (K (ba (joinC g)))) :
    Ent e rest (strings_Join (.slice a g.length c) (⟨#[44, 32]⟩ : ByteArray) K) := by
  obtain ⟨bk, o, rfl, hrd⟩ := rd_some hr (by simpa using h0)
  have hjl := join_len g
  refine Ent.libS (s := ba (joinC g)) (fun w hw => ?_) h
  obtain ⟨T, fr, cs, k1, k2⟩ := hrd _ hw.heap
  have hb : w.heap[bk]? = some (.cells cs T fr) := k1
  have hlt : bk < w.heap.size := (Array.getElem?_eq_some_iff.1 hb).1
  have e1 : (g.map ba).map (·.data.toList) = g := by simp [ba, Function.comp_def]
  have := Tryd.strings_Join bk o c (g.map ba) ⟨#[44, 32]⟩ w (fun j x hx => by
    have : (ss g)[j]? = some (.string x) := by
      simp only [List.getElem?_map, Option.map_eq_some_iff] at hx
      obtain ⟨y, hy, rfl⟩ := hx
      simp [ss, hy]
    simp [World.cell?, hb, k2 _ _ this]) hlt (by simp; omega) (by simpa using hc) (by rw [e1]; show (joinC g).length ≤ _; omega)
  rw [e1, List.length_map] at this
  exact this
theorem select_spec {K : Value → WP} {a a' : Option Addr} {c c' : Nat} {ns : List Bs} {l : List Fd} (hr : Rd rest a (ss ns)) (hr' : Rd rest a' (fc l)) (hl : fsz l ≤ 549755813888) (hn : ns.length ≤ 1099511627776) (hnl : ∀ n ∈ ns, n.length ≤ 1099511627776)
    (h : ∀ a c, Ent e (SlO a (sel ns l).length c 2 (fc (sel ns l)) :: rest) (K (.slice a (sel ns l).length c))) :
    Ent e rest (vary_Select (.slice a ns.length c) (.slice a' l.length c') K) := by
  (refine Ent.fn vary_Select_ok ?_; unfold vary_Select_sh)
  refine Ent.box' fun bl => ?_
  refine Ent.alloc' fun bo => ?_
  (refine Ent.go ?_)
  refine Ent.rngL0 ns.length (fun k => exs (fun (y : Option Addr × Nat) => sepL [pt bo [.slice y.1 (sel (ns.take k) l).length y.2], SlO y.1 (sel (ns.take k) l).length y.2 2 (fc (sel (ns.take k) l))]) :: pt bl [.slice a' l.length c'] :: rest) rfl ?_ ?_
  · refine Imp.exs (none, 0) (Imp.g2 ?_)
    refine Imp.trans ?_ (Imp.perm (.swap _ _ _))
    exact Imp.slN (Imp.refl _)
  intro k hk K' hK
  refine Ent.exs fun ⟨a2, c2⟩ => Ent.g2 ?_
  dsimp only
  by_cases hkn : k < ns.length
  · obtain ⟨n, hx⟩ : ∃ n, ns[k]? = some n := ⟨_, List.getElem?_eq_getElem hkn⟩
    have hv2 : (ss ns)[(k : Int).toNat]? = some (.string (ba n)) := by rw [Int.toNat_natCast]; simp [ss, hx]
    have hs : sel (ns.take (k + 1)) l = sel (ns.take k) l ++ selO l n := by rw [take_snoc hx]; simp [sel]
    have hsl := sel_len (ns.take k) l
    have htl : (ns.take k).length ≤ ns.length := by simp; omega
    have hnn := hnl n (List.mem_of_getElem? hx)
    refine Ent.wT ?_ (by simpa using hkn)
    refine Ent.wiSr (hr.tl.tl.tl) ?_ rfl rfl rfl (by omega) (by omega) hv2
    refine Ent.callF (by rfl) ?_
    refine Ent.fn (sh := vary_Select_c1_sh (ba n) (.pointer (some ⟨bl, 0, none⟩)) (.pointer (some ⟨bo, 0, none⟩)) _) (fun w h => vary_Select_c1_ok w h) ?_
    (refine Ent.go ?_)
    refine get_spec (hr'.tl.tl.tl) (by omega) hnn fun a3 c3 => ?_
    have hgt := get_tot l n
    refine Ent.rdS fun hr3 hc3 => ?_
    refine Ent.wlen ?_
    by_cases hg : get l n = []
    · have e1 : selO l n = [] := by unfold selO; rw [if_pos hg]
      rw [e1, List.append_nil] at hs
      refine Ent.wF ?_ (by rw [hg]; rfl)
      (refine Ent.go ?_)
      refine Ent.imp ?_ (hK hkn)
      refine Imp.exs (a2, c2) (Imp.g2 ?_)
      dsimp only
      rw [hs]
      (focus ((repeat ((with_reducible apply Imp.pick); (repeat (first | exact Pick.hd | apply Pick.tl)))); (repeat (first | exact Imp.refl _ | exact Imp.nil _ | apply Imp.drop)); done))
    · have e1 : selO l n = [(n, joinC (get l n))] := by unfold selO; rw [if_neg hg]
      rw [e1] at hs
      have hgl : 0 < (get l n).length := List.length_pos_iff.2 hg
      refine Ent.wT ?_ (decide_eq_true (by omega))
      refine Ent.draw [pt bo [.slice a2 (sel (ns.take k) l).length c2], SlO a3 (get l n).length c3 1 (ss (get l n))] (by (focus ((repeat ((with_reducible apply Imp.pick); (repeat (first | exact Pick.hd | apply Pick.tl)))); (repeat (first | exact Imp.refl _ | exact Imp.nil _ | apply Imp.drop)); done))) ?_
      (refine Ent.go ?_)
      refine join_spec (hr3 _ (by (repeat (first | exact Has.hd | apply Has.tl)))) hc3 hgl (by omega) ?_
      (refine Ent.go ?_)
      refine Ent.app1a (sz := 2) (cs := fdC (n, joinC (get l n))) (hv := rfl) (by (focus ((repeat ((with_reducible apply Imp.pick); (repeat (first | exact Pick.hd | apply Pick.tl)))); (repeat (first | exact Imp.refl _ | exact Imp.nil _ | apply Imp.drop)); done))) (fun a4 c4 => ?_)
      (refine Ent.go ?_)
      refine Ent.imp ?_ (hK hkn)
      refine Imp.exs (a4, c4) (Imp.g2 ?_)
      dsimp only
      rw [hs, fc_app, List.length_append]
      show Imp _ (pt bo [.slice a4 ((sel (ns.take k) l).length + 1) c4] :: SlO a4 ((sel (ns.take k) l).length + 1) c4 2 (fc (sel (ns.take k) l) ++ fdC (n, joinC (get l n))) :: _)
      (focus ((repeat ((with_reducible apply Imp.pick); (repeat (first | exact Pick.hd | apply Pick.tl)))); (repeat (first | exact Imp.refl _ | exact Imp.nil _ | apply Imp.drop)); done))
  · have hkl : k = ns.length := by omega
    subst hkl
    refine Ent.wF ?_ (by simp)
    rw [List.take_of_length_le (Nat.le_refl _)]
    (refine Ent.go ?_)
    exact Ent.imp (by (focus ((repeat ((with_reducible apply Imp.pick); (repeat (first | exact Pick.hd | apply Pick.tl)))); (repeat (first | exact Imp.refl _ | exact Imp.nil _ | apply Imp.drop)); done))) (h a2 c2)
end
end Go.Proofs.YtfofnagocedlgaaDoor.Tx
end
section
/-
  FIELDS (layer 16): the document's Select.
-/
set_option maxRecDepth 100000
set_option linter.unusedVariables false
set_option linter.unusedSectionVars false
set_option linter.unusedSimpArgs false
set_option maxHeartbeats 0
namespace Go.Proofs.YtfofnagocedlgaaDoor.Tx
open Go Sh Sl
open Go.RowKit
attribute [local irreducible] condK ArK NilK OpK FnK StK joinK loopK DrawK andK PuK NxK EnK vS uS bS callS invokeS
theorem ba_app (a b : Bs) : ba a ++ ba b = ba (a ++ b) := by
  apply ByteArray.ext
  simp [ByteArray.data_append]
section
variable {e : Env} {ctx ctx' rest R : List HProp}
theorem addB {t : Nat} {X Y : Operand} {a b : Bs} {K : ByteArray → WP} (hl : a.length + b.length ≤ 9223372036854775807) (h : Ent e ctx (K (ba (a ++ b)))) : Ent e ctx (oS (bS .add t X Y (.string (ba a)) (.string (ba b))) K) := by
  refine Ent.opS (st_addS (by simp [ba, ByteArray.size]; omega)).still ?_
  rw [ba_app]; exact h
end
end Go.Proofs.YtfofnagocedlgaaDoor.Tx
end
section
/-
  FUNCTIONS AS PLAIN TERMS, printed by shx.py.
-/
set_option linter.unusedVariables false
set_option maxRecDepth 100000
namespace Go.Proofs.YtfofnagocedlgaaDoor
open Go Sh
/- tollhouse/tollhouselaw21.awake -/
def law21_awake_sh (K : Bool → WP) : WP :=
 store_New 1000 2 fun t10 t10_1 =>
 joinK [(26, .bool)] (fun (j1 : Bool → WP) =>
 condK (t10_1 != 0)
 (j1 true)
 (law21_E (⟨#[97]⟩ : ByteArray) 35 fun t17 =>
 store_Store_Put t10 t17 fun t18 =>
 condK (t18 != 0)
 (j1 true)
 (law21_E (⟨#[98]⟩ : ByteArray) 35 fun t23 =>
 store_Store_Put t10 t23 fun t24 =>
 j1 (t24 != 0))))
 fun t26 =>
 condK t26
 (K false)
 (store_Store_Get t10 (⟨#[97]⟩ : ByteArray) (.slice none 0 0) fun t29 t29_1 =>
 oR (vS (Instr.alloc 35 true (.tuple #[]))) fun x =>
 sto 35 x t29 <|
 joinK [(50, .bool)] (fun (j2 : Bool → WP) =>
 DrawK fun S =>
 condK (!t29_1)
 (j2 true)
 (sR S (vS (Instr.loadAt 35 x)) fun t35 =>
 law21_E (⟨#[97]⟩ : ByteArray) 35 fun t36 =>
 andK S <|
 ref21_Same t35 t36 fun t37 =>
 condK (!t37)
 (j2 true)
 (store_Store_Used t10 fun t42 =>
 andK S <|
 condK (t42 != 200)
 (j2 true)
 (law21_E (⟨#[99]⟩ : ByteArray) 35 fun t47 =>
 andK S <|
 store_Store_Put t10 t47 fun t48 =>
 andK S <|
 j2 (t48 != 0)))))
 fun t50 =>
 condK t50
 (K false)
 (store_Store_Look t10 (⟨#[97]⟩ : ByteArray) (.slice none 0 0) fun t53 t53_1 =>
 oR (vS (Instr.alloc 35 true (.tuple #[]))) fun t5_ =>
 sto 35 t5_ t53 <|
 store_Store_Look t10 (⟨#[98]⟩ : ByteArray) (.slice none 0 0) fun t58 t58_1 =>
 oR (vS (Instr.alloc 35 true (.tuple #[]))) fun t7_ =>
 sto 35 t7_ t58 <|
 condK t53_1
 (condK (!t58_1)
 (store_Store_Entries t10 fun t68 =>
 len 52 3 t68 fun t69 =>
 K (t69 == 2))
 (K false))
 (K false)))
theorem law21_awake_ok {K : Bool → WP} (w : World) (h : law21_awake_sh K w) : law21_awake K w :=
  fn_ok cx_ok (hi := (.n .l (.n .l (.n (.n (.j [(26, .bool)] .l) .l) (.n .l (.n (.n (.j [(50, .bool)] (.o (odR 0 19))) .l) .l)))))) (fn := Tryd.f5) Tryd.func5 (by kernel_rfl) h

/- tollhouse/tollhouselaw21.E -/
def law21_E_sh (url : ByteArray) (body : Int) (K : Value → WP) : WP :=
 oR (vS (Instr.alloc 35 true (.tuple #[]))) fun t4 =>
 oR (vS (Instr.makeSlice 31 (.int .i64 body) (.int .i64 body))) fun t7 =>
 oR (vS (Instr.build 33 #[(0, (.int .i64 200)), (2, (.int .i64 1)), (4, t7)])) fun t8 =>
 oR (vS (Instr.build 35 #[(0, (.string url)), (4, t8)])) fun t9 =>
 sto 35 t4 t9 <|
 rR (vS (do loadVar 35 (← asAddr t4))) fun u_1 =>
 K u_1
theorem law21_E_ok {url : ByteArray} {body : Int} {K : Value → WP} (w : World) (h : law21_E_sh url body K w) : law21_E url body K w :=
  fn_ok cx_ok (hi := .l) (fn := Tryd.f7) Tryd.func7 (by kernel_rfl) h

/- tollhouse/store.Size -/
def store_Size_sh (e : Value) (K : Int → WP) : WP :=
 oR (vS (Instr.box 35 e)) fun e_1 =>
 fS 35 e_1 0 9 fun t9 =>
 len 9 3 (.string t9) fun t10 =>
 ArK .i64 (64 + t10) fun t11 =>
 oR (vS (Instr.fieldAt 35 e_1 4)) fun t12 =>
 fS 33 t12 1 9 fun t14 =>
 len 9 3 (.string t14) fun t15 =>
 ArK .i64 (t11 + t15) fun t16 =>
 oR (vS (Instr.fieldAt 35 e_1 4)) fun t17 =>
 fR 33 t17 4 31 fun t19 =>
 len 31 3 t19 fun t20 =>
 ArK .i64 (t16 + t20) fun t21 =>
 fR 35 e_1 3 30 fun t23 =>
 oR (vS (Instr.fieldAt 35 e_1 4)) fun t24 =>
 fR 33 t24 3 30 fun t26 =>
 oR (vS (Instr.buildSlice 76 2 #[(0, t23), (1, t26)])) fun t27 =>
 len 76 3 t27 fun t28 =>
 loopK [(3, (.int .i64)), (29, (.int .i64))] (fun (j1 : Int → Int → WP) => j1 t21 0) (fun (j2 : Int → Int → WP) (n : Int) (t29 : Int) =>
 condK (decide (t29 < t28))
 (iR 76 t27 .i64 t29 30 fun t32 =>
 len 30 3 t32 fun t34 =>
 loopK [(3, (.int .i64)), (35, (.int .i64))] (fun (j3 : Int → Int → WP) => j3 n 0) (fun (j4 : Int → Int → WP) (n_1 : Int) (t35 : Int) =>
 condK (decide (t35 < t34))
 (iR 30 t32 .i64 t35 75 fun t38 =>
 oR (vS (Instr.alloc 75 true (.tuple #[]))) fun f =>
 sto 75 f t38 <|
 fS 75 f 0 9 fun t41 =>
 len 9 3 (.string t41) fun t42 =>
 fS 75 f 1 9 fun t44 =>
 len 9 3 (.string t44) fun t45 =>
 ArK .i64 (t42 + t45) fun t46 =>
 ArK .i64 (n_1 + t46) fun t47 =>
 ArK .i64 (t35 + 1) fun t48 =>
 j4 t47 t48)
 (ArK .i64 (t29 + 1) fun t49 =>
 j2 n_1 t49)))
 (K n))
theorem store_Size_ok {e : Value} {K : Int → WP} (w : World) (h : store_Size_sh e K w) : store_Size e K w :=
  fn_ok cx_ok (hi := (.n .l (.n .l (.n (.n .l (.n (.p [(3, (.int .i64)), (29, (.int .i64))] (.n .l (.n .l (.n (.n (.n .l (.n .l (.n (.p [(3, (.int .i64)), (35, (.int .i64))] .l) .l))) .l) .l)))) .l)) .l)))) (fn := Tryd.f17) Tryd.func17 (by kernel_rfl) h

/- tollhouse/store.For -/
def store_For_sh (e : Value) (l : Value) (K : Bool → WP) : WP :=
 oR (vS (Instr.box 35 e)) fun e_1 =>
 oR (vS (Instr.fieldAt 35 e_1 4)) fun t8 =>
 fR 33 t8 3 30 fun t10 =>
 vary_Names t10 fun t11 t11_1 =>
 DrawK fun S =>
 condK (!t11_1)
 (gR S 35 e_1 3 30 fun t21 =>
 vary_Select t11 l fun t19 =>
 andK S <|
 vary_Same t19 t21 fun t22 =>
 K t22)
 (K false)
theorem store_For_ok {e : Value} {l : Value} {K : Bool → WP} (w : World) (h : store_For_sh e l K w) : store_For e l K w :=
  fn_ok cx_ok (hi := (.n .l (.n .l (.n (.o (odL [0, 1, 2, 3, 4, 6, 7, 5, 8, 9, 10])) .l)))) (fn := Tryd.f38) Tryd.func38 (by kernel_rfl) h

/- tollhouse/store.New -/
def store_New_sh (bytes : Int) (entries : Int) (K : Value → Int → WP) : WP :=
 joinK [(21, .bool)] (fun (j1 : Bool → WP) =>
 condK (decide (bytes < 0))
 (j1 true)
 (condK (decide (bytes > 262144))
 (j1 true)
 (condK (decide (entries < 0))
 (j1 true)
 (j1 (decide (entries > 64))))))
 fun t21 =>
 condK t21
 (K (.pointer none) 1)
 (ArK .i64 (entries * 2) fun t24 =>
 oI .i64 (bS .quo 3 (.tmp 24) (.const (.int .i64 3)) (.int .i64 t24) (.int .i64 3)) fun t25 =>
 lru_New t25 fun t26 t26_1 =>
 condK (t26_1 != 0)
 (K (.pointer none) t26_1)
 (oR (vS (Instr.build 49 #[(1, t26), (2, (.int .i64 bytes)), (3, (.int .i64 entries))])) fun t35 =>
 oR (vS (Instr.box 49 t35)) fun t36 =>
 K t36 0))
theorem store_New_ok {bytes : Int} {entries : Int} {K : Value → Int → WP} (w : World) (h : store_New_sh bytes entries K w) : store_New bytes entries K w :=
  fn_ok cx_ok (hi := (.n .l (.n (.n (.j [(21, .bool)] .l) .l) .l))) (fn := Tryd.f4) Tryd.func4 (by kernel_rfl) h

/- (*tollhouse/store.Store).Put -/
def store_Store_Put_sh (s : Value) (e : Value) (K : Int → WP) : WP :=
 oR (vS (Instr.box 35 e)) fun e_1 =>
 joinK [(17, .bool)] (fun (j1 : Bool → WP) =>
 oB (bS .eql 23 (.tmp 9) (.const (.pointer none)) s (.pointer none)) fun t10 =>
 condK t10
 (j1 true)
 (nR 49 s 1 42 fun t15 =>
 oB (bS .eql 42 (.tmp 15) (.const (.pointer none)) t15 (.pointer none)) fun t16 =>
 j1 t16))
 fun t17 =>
 condK t17
 (K 2)
 (store_Store_gone s (.func (.func 15) #[] #[e_1]) fun _ =>
 lR 35 e_1 fun t21 =>
 store_Size t21 fun t22 =>
 joinK [(35, .bool)] (fun (j2 : Bool → WP) =>
 nI 49 s 2 3 .i64 fun t27 =>
 condK (decide (t22 > t27))
 (j2 true)
 (nI 49 s 3 3 .i64 fun t33 =>
 j2 (t33 == 0)))
 fun t35 =>
 condK t35
 (K 7)
 (loopK [] (fun (j3 : WP) => j3) (fun (j4 : WP) =>
 joinK [(55, .bool)] (fun (j5 : Bool → WP) =>
 DrawK fun S =>
 hI S 49 s 3 3 .i64 fun t41 =>
 store_Store_count s fun t37 =>
 andK S <|
 condK (decide (t37 ≥ t41))
 (j5 true)
 (hI S 49 s 2 3 .i64 fun t48 =>
 hI S 49 s 4 3 .i64 fun t52 =>
 ArK .i64 (t48 - t52) fun t53 =>
 j5 (decide (t22 > t53))))
 fun t55 =>
 condK t55
 (nR 49 s 1 42 fun t60 =>
 lru_List_Victim t60 fun t61 t61_1 =>
 condK (!t61_1)
 (K 7)
 (store_Store_out s t61 fun _ =>
 j4))
 (DrawK fun S =>
 NilK s <|
 qR (vS (Instr.fieldAt 49 s 0)) fun t71 =>
 hI S 49 s 3 3 .i64 fun t75 =>
 qR (vS (Instr.sliceAt 47 t71 none (some (.int .i64 t75)) none)) fun t76 =>
 slices_IndexFunc_slot t76 (.func (.func 22) #[] #[]) fun t77 =>
 andK S <|
 DrawK fun S =>
 sR S (vS (Instr.loadAt 35 e_1)) fun t80 =>
 NilK s <|
 qR (vS (Instr.fieldAt 49 s 0)) fun t84 =>
 store_copied t80 fun t81 =>
 qR (vS (Instr.build 46 #[(0, t81), (1, (.bool true))])) fun t82 =>
 qR (vS (Instr.indexAt 47 t84 (.int .i64 t77))) fun t85 =>
 sto 46 t85 t82 <|
 nI 49 s 4 3 .i64 fun t89 =>
 ArK .i64 (t89 + t22) fun t91 =>
 nW 49 s 4 3 (.int .i64 t91) <|
 nR 49 s 1 42 fun t97 =>
 lru_List_Add t97 t77 fun t99 =>
 K t99))))
theorem store_Store_Put_ok {s : Value} {e : Value} {K : Int → WP} (w : World) (h : store_Store_Put_sh s e K w) : store_Store_Put s e K w :=
  fn_ok cx_ok (hi := (.n .l (.n (.n (.j [(17, .bool)] .l) .l) (.n .l (.n .l (.n (.n (.j [(35, .bool)] .l) .l) (.n (.n (.p [] (.n (.n (.j [(55, .bool)] (.o (odL [0, 2, 3, 4, 5, 1, 6, 7, 8, 9, 10, 11, 12, 13, 14, 15, 16, 17, 18, 19]))) .l) .l)) .l) (.n (.o (odR 0 10)) (.n (.o (odL [0, 1, 2, 5, 6, 3, 4, 7, 8])) .l))))))))) (fn := Tryd.f6) Tryd.func6 (by kernel_rfl) h

/- (*tollhouse/store.Store).Look -/
def store_Store_Look_sh (s : Value) (url : ByteArray) (l : Value) (K : Value → Bool → WP) : WP :=
 oR (vS (Instr.alloc 35 true (.tuple #[]))) fun t6 =>
 store_Store_find s url l fun t14 t14_1 =>
 condK (!t14_1)
 (oR (vS (Instr.build 35 #[])) fun t19 =>
 sto 35 t6 t19 <|
 rR (vS (do loadVar 35 (← asAddr t6))) fun u_1 =>
 K u_1 false)
 (NilK s <|
 oR (vS (Instr.fieldAt 49 s 0)) fun t23 =>
 oR (vS (Instr.indexAt 47 t23 (.int .i64 t14))) fun t24 =>
 fR 46 t24 0 35 fun t26 =>
 store_copied t26 fun t27 =>
 sto 35 t6 t27 <|
 rR (vS (do loadVar 35 (← asAddr t6))) fun u_3 =>
 K u_3 true)
theorem store_Store_Look_ok {s : Value} {url : ByteArray} {l : Value} {K : Value → Bool → WP} (w : World) (h : store_Store_Look_sh s url l K w) : store_Store_Look s url l K w :=
  fn_ok cx_ok (hi := .l) (fn := Tryd.f9) Tryd.func9 (by kernel_rfl) h

/- (*tollhouse/store.Store).Get -/
def store_Store_Get_sh (s : Value) (url : ByteArray) (l : Value) (K : Value → Bool → WP) : WP :=
 oR (vS (Instr.alloc 35 true (.tuple #[]))) fun t6 =>
 store_Store_find s url l fun t14 t14_1 =>
 condK (!t14_1)
 (oR (vS (Instr.build 35 #[])) fun t19 =>
 sto 35 t6 t19 <|
 rR (vS (do loadVar 35 (← asAddr t6))) fun u_1 =>
 K u_1 false)
 (nR 49 s 1 42 fun t23 =>
 lru_List_Touch t23 t14 fun _ =>
 NilK s <|
 oR (vS (Instr.fieldAt 49 s 0)) fun t29 =>
 oR (vS (Instr.indexAt 47 t29 (.int .i64 t14))) fun t30 =>
 fR 46 t30 0 35 fun t32 =>
 store_copied t32 fun t33 =>
 sto 35 t6 t33 <|
 rR (vS (do loadVar 35 (← asAddr t6))) fun u_3 =>
 K u_3 true)
theorem store_Store_Get_ok {s : Value} {url : ByteArray} {l : Value} {K : Value → Bool → WP} (w : World) (h : store_Store_Get_sh s url l K w) : store_Store_Get s url l K w :=
  fn_ok cx_ok (hi := .l) (fn := Tryd.f8) Tryd.func8 (by kernel_rfl) h

/- tollhouse/tollhouseref21.Same -/
def ref21_Same_sh (a : Value) (b : Value) (K : Bool → WP) : WP :=
 oR (vS (Instr.box 35 a)) fun a_1 =>
 oR (vS (Instr.box 35 b)) fun b_1 =>
 fS 35 a_1 0 9 fun t6 =>
 fS 35 b_1 0 9 fun t8 =>
 oB (bS .eql 9 (.tmp 6) (.tmp 8) (.string t6) (.string t8)) fun t9 =>
 condK t9
 (fI 35 a_1 1 29 .u64 fun t12 =>
 fI 35 b_1 1 29 .u64 fun t14 =>
 condK (t12 == t14)
 (fI 35 a_1 2 29 .u64 fun t19 =>
 fI 35 b_1 2 29 .u64 fun t21 =>
 condK (t19 == t21)
 (fR 35 a_1 3 30 fun t26 =>
 fR 35 b_1 3 30 fun t28 =>
 ref09_SameFields t26 t28 fun t29 =>
 condK t29
 (fR 35 a_1 4 33 fun t33 =>
 fR 35 b_1 4 33 fun t35 =>
 ref09_SameResponse t33 t35 fun t36 =>
 K t36)
 (K false))
 (K false))
 (K false))
 (K false)
theorem ref21_Same_ok {a : Value} {b : Value} {K : Bool → WP} (w : World) (h : ref21_Same_sh a b K w) : ref21_Same a b K w :=
  fn_ok cx_ok (hi := .l) (fn := Tryd.f11) Tryd.func11 (by kernel_rfl) h

/- (*tollhouse/store.Store).Entries -/
def store_Store_Entries_sh (s : Value) (K : Value → WP) : WP :=
 oR (vS (Instr.alloc 52 true (.tuple #[]))) fun l =>
 store_Store_all s fun t7 =>
 RfK P t7 [.raw, .raw] (fun (l1 : Nat) (_ : Value) (t9 : Value) (d1 : Dn) =>
 oR (vS (Instr.alloc 35 true (.tuple #[]))) fun e =>
 sto 35 e t9 <|
 BgK P l1 <|
 DrawK fun S =>
 sR S (vS (Instr.loadAt 52 l)) fun t10 =>
 sR S (vS (Instr.loadAt 35 e)) fun t11 =>
 store_copied t11 fun t12 =>
 andK S <|
 oR (vS (Instr.buildSlice 52 1 #[(0, t12)])) fun t13 =>
 andK S <|
 app 52 52 52 t10 t13 fun t14 =>
 andK S <|
 sto 52 l t14 <|
 d1 none) fun (r1 : Nat) => JmK
 (lR 52 l fun t15 =>
 TkK P r1 <|
 K t15)
 (fun _ => False)
 []
theorem store_Store_Entries_ok {s : Value} {K : Value → WP} (w : World) (h : store_Store_Entries_sh s K w) : store_Store_Entries s K w :=
  fn_ok cx_ok (hi := (.n .l (.n .l (.n (.n .l (.n (.f [.raw, .raw] false [] .l (.n (.o (odR 0 6)) .l)) .l)) .l)))) (fn := Tryd.f13) Tryd.func13 (by kernel_rfl) h

/- (*tollhouse/store.Store).Used -/
def store_Store_Used_sh (s : Value) (K : Int → WP) : WP :=
 oB (bS .eql 23 (.tmp 3) (.const (.pointer none)) s (.pointer none)) fun t4 =>
 condK t4
 (K 0)
 (nI 49 s 4 3 .i64 fun t8 =>
 K t8)
theorem store_Store_Used_ok {s : Value} {K : Int → WP} (w : World) (h : store_Store_Used_sh s K w) : store_Store_Used s K w :=
  fn_ok cx_ok (hi := .l) (fn := Tryd.f12) Tryd.func12 (by kernel_rfl) h

/- (*tollhouse/store.Store).gone -/
def store_Store_gone_sh (s : Value) (is_ : Value) (K : Int → WP) : WP :=
 oR (vS (Instr.box 23 s)) fun s_1 =>
 oR (vS (Instr.box 56 is_)) fun is__1 =>
 oR (vS (Instr.alloc 3 true (.tuple #[]))) fun n =>
 sto 3 n (.int .i64 0) <|
 lR 23 s_1 fun t8 =>
 store_Store_all t8 fun t9 =>
 RfK P t9 [(.int .i64), .raw] (fun (l1 : Nat) (t10 : Int) (t11 : Value) (d1 : Dn) =>
 oR (vS (Instr.alloc 35 true (.tuple #[]))) fun e =>
 sto 35 e t11 <|
 BgK P l1 <|
 lR 56 is__1 fun t12 =>
 lR 35 e fun t13 =>
 oB (callS t12 #[t13]) fun t14 =>
 condK t14
 (lR 23 s_1 fun t15 =>
 store_Store_out t15 t10 fun _ =>
 lI 3 .i64 n fun t18 =>
 ArK .i64 (t18 + 1) fun t19 =>
 sto 3 n (.int .i64 t19) <|
 d1 none)
 (d1 none)) fun (r1 : Nat) => JmK
 (lI 3 .i64 n fun t20 =>
 TkK P r1 <|
 K t20)
 (fun _ => False)
 []
theorem store_Store_gone_ok {s : Value} {is_ : Value} {K : Int → WP} (w : World) (h : store_Store_gone_sh s is_ K w) : store_Store_gone s is_ K w :=
  fn_ok cx_ok (hi := (.n .l (.n .l (.n (.n .l (.n (.f [(.int .i64), .raw] false [] .l .l) .l)) .l)))) (fn := Tryd.f14) Tryd.func14 (by kernel_rfl) h

/- (*tollhouse/store.Store).Put$1 -/
def store_Store_Put_c1_sh (x : Value) (t1 : Value) (K : Bool → WP) : WP :=
 oR (vS (Instr.box 35 x)) fun x_1 =>
 fS 35 x_1 0 9 fun t5 =>
 fS 35 t1 0 9 fun t7 =>
 oB (bS .eql 9 (.tmp 5) (.tmp 7) (.string t5) (.string t7)) fun t8 =>
 condK t8
 (fR 35 x_1 3 30 fun t11 =>
 fR 35 t1 3 30 fun t13 =>
 vary_Same t11 t13 fun t14 =>
 K t14)
 (K false)
theorem store_Store_Put_c1_ok {x : Value} {t1 : Value} {K : Bool → WP} (w : World) (h : store_Store_Put_c1_sh x t1 K w) : store_Store_Put_c1 x t1 K w :=
  fn_ok cx_ok (hi := .l) (fn := Tryd.f15) Tryd.func15 (by kernel_rfl) h

/- (*tollhouse/store.Store).count -/
def store_Store_count_sh (s : Value) (K : Int → WP) : WP :=
 oR (vS (Instr.alloc 3 true (.tuple #[]))) fun n =>
 sto 3 n (.int .i64 0) <|
 store_Store_all s fun t5 =>
 RfK P t5 [.raw, .raw] (fun (l1 : Nat) (_ : Value) (_ : Value) (d1 : Dn) =>
 BgK P l1 <|
 lI 3 .i64 n fun t8 =>
 ArK .i64 (t8 + 1) fun t9 =>
 sto 3 n (.int .i64 t9) <|
 d1 none) fun (r1 : Nat) => JmK
 (lI 3 .i64 n fun t10 =>
 TkK P r1 <|
 K t10)
 (fun _ => False)
 []
theorem store_Store_count_ok {s : Value} {K : Int → WP} (w : World) (h : store_Store_count_sh s K w) : store_Store_count s K w :=
  fn_ok cx_ok (hi := (.n .l (.n .l (.n (.n .l (.n (.f [.raw, .raw] false [] .l .l) .l)) .l)))) (fn := Tryd.f18) Tryd.func18 (by kernel_rfl) h

/- (*tollhouse/store.Store).out -/
def store_Store_out_sh (s : Value) (i : Int) (K : Value → WP) : WP :=
 DrawK fun S =>
 hI S 49 s 4 3 .i64 fun t7 =>
 NilK s <|
 qR (vS (Instr.fieldAt 49 s 0)) fun t11 =>
 qR (vS (Instr.indexAt 47 t11 (.int .i64 i))) fun t12 =>
 gR S 46 t12 0 35 fun t14 =>
 store_Size t14 fun t15 =>
 andK S <|
 ArK .i64 (t7 - t15) fun t16 =>
 NilK s <|
 qR (vS (Instr.fieldAt 49 s 4)) fun t18 =>
 sto 3 t18 (.int .i64 t16) <|
 oR (vS (Instr.build 46 #[])) fun t21 =>
 NilK s <|
 oR (vS (Instr.fieldAt 49 s 0)) fun t23 =>
 iW 47 t23 .i64 i 46 t21 <|
 nR 49 s 1 42 fun t28 =>
 lru_List_Remove t28 i fun _ =>
 K (.tuple #[])
theorem store_Store_out_ok {s : Value} {i : Int} {K : Value → WP} (w : World) (h : store_Store_out_sh s i K w) : store_Store_out s i K w :=
  fn_ok cx_ok (hi := (.n (.o (odR 0 16)) .l)) (fn := Tryd.f20) Tryd.func20 (by kernel_rfl) h

/- slices.IndexFunc[[]tollhouse/store.slot,tollhouse/store.slot] -/
def slices_IndexFunc_slot_sh (s : Value) (f : Value) (K : Int → WP) : WP :=
 len 62 3 s fun t7 =>
 loopK [(8, (.int .i64))] (fun (j1 : Int → WP) => j1 0) (fun (j2 : Int → WP) (t8 : Int) =>
 condK (decide (t8 < t7))
 (iR 62 s .i64 t8 46 fun t15 =>
 oB (callS f #[t15]) fun t16 =>
 condK t16
 (K t8)
 (ArK .i64 (t8 + 1) fun t18 =>
 j2 t18))
 (K (-1)))
theorem slices_IndexFunc_slot_ok {s : Value} {f : Value} {K : Int → WP} (w : World) (h : slices_IndexFunc_slot_sh s f K w) : slices_IndexFunc_slot s f K w :=
  fn_ok cx_ok (hi := (.n .l (.n (.n .l (.n (.p [(8, (.int .i64))] .l) .l)) .l))) (fn := Tryd.f21) Tryd.func21 (by kernel_rfl) h

/- (*tollhouse/store.Store).Put$2 -/
def store_Store_Put_c2_sh (x : Value) (K : Bool → WP) : WP :=
 oR (vS (Instr.box 46 x)) fun x_1 =>
 fB 46 x_1 1 4 fun t4 =>
 K (!t4)
theorem store_Store_Put_c2_ok {x : Value} {K : Bool → WP} (w : World) (h : store_Store_Put_c2_sh x K w) : store_Store_Put_c2 x K w :=
  fn_ok cx_ok (hi := .l) (fn := Tryd.f22) Tryd.func22 (by kernel_rfl) h

/- tollhouse/store.copied -/
def store_copied_sh (e : Value) (K : Value → WP) : WP :=
 oR (vS (Instr.box 35 e)) fun e_1 =>
 oR (vS (Instr.alloc 35 true (.tuple #[]))) fun t2 =>
 fR 35 e_1 3 30 fun t4 =>
 slices_Clone_Field t4 fun t5 =>
 fW 35 e_1 3 30 t5 <|
 oR (vS (Instr.fieldAt 35 e_1 4)) fun t7 =>
 fR 33 t7 3 30 fun t9 =>
 slices_Clone_Field t9 fun t10 =>
 oR (vS (Instr.fieldAt 35 e_1 4)) fun t11 =>
 fW 33 t11 3 30 t10 <|
 oR (vS (Instr.fieldAt 35 e_1 4)) fun t13 =>
 fR 33 t13 4 31 fun t15 =>
 bytes_Clone t15 fun t16 =>
 oR (vS (Instr.fieldAt 35 e_1 4)) fun t17 =>
 fW 33 t17 4 31 t16 <|
 lR 35 e_1 fun t19 =>
 sto 35 t2 t19 <|
 rR (vS (do loadVar 35 (← asAddr t2))) fun u_4 =>
 K u_4
theorem store_copied_ok {e : Value} {K : Value → WP} (w : World) (h : store_copied_sh e K w) : store_copied e K w :=
  fn_ok cx_ok (hi := .l) (fn := Tryd.f23) Tryd.func23 (by kernel_rfl) h

/- (*tollhouse/store.Store).find -/
def store_Store_find_sh (s : Value) (url : ByteArray) (l : Value) (K : Int → Bool → WP) : WP :=
 oR (vS (Instr.box 23 s)) fun s_1 =>
 oR (vS (Instr.box 9 (.string url))) fun url_1 =>
 oR (vS (Instr.box 30 l)) fun l_1 =>
 oR (vS (Instr.alloc 3 true (.tuple #[]))) fun best =>
 oR (vS (Instr.alloc 4 true (.tuple #[]))) fun is_ =>
 sto 3 best (.int .i64 0) <|
 sto 4 is_ (.bool false) <|
 lR 23 s_1 fun t12 =>
 store_Store_all t12 fun t13 =>
 RfK P t13 [(.int .i64), .raw] (fun (l1 : Nat) (t14 : Int) (t15 : Value) (d1 : Dn) =>
 oR (vS (Instr.alloc 35 true (.tuple #[]))) fun e =>
 sto 35 e t15 <|
 BgK P l1 <|
 joinK [(41, .bool)] (fun (j2 : Bool → WP) =>
 DrawK fun S =>
 gS S 35 e 0 9 fun t17 =>
 sS S (vS (Instr.loadAt 9 url_1)) fun t18 =>
 qB (bS .eql 9 (.tmp 17) (.tmp 18) (.string t17) (.string t18)) fun t19 =>
 condK t19
 (sR S (vS (Instr.loadAt 35 e)) fun t21 =>
 sR S (vS (Instr.loadAt 30 l_1)) fun t22 =>
 store_For t21 t22 fun t23 =>
 andK S <|
 condK t23
 (sB S (vS (Instr.loadAt 4 is_)) fun t26 =>
 condK (!t26)
 (j2 true)
 (gI S 35 e 2 29 .u64 fun t30 =>
 sR S (vS (Instr.loadAt 23 s_1)) fun t31 =>
 sI S .i64 (vS (Instr.loadAt 3 best)) fun t32 =>
 NilK t31 <|
 qR (vS (Instr.fieldAt 49 t31 0)) fun t34 =>
 qR (vS (Instr.indexAt 47 t34 (.int .i64 t32))) fun t35 =>
 qR (vS (Instr.fieldAt 46 t35 0)) fun t36 =>
 gI S 35 t36 2 29 .u64 fun t38 =>
 j2 (decide (t30 ≥ t38))))
 (j2 false))
 (j2 false))
 fun t41 =>
 condK t41
 (sto 3 best (.int .i64 t14) <|
 sto 4 is_ (.bool true) <|
 d1 none)
 (d1 none)) fun (r1 : Nat) => JmK
 (DrawK fun S =>
 sI S .i64 (vS (Instr.loadAt 3 best)) fun t43 =>
 sB S (vS (Instr.loadAt 4 is_)) fun t44 =>
 TkK P r1 <|
 K t43 t44)
 (fun _ => False)
 []
theorem store_Store_find_ok {s : Value} {url : ByteArray} {l : Value} {K : Int → Bool → WP} (w : World) (h : store_Store_find_sh s url l K w) : store_Store_find s url l K w :=
  fn_ok cx_ok (hi := (.n .l (.n .l (.n (.n .l (.n (.f [(.int .i64), .raw] false [] .l (.n (.n (.j [(41, .bool)] (.o (odR 0 26))) .l) .l)) .l)) (.n (.o (odR 0 4)) .l))))) (fn := Tryd.f25) Tryd.func25 (by kernel_rfl) h

/- (*tollhouse/store.Store).all -/
def store_Store_all_sh (s : Value) (K : Value → WP) : WP :=
 oR (vS (Instr.box 23 s)) fun s_1 =>
 K (.func (.func 39) #[] #[s_1])
theorem store_Store_all_ok {s : Value} {K : Value → WP} (w : World) (h : store_Store_all_sh s K w) : store_Store_all s K w :=
  fn_ok cx_ok (hi := .l) (fn := Tryd.f29) Tryd.func29 (by kernel_rfl) h

/- (*tollhouse/store.Store).all$1 -/
def store_Store_all_c1_sh (yield : Value) (t1 : Value) (K : Value → WP) : WP :=
 lR 23 t1 fun t5 =>
 oB (bS .eql 23 (.tmp 5) (.const (.pointer none)) t5 (.pointer none)) fun t6 =>
 condK t6
 (K (.tuple #[]))
 (lR 23 t1 fun t7 =>
 nR 49 t7 0 47 fun t10 =>
 loopK [(11, (.int .i64))] (fun (j1 : Int → WP) => j1 0) (fun (j2 : Int → WP) (t11 : Int) =>
 condK (decide (t11 < 64))
 (oR (vS (Instr.index 47 t10 (.int .i64 t11))) fun t14 =>
 oR (vS (Instr.alloc 46 true (.tuple #[]))) fun x =>
 sto 46 x t14 <|
 fB 46 x 1 4 fun t16 =>
 condK t16
 (fR 46 x 0 35 fun t21 =>
 oB (callS yield #[(.int .i64 t11), t21]) fun t22 =>
 condK (!t22)
 (K (.tuple #[]))
 (ArK .i64 (t11 + 1) fun t25 =>
 j2 t25))
 (ArK .i64 (t11 + 1) fun t25_1 =>
 j2 t25_1))
 (K (.tuple #[]))))
theorem store_Store_all_c1_ok {yield : Value} {t1 : Value} {K : Value → WP} (w : World) (h : store_Store_all_c1_sh yield t1 K w) : store_Store_all_c1 yield t1 K w :=
  fn_ok cx_ok (hi := (.n .l (.n .l (.n (.p [(11, (.int .i64))] .l) .l)))) (fn := Tryd.f39) Tryd.func39 (by kernel_rfl) h

/- tollhouse/tollhouselaw21.StoreScans -/
def law21_StoreScans_sh (entries : Int) (scan : Value) (K : Bool → WP) : WP :=
 oI .i64 (vS (convert 5 3 (.int .u8 entries))) fun t19 =>
 oI .i64 (bS .rem 3 (.tmp 19) (.const (.int .i64 63)) (.int .i64 t19) (.int .i64 63)) fun t20 =>
 ArK .i64 (2 + t20) fun t21 =>
 store_New 262144 t21 fun t24 t24_1 =>
 joinK [(32, .bool)] (fun (j1 : Bool → WP) =>
 law21_awake fun t27 =>
 condK (!t27)
 (j1 true)
 (j1 (t24_1 != 0)))
 fun t32 =>
 condK t32
 (K false)
 (ArK .i64 (t21 * 2) fun t34 =>
 oI .i64 (bS .quo 3 (.tmp 34) (.const (.int .i64 3)) (.int .i64 t34) (.int .i64 3)) fun t35 =>
 loopK [(37, (.int .i64))] (fun (j2 : Int → WP) => j2 0) (fun (j3 : Int → WP) (t37 : Int) =>
 condK (decide (t37 < t35))
 (ArK .i64 (65 + t37) fun t41 =>
 oI .i32 (vS (convert 3 21 (.int .i64 t41))) fun t42 =>
 oS (vS (convert 21 9 (.int .i32 t42))) fun t43 =>
 oS (bS .add 9 (.const (.string (⟨#[107, 101, 112, 116]⟩ : ByteArray))) (.tmp 43) (.string (⟨#[107, 101, 112, 116]⟩ : ByteArray)) (.string t43)) fun t44 =>
 law21_E t44 1 fun t47 =>
 store_Store_Put t24 t47 fun t48 =>
 condK (t48 != 0)
 (K false)
 (store_Store_Get t24 t44 (.slice none 0 0) fun t53 t53_1 =>
 oR (vS (Instr.alloc 35 true (.tuple #[]))) fun t11_ =>
 sto 35 t11_ t53 <|
 condK (!t53_1)
 (K false)
 (ArK .i64 (t37 + 1) fun t58 =>
 j3 t58)))
 (joinK [] (fun (j4 : WP) =>
 len 22 3 scan fun t60 =>
 loopK [(61, (.int .i64))] (fun (j5 : Int → WP) => j5 0) (fun (j6 : Int → WP) (t61 : Int) =>
 condK (decide (t61 < t60))
 (iI 22 scan .i64 t61 39 .u16 fun t65 =>
 condK (t61 == 200)
 (j4)
 (oI .u16 (bS .shr 39 (.tmp 69) (.const (.int .u64 8)) (.int .u16 t65) (.int .u64 8)) fun t70 =>
 oI .u8 (vS (convert 39 5 (.int .u16 t70))) fun t71 =>
 oI .u8 (vS (convert 39 5 (.int .u16 t65))) fun t73 =>
 oR (vS (Instr.buildSlice 31 2 #[(0, (.int .u8 t71)), (1, (.int .u8 t73))])) fun t74 =>
 oS (vS (convert 31 9 t74)) fun t75 =>
 oS (bS .add 9 (.const (.string (⟨#[115, 99, 97, 110]⟩ : ByteArray))) (.tmp 75) (.string (⟨#[115, 99, 97, 110]⟩ : ByteArray)) (.string t75)) fun t76 =>
 law21_E t76 1 fun t77 =>
 store_Store_Put t24 t77 fun t78 =>
 condK (t78 != 0)
 (K false)
 (ArK .i64 (t61 + 1) fun t80 =>
 j6 t80)))
 (j4)))
 <|
 loopK [(82, (.int .i64))] (fun (j7 : Int → WP) => j7 0) (fun (j8 : Int → WP) (t82 : Int) =>
 condK (decide (t82 < t35))
 (ArK .i64 (65 + t82) fun t88 =>
 oI .i32 (vS (convert 3 21 (.int .i64 t88))) fun t89 =>
 oS (vS (convert 21 9 (.int .i32 t89))) fun t90 =>
 oS (bS .add 9 (.const (.string (⟨#[107, 101, 112, 116]⟩ : ByteArray))) (.tmp 90) (.string (⟨#[107, 101, 112, 116]⟩ : ByteArray)) (.string t90)) fun t91 =>
 store_Store_Look t24 t91 (.slice none 0 0) fun t92 t92_1 =>
 oR (vS (Instr.alloc 35 true (.tuple #[]))) fun t16_ =>
 sto 35 t16_ t92 <|
 condK (!t92_1)
 (K false)
 (ArK .i64 (t82 + 1) fun t97 =>
 j8 t97))
 (K true)))))
theorem law21_StoreScans_ok {entries : Int} {scan : Value} {K : Bool → WP} (w : World) (h : law21_StoreScans_sh entries scan K w) : law21_StoreScans entries scan K w :=
  fn_ok cx_ok (hi := (.n .l (.n .l (.n .l (.n (.n (.j [(32, .bool)] .l) .l) (.n .l (.n (.n .l (.n (.p [(37, (.int .i64))] .l) .l)) (.n (.j [] (.n .l (.n (.p [(61, (.int .i64))] .l) .l))) (.n (.n .l (.n (.p [(82, (.int .i64))] .l) .l)) .l))))))))) (fn := Tryd.f3) Tryd.func3 (by kernel_rfl) h

end Go.Proofs.YtfofnagocedlgaaDoor
end
section
/-
  THE STORE (layer 21): an entry: its size; for whom it is; whether two are the same; a copy.
-/
set_option maxRecDepth 100000
set_option linter.unusedVariables false
set_option linter.unusedSectionVars false
set_option linter.unusedSimpArgs false
set_option maxHeartbeats 0
namespace Go.Proofs.YtfofnagocedlgaaDoor.Tx
open Go Sh Sl
open Go.RowKit
attribute [local irreducible] condK ArK NilK OpK FnK StK joinK loopK DrawK andK PuK NxK EnK vS uS bS callS invokeS
/-- a slice as it is held -/
structure Et where
  url : Bs
  asked : Int
  came : Int
  wa : Option Addr
  wc : Nat
  wl : List Fd
  st : Int
  rs : Bs
  mi : Int
  fa : Option Addr
  fk : Nat
  fl : List Fd
  ba_ : Option Addr
  bk : Nat
  bl : Bs
abbrev rc (x : Et) : List Value := [.int .i64 x.st, .string (ba x.rs), .int .i64 x.mi, .slice x.fa x.fl.length x.fk, .slice x.ba_ x.bl.length x.bk]
abbrev ec (x : Et) : List Value := [.string (ba x.url), .int .u64 x.asked, .int .u64 x.came, .slice x.wa x.wl.length x.wc, .int .i64 x.st, .string (ba x.rs), .int .i64 x.mi, .slice x.fa x.fl.length x.fk, .slice x.ba_ x.bl.length x.bk]
structure RdE (ctx : List HProp) (x : Et) : Prop where
  w : Rd ctx x.wa (fc x.wl)
  f : Rd ctx x.fa (fc x.fl)
  b : Rd ctx x.ba_ (u8 x.bl)
theorem RdE.mono {ctx ctx' : List HProp} {x : Et} (h : RdE ctx x) (hi : Imp ctx' ctx) : RdE ctx' x := ⟨h.w.mono hi, h.f.mono hi, h.b.mono hi⟩
theorem RdE.tl {ctx : List HProp} {A : HProp} {x : Et} (h : RdE ctx x) : RdE (A :: ctx) x := h.mono (Imp.drop (Imp.refl _))
/-- its bounds -/
structure EB (x : Et) : Prop where
  u : x.url.length ≤ 268435456
  r : x.rs.length ≤ 268435456
  b : x.bl.length ≤ 268435456
  w : fsz x.wl ≤ 268435456
  f : fsz x.fl ≤ 268435456
def fzn (l : List Fd) : Nat := (l.map fun f => f.1.length + f.2.length).sum
theorem fzn_snoc (l : List Fd) (f : Fd) : fzn (l ++ [f]) = fzn l + (f.1.length + f.2.length) := by simp [fzn]
theorem fzn_le (l : List Fd) : fzn l ≤ fsz l := by
  induction l with
  | nil => simp [fzn, fsz]
  | cons f l ih => simp [fzn, fsz] at ih ⊢; omega
theorem fsz_take (l : List Fd) (k : Nat) : fsz (l.take k) ≤ fsz l := by
  have h9 := fsz_app (l.take k) (l.drop k)
  rw [List.take_append_drop] at h9
  omega
def size (x : Et) : Nat := 64 + x.url.length + x.rs.length + x.bl.length + fzn x.wl + fzn x.fl
section
variable {e : Env} {ctx ctx' rest R : List HProp}
theorem size_spec {K : Int → WP} {x : Et} (hr : RdE rest x) (hb : EB x) (h : Ent e rest (K (size x : Int))) : Ent e rest (store_Size (.agg (ec x).toArray) K) := by
  have h1 := hb.u
  have h2 := hb.r
  have h3 := hb.b
  have h4 := hb.w
  have h5 := hb.f
  have hw := fzn_le x.wl
  have hf := fzn_le x.fl
  (refine Ent.fn store_Size_ok ?_; unfold store_Size_sh)
  refine Ent.box' fun eb => ?_
  (refine Ent.go ?_)
  refine Ent.slice (out := [.slice x.wa x.wl.length x.wc, .slice x.fa x.fl.length x.fk]) (z := [.slice none 0 0]) (sz := 1) rfl rfl rfl rfl (by decide) (by decide) (by rfl) fun sb => ?_
  (refine Ent.go ?_)
  -- one of the two
  have inner : ∀ (a : Option Addr) (c : Nat) (l : List Fd) (n0 : Int) (K2 : Int → WP), Rd rest a (fc l) → fsz l ≤ 268435456 → 0 ≤ n0 → n0 ≤ 2147483648 → Ent e (pt sb [.slice x.wa x.wl.length x.wc, .slice x.fa x.fl.length x.fk] :: pt eb (ec x) :: rest) (K2 (n0 + (fzn l : Int))) →
      Ent e (pt sb [.slice x.wa x.wl.length x.wc, .slice x.fa x.fl.length x.fk] :: pt eb (ec x) :: rest) (loopK [(3, (.int .i64)), (35, (.int .i64))] (fun (j3 : Int → Int → WP) => j3 n0 0) (fun (j4 : Int → Int → WP) (n_1 : Int) (t35 : Int) =>
       condK (decide (t35 < (l.length : Int)))
       (iR 30 (.slice a l.length c) .i64 t35 75 fun t38 =>
       oR (vS (Instr.alloc 75 true (.tuple #[]))) fun f =>
       sto 75 f t38 <|
       fS 75 f 0 9 fun t41 =>
       len 9 3 (.string t41) fun t42 =>
       fS 75 f 1 9 fun t44 =>
       len 9 3 (.string t44) fun t45 =>
       ArK .i64 (t42 + t45) fun t46 =>
       ArK .i64 (n_1 + t46) fun t47 =>
       ArK .i64 (t35 + 1) fun t48 =>
       j4 t47 t48)
       (K2 n_1))) := by
    intro a c l n0 K2 hr hfl hn0 hn1 hk
    have hll := fsz_len l
    refine Ent.rngL1 (k0 := .int .i64) l.length (fun k v => pur (v = n0 + (fzn (l.take k) : Int)) :: pt sb [.slice x.wa x.wl.length x.wc, .slice x.fa x.fl.length x.fk] :: pt eb (ec x) :: rest) rfl ?_ ?_
    · exact Imp.pur (by simp [fzn]) (Imp.refl _)
    intro k hk2 K' hK v
    refine Ent.pur fun hv => ?_
    subst hv
    by_cases hkn : k < l.length
    · obtain ⟨f, hf⟩ : ∃ f, l[k]? = some f := ⟨_, List.getElem?_eq_getElem hkn⟩
      have hfm := fsz_mem (List.mem_of_getElem? hf)
      have hs := fzn_snoc (l.take k) f
      rw [← take_snoc hf] at hs
      have hzl := fzn_le (l.take k)
      have hzt := fsz_take l k
      refine Ent.wT ?_ (by simpa using hkn)
      refine fdR hr.tl.tl hf hkn ?_
      refine Ent.alloc' fun fb => ?_
      (refine Ent.go ?_)
      refine Ent.imp ?_ (hK hkn _)
      refine Imp.pur ?_ ?_
      · rw [hs]
        exact (by omega : n0 + (fzn (l.take k) : Int) + ((f.1.length : Int) + f.2.length) = n0 + ((fzn (l.take k) + (f.1.length + f.2.length) : Nat) : Int))
      · (focus ((repeat ((with_reducible apply Imp.pick); (repeat (first | exact Pick.hd | apply Pick.tl)))); (repeat (first | exact Imp.refl _ | exact Imp.nil _ | apply Imp.drop)); done))
    · have hkl : k = l.length := by omega
      subst hkl
      refine Ent.wF ?_ (by simp)
      rw [List.take_of_length_le (Nat.le_refl _)]
      exact hk
  refine Ent.rngL1 (k0 := .int .i64) 2 (fun k v => pur (v = (64 + x.url.length + x.rs.length + x.bl.length : Nat) + (if 1 ≤ k then (fzn x.wl : Int) else 0) + (if 2 ≤ k then (fzn x.fl : Int) else 0)) :: pt sb [.slice x.wa x.wl.length x.wc, .slice x.fa x.fl.length x.fk] :: pt eb (ec x) :: rest) rfl ?_ ?_
  · exact Imp.pur (by simp) (Imp.refl _)
  intro k hk K' hK v
  refine Ent.pur fun hv => ?_
  subst hv
  rcases k with _ | _ | _ | k
  · refine Ent.wT ?_ (by decide)
    (refine Ent.go ?_)
    refine inner x.wa x.wc x.wl _ (fun n_1 => ArK .i64 (((0 : Nat) : Int) + 1) fun t49 => K' n_1 t49) hr.w h4 ?_ ?_ ?_
    · simp; omega
    · simp; omega
    · (refine Ent.go ?_)
      refine Ent.imp (Imp.pur ?_ (Imp.refl _)) (hK (by decide) _)
      simp
  · refine Ent.wT ?_ (by decide)
    (refine Ent.go ?_)
    refine inner x.fa x.fk x.fl _ (fun n_1 => ArK .i64 (((0 + 1 : Nat) : Int) + 1) fun t49 => K' n_1 t49) hr.f h5 ?_ ?_ ?_
    · simp; omega
    · simp; omega
    · (refine Ent.go ?_)
      refine Ent.imp (Imp.pur ?_ (Imp.refl _)) (hK (by decide) _)
      simp
  · refine Ent.wF ?_ (by decide)
    have e1 : (((64 + x.url.length + x.rs.length + x.bl.length : Nat) : Int) + (if 1 ≤ 0 + 1 + 1 then (fzn x.wl : Int) else 0) + (if 2 ≤ 0 + 1 + 1 then (fzn x.fl : Int) else 0)) = (size x : Int) := by
      unfold size; simp
    rw [e1]
    exact Ent.imp (by (focus ((repeat ((with_reducible apply Imp.pick); (repeat (first | exact Pick.hd | apply Pick.tl)))); (repeat (first | exact Imp.refl _ | exact Imp.nil _ | apply Imp.drop)); done))) h
  · omega
end
end Go.Proofs.YtfofnagocedlgaaDoor.Tx
end
section
/-
  THE STORE (layer 21): sizes and 'for whom' of the document; whether entries are the same; copies.
-/
set_option maxRecDepth 100000
set_option linter.unusedVariables false
set_option linter.unusedSectionVars false
set_option linter.unusedSimpArgs false
set_option maxHeartbeats 0
namespace Go.Proofs.YtfofnagocedlgaaDoor.Tx
open Go Sh Sl
open Go.RowKit
attribute [local irreducible] condK ArK NilK OpK FnK StK joinK loopK DrawK andK PuK NxK EnK vS uS bS callS invokeS
def forE (x : Et) (l : List Fd) : Bool := !star (elems x.fl [118, 97, 114, 121]) && decide (sel (nm (elems x.fl [118, 97, 114, 121])) l = x.wl)
section
variable {e : Env} {ctx ctx' rest R : List HProp}
theorem vn_b {x : Et} (hb : EB x) : (nm (elems x.fl [118, 97, 114, 121])).length ≤ 1099511627776 ∧ ∀ n ∈ nm (elems x.fl [118, 97, 114, 121]), n.length ≤ 1099511627776 := by
  have h1 := elems_tot x.fl [118, 97, 114, 121]
  have h2 := nm_len (elems x.fl [118, 97, 114, 121])
  have h3 := hb.f
  refine ⟨by omega, fun n hn => ?_⟩
  have := nm_size (elems x.fl [118, 97, 114, 121]) n hn
  omega
theorem for_spec {K : Bool → WP} {x : Et} {a : Option Addr} {c : Nat} {l : List Fd} (hr : RdE rest x) (hb : EB x) (hl : Rd rest a (fc l)) (hlb : fsz l ≤ 268435456) (h : Ent e rest (K (forE x l))) :
    Ent e rest (store_For (.agg (ec x).toArray) (.slice a l.length c) K) := by
  obtain ⟨hn1, hn2⟩ := vn_b hb
  have h5 := hb.f
  have h4 := hb.w
  have hwl := fsz_len x.wl
  have hsl := sel_len (nm (elems x.fl [118, 97, 114, 121])) l
  (refine Ent.fn store_For_ok ?_; unfold store_For_sh)
  refine Ent.box' fun eb => ?_
  (refine Ent.go ?_)
  refine names_spec (hr.f.tl) (by omega) fun a2 c2 => ?_
  refine Ent.rdS fun hrn _ => ?_
  refine Ent.draw [pt eb (ec x)] (by (focus ((repeat ((with_reducible apply Imp.pick); (repeat (first | exact Pick.hd | apply Pick.tl)))); (repeat (first | exact Imp.refl _ | exact Imp.nil _ | apply Imp.drop)); done))) ?_
  cases hs : star (elems x.fl [118, 97, 114, 121]) with
  | true =>
    refine Ent.wF ?_
    have : forE x l = false := by unfold forE; rw [hs]; rfl
    rw [← this]
    exact Ent.imp (by (focus ((repeat ((with_reducible apply Imp.pick); (repeat (first | exact Pick.hd | apply Pick.tl)))); (repeat (first | exact Imp.refl _ | exact Imp.nil _ | apply Imp.drop)); done))) h
  | false =>
    refine Ent.wT ?_
    (refine Ent.go ?_)
    refine select_spec (hrn _ (by (repeat (first | exact Has.hd | apply Has.tl)))) (hl.tl.tl) (by omega) hn1 hn2 fun a3 c3 => ?_
    refine Ent.wand ?_
    have hrs : ∀ ctx', Has ctx' (SlO a3 (sel (nm (elems x.fl [118, 97, 114, 121])) l).length c3 2 (fc (sel (nm (elems x.fl [118, 97, 114, 121])) l))) → Rd ctx' a3 (fc (sel (nm (elems x.fl [118, 97, 114, 121])) l)) ∨ True := fun _ _ => .inr trivial
    refine Ent.rdS fun hr3 _ => ?_
    refine vary_same_spec (hr3 _ (by (repeat (first | exact Has.hd | apply Has.tl)))) hr.w.tl.tl.tl (by omega) (by omega) ?_
    have : forE x l = decide (sel (nm (elems x.fl [118, 97, 114, 121])) l = x.wl) := by unfold forE; rw [hs]; rfl
    rw [← this]
    exact Ent.imp (by (focus ((repeat ((with_reducible apply Imp.pick); (repeat (first | exact Pick.hd | apply Pick.tl)))); (repeat (first | exact Imp.refl _ | exact Imp.nil _ | apply Imp.drop)); done))) h
theorem lenQ {y : Nat} {s : Bs} {c : Int → WP} (h : Ent e ctx (c s.length)) : Ent e ctx (StK P (Sat e (sepL R)) (.one (.int .i64)) (vS (Builtin.len_ #[9] y #[(.string (ba s))])) c) := by
  refine Ent.stI (st_lenS rfl).still ?_
  simpa [ba, ByteArray.size] using h
end
end Go.Proofs.YtfofnagocedlgaaDoor.Tx
end
section
/-
  THE STORE (layer 21): whether entries are the same; copies; the statements' own entries.
-/
set_option maxRecDepth 100000
set_option linter.unusedVariables false
set_option linter.unusedSectionVars false
set_option linter.unusedSimpArgs false
set_option maxHeartbeats 0
namespace Go.Proofs.YtfofnagocedlgaaDoor.Tx
open Go Sh Sl
open Go.RowKit
attribute [local irreducible] condK ArK NilK OpK FnK StK joinK loopK DrawK andK PuK NxK EnK vS uS bS callS invokeS
instance dec0 : DecidableEq (List Fd × Bs) := inferInstance
instance dec1 : DecidableEq (Int × List Fd × Bs) := inferInstance
instance dec2 : DecidableEq (Bs × Int × List Fd × Bs) := inferInstance
instance dec3 : DecidableEq (Int × Bs × Int × List Fd × Bs) := inferInstance
instance dec4 : DecidableEq (List Fd × Int × Bs × Int × List Fd × Bs) := inferInstance
instance dec5 : DecidableEq (Int × List Fd × Int × Bs × Int × List Fd × Bs) := inferInstance
instance dec6 : DecidableEq (Int × Int × List Fd × Int × Bs × Int × List Fd × Bs) := inferInstance
instance dec7 : DecidableEq (Bs × Int × Int × List Fd × Int × Bs × Int × List Fd × Bs) := inferInstance
/-- what an entry says -/
def dE (x : Et) : Bs × Int × Int × List Fd × Int × Bs × Int × List Fd × Bs := (x.url, x.asked, x.came, x.wl, x.st, x.rs, x.mi, x.fl, x.bl)
def dR (x : Et) : Int × Bs × Int × List Fd × Bs := (x.st, x.rs, x.mi, x.fl, x.bl)
abbrev OwnE (x : Et) (rest : List HProp) : List HProp := SlO x.wa x.wl.length x.wc 2 (fc x.wl) :: SlO x.fa x.fl.length x.fk 2 (fc x.fl) :: SlO x.ba_ x.bl.length x.bk 1 (u8 x.bl) :: rest
theorem dE_iff {x y : Et} : dE x = dE y ↔ x.url = y.url ∧ x.asked = y.asked ∧ x.came = y.came ∧ x.wl = y.wl ∧ dR x = dR y := by
  simp [dE, dR]
section
variable {e : Env} {ctx ctx' rest R : List HProp}
theorem SlO.imp0 {b sz : Nat} : Imp (pt b [] :: ctx) (SlO (some ⟨b, 0, none⟩) 0 0 sz [] :: ctx) := fun _ k =>
  sepL_cons (fun h hh => ⟨by simp, .inr ⟨b, [], rfl, Nat.le_refl _, by simp, hh⟩⟩) (fun _ z => z) k
theorem samer_spec {K : Bool → WP} {x y : Et} (hx : RdE rest x) (hy : RdE rest y) (bx : EB x) (by_ : EB y) (h : Ent e rest (K (decide (dR x = dR y)))) : Ent e rest (ref09_SameResponse (.agg (rc x).toArray) (.agg (rc y).toArray) K) := by
  have h5 := bx.f
  have g5 := by_.f
  have hfl := fsz_len x.fl
  have gfl := fsz_len y.fl
  have no : dR x ≠ dR y → Ent e rest (K false) := fun hn => by rw [← decide_eq_false hn]; exact h
  (refine Ent.fn ref09_SameResponse_ok ?_; unfold ref09_SameResponse_sh)
  refine Ent.box' fun ab => ?_
  refine Ent.box' fun bb => ?_
  (refine Ent.go ?_)
  refine Ent.condE (fun h1 => ?_) fun h1 => ?_
  rotate_left
  · exact Ent.imp (by (focus ((repeat ((with_reducible apply Imp.pick); (repeat (first | exact Pick.hd | apply Pick.tl)))); (repeat (first | exact Imp.refl _ | exact Imp.nil _ | apply Imp.drop)); done))) (no fun hh => h1 (Prod.mk.inj hh).1)
  (refine Ent.go ?_)
  refine Ent.condD (fun h2 => ?_) fun h2 => ?_
  rotate_left
  · exact Ent.imp (by (focus ((repeat ((with_reducible apply Imp.pick); (repeat (first | exact Pick.hd | apply Pick.tl)))); (repeat (first | exact Imp.refl _ | exact Imp.nil _ | apply Imp.drop)); done))) (no fun hh => h2 (ba_inj.2 (Prod.mk.inj (Prod.mk.inj hh).2).1))
  (refine Ent.go ?_)
  refine Ent.condE (fun h3 => ?_) fun h3 => ?_
  rotate_left
  · exact Ent.imp (by (focus ((repeat ((with_reducible apply Imp.pick); (repeat (first | exact Pick.hd | apply Pick.tl)))); (repeat (first | exact Imp.refl _ | exact Imp.nil _ | apply Imp.drop)); done))) (no fun hh => h3 (Prod.mk.inj (Prod.mk.inj (Prod.mk.inj hh).2).2).1)
  (refine Ent.go ?_)
  refine ref_samef_spec hx.f.tl.tl hy.f.tl.tl (by omega) (by omega) ?_
  refine Ent.condD (fun h4 => ?_) fun h4 => ?_
  rotate_left
  · exact Ent.imp (by (focus ((repeat ((with_reducible apply Imp.pick); (repeat (first | exact Pick.hd | apply Pick.tl)))); (repeat (first | exact Imp.refl _ | exact Imp.nil _ | apply Imp.drop)); done))) (no fun hh => h4 (Prod.mk.inj (Prod.mk.inj (Prod.mk.inj (Prod.mk.inj hh).2).2).2).1)
  (refine Ent.go ?_)
  refine Ent.opS (st_b2s (l := x.bl) hx.b.tl.tl rfl rfl rfl) ?_
  (refine Ent.go ?_)
  refine Ent.opS (st_b2s (l := y.bl) hy.b.tl.tl rfl rfl rfl) ?_
  (refine Ent.go ?_)
  have : decide (ba x.bl = ba y.bl) = decide (dR x = dR y) := by
    refine decide_eq_decide.2 ?_
    rw [ba_inj] at h2 ⊢
    unfold dR
    constructor
    · intro h6; rw [h1, h2, h3, h4, h6]
    · intro hh; exact (Prod.mk.inj (Prod.mk.inj (Prod.mk.inj (Prod.mk.inj hh).2).2).2).2
  rw [this]
  exact Ent.imp (by (focus ((repeat ((with_reducible apply Imp.pick); (repeat (first | exact Pick.hd | apply Pick.tl)))); (repeat (first | exact Imp.refl _ | exact Imp.nil _ | apply Imp.drop)); done))) h
theorem same_e_spec {K : Bool → WP} {x y : Et} (hx : RdE rest x) (hy : RdE rest y) (bx : EB x) (by_ : EB y) (h : Ent e rest (K (decide (dE x = dE y)))) : Ent e rest (ref21_Same (.agg (ec x).toArray) (.agg (ec y).toArray) K) := by
  have h5 := bx.w
  have g5 := by_.w
  have hfl := fsz_len x.wl
  have gfl := fsz_len y.wl
  have no : dE x ≠ dE y → Ent e rest (K false) := fun hn => by rw [← decide_eq_false hn]; exact h
  (refine Ent.fn ref21_Same_ok ?_; unfold ref21_Same_sh)
  refine Ent.box' fun ab => ?_
  refine Ent.box' fun bb => ?_
  (refine Ent.go ?_)
  refine Ent.condD (fun h1 => ?_) fun h1 => ?_
  rotate_left
  · exact Ent.imp (by (focus ((repeat ((with_reducible apply Imp.pick); (repeat (first | exact Pick.hd | apply Pick.tl)))); (repeat (first | exact Imp.refl _ | exact Imp.nil _ | apply Imp.drop)); done))) (no fun hh => h1 (ba_inj.2 (dE_iff.1 hh).1))
  (refine Ent.go ?_)
  refine Ent.condE (fun h2 => ?_) fun h2 => ?_
  rotate_left
  · exact Ent.imp (by (focus ((repeat ((with_reducible apply Imp.pick); (repeat (first | exact Pick.hd | apply Pick.tl)))); (repeat (first | exact Imp.refl _ | exact Imp.nil _ | apply Imp.drop)); done))) (no fun hh => h2 (dE_iff.1 hh).2.1)
  (refine Ent.go ?_)
  refine Ent.condE (fun h3 => ?_) fun h3 => ?_
  rotate_left
  · exact Ent.imp (by (focus ((repeat ((with_reducible apply Imp.pick); (repeat (first | exact Pick.hd | apply Pick.tl)))); (repeat (first | exact Imp.refl _ | exact Imp.nil _ | apply Imp.drop)); done))) (no fun hh => h3 (dE_iff.1 hh).2.2.1)
  (refine Ent.go ?_)
  refine ref_samef_spec hx.w.tl.tl hy.w.tl.tl (by omega) (by omega) ?_
  refine Ent.condD (fun h4 => ?_) fun h4 => ?_
  rotate_left
  · exact Ent.imp (by (focus ((repeat ((with_reducible apply Imp.pick); (repeat (first | exact Pick.hd | apply Pick.tl)))); (repeat (first | exact Imp.refl _ | exact Imp.nil _ | apply Imp.drop)); done))) (no fun hh => h4 (dE_iff.1 hh).2.2.2.1)
  (refine Ent.go ?_)
  refine samer_spec hx.tl.tl hy.tl.tl bx by_ ?_
  have : decide (dR x = dR y) = decide (dE x = dE y) := by
    refine decide_eq_decide.2 ?_
    rw [ba_inj] at h1
    rw [dE_iff]
    exact ⟨fun h6 => ⟨h1, h2, h3, h4, h6⟩, fun hh => hh.2.2.2.2⟩
  rw [this]
  exact Ent.imp (by (focus ((repeat ((with_reducible apply Imp.pick); (repeat (first | exact Pick.hd | apply Pick.tl)))); (repeat (first | exact Imp.refl _ | exact Imp.nil _ | apply Imp.drop)); done))) h
theorem clonef_spec {K : Value → WP} {a : Option Addr} {c : Nat} {l : List Fd} (hb : l.length ≤ 1099511627776) (hr : Rd rest a (fc l)) (h : ∀ a2 c2, Ent e (SlO a2 l.length c2 2 (fc l) :: rest) (K (.slice a2 l.length c2))) :
    Ent e rest (slices_Clone_Field (.slice a l.length c) K) := by
  (refine Ent.fn slices_Clone_Field_ok ?_; unfold slices_Clone_Field_sh)
  cases a with
  | none =>
    have hl0 : fc l = [] := hr
    have hn0 : l = [] := List.eq_nil_of_length_eq_zero (by have := congrArg List.length hl0; simp at this; omega)
    subst hn0
    (refine Ent.go ?_)
    exact Ent.slN (h none 0)
  | some a =>
    (refine Ent.go ?_)
    refine Ent.slice (out := []) (z := [.string ⟨#[]⟩, .string ⟨#[]⟩]) (sz := 2) rfl rfl rfl rfl (by decide) (by decide) (by rfl) fun b2 => ?_
    refine Ent.imp (SlO.imp0 (sz := 2)) ?_
    refine Ent.appN (m := l.length) (news := fc l) (sz := 2) ?_ (fun a2 c2 => ?_) (hl := fc_len l) (h1 := fc_one l) (hb := by simp; omega)
    · exact hr.mono (Imp.drop (Imp.refl _))
    · have := h a2 c2
      simpa using this
where
  fc_one (l : List Fd) : ∀ v ∈ fc l, v.oneCell' = true := by
    intro v hv
    simp only [fc, List.mem_flatten, List.mem_map] at hv
    obtain ⟨_, ⟨f, _, rfl⟩, hv⟩ := hv
    simp only [List.mem_cons, List.mem_nil_iff, or_false] at hv
    rcases hv with rfl | rfl <;> rfl
theorem cloneb_spec {K : Value → WP} {a : Option Addr} {c : Nat} {l : Bs} (hb : l.length ≤ 1099511627776) (hr : Rd rest a (u8 l)) (h : ∀ a2 c2, Ent e (SlO a2 l.length c2 1 (u8 l) :: rest) (K (.slice a2 l.length c2))) :
    Ent e rest (bytes_Clone (.slice a l.length c) K) := by
  (refine Ent.fn bytes_Clone_ok ?_; unfold bytes_Clone_sh)
  cases a with
  | none =>
    have hl0 : u8 l = [] := hr
    have hn0 : l = [] := List.eq_nil_of_length_eq_zero (by have := congrArg List.length hl0; simpa using this)
    subst hn0
    (refine Ent.go ?_)
    exact Ent.slN (h none 0)
  | some a =>
    (refine Ent.go ?_)
    refine Ent.slice (out := []) (z := [.int .u8 0]) (sz := 1) rfl rfl rfl rfl (by decide) (by decide) (by rfl) fun b2 => ?_
    refine Ent.imp (SlO.imp0 (sz := 1)) ?_
    refine Ent.appN (m := l.length) (news := u8 l) (sz := 1) ?_ (fun a2 c2 => ?_) (hl := by simp) (h1 := u8_one l) (hb := by simp; omega)
    · exact hr.mono (Imp.drop (Imp.refl _))
    · have := h a2 c2
      simpa using this
theorem copied_spec {K : Value → WP} {x : Et} (hr : RdE rest x) (hb : EB x) (h : ∀ y : Et, dE y = dE x → Ent e (OwnE y rest) (K (.agg (ec y).toArray))) : Ent e rest (store_copied (.agg (ec x).toArray) K) := by
  have h1 := hb.w
  have h2 := hb.f
  have h3 := hb.b
  have hwl := fsz_len x.wl
  have hfl := fsz_len x.fl
  (refine Ent.fn store_copied_ok ?_; unfold store_copied_sh)
  refine Ent.box' fun eb => ?_
  refine Ent.alloc' fun t2 => ?_
  (refine Ent.go ?_)
  refine clonef_spec (by omega) hr.w.tl.tl fun a1 c1 => ?_
  (refine Ent.go ?_)
  refine clonef_spec (by omega) hr.f.tl.tl.tl fun a2 c2 => ?_
  (refine Ent.go ?_)
  refine cloneb_spec (by omega) hr.b.tl.tl.tl.tl fun a3 c3 => ?_
  (refine Ent.go ?_)
  refine Ent.wrA ?_
  refine Ent.imp ?_ (h { x with wa := a1, wc := c1, fa := a2, fk := c2, ba_ := a3, bk := c3 } rfl)
  (focus ((repeat ((with_reducible apply Imp.pick); (repeat (first | exact Pick.hd | apply Pick.tl)))); (repeat (first | exact Imp.refl _ | exact Imp.nil _ | apply Imp.drop)); done))
/-- an entry of a URL whose body has so many bytes -/
theorem e_spec {K : Value → WP} {url : Bs} {n : Nat} (hn : n ≤ 1048576) (h : ∀ y : Et, dE y = (url, 0, 0, [], 200, [], 1, [], List.replicate n 0) → Ent e (OwnE y rest) (K (.agg (ec y).toArray))) : Ent e rest (law21_E (ba url) n K) := by
  obtain ⟨r, hr, hlen⟩ : ∃ r : Bs, r = List.replicate n 0 ∧ r.length = n := ⟨_, rfl, by simp⟩
  have e1 : List.replicate n (Value.int .u8 0) = u8 r := by rw [hr]; simp [u8]
  rw [← hr] at h
  clear hr
  subst hlen
  (refine Ent.fn law21_E_ok ?_; unfold law21_E_sh)
  refine Ent.alloc' fun t4 => ?_
  refine Ent.make (by_ := 1) (z := .int .u8 0) (n := r.length) rfl rfl rfl (by omega) (by omega) fun b => ?_
  (refine Ent.go ?_)
  refine Ent.wrA ?_
  rw [e1]
  refine Ent.imp ?_ (h ⟨url, 0, 0, none, 0, [], 200, [], 1, none, 0, [], some ⟨b, 0, none⟩, r.length, r⟩ rfl)
  refine Imp.trans (b := pt b (u8 r) :: rest) (by (focus ((repeat ((with_reducible apply Imp.pick); (repeat (first | exact Pick.hd | apply Pick.tl)))); (repeat (first | exact Imp.refl _ | exact Imp.nil _ | apply Imp.drop)); done))) ?_
  refine Imp.trans (SlO.imp (n := r.length) (by simp)) ?_
  refine Imp.trans (Imp.slN (sz := 2) (Imp.refl _)) ?_
  refine Imp.trans (Imp.slN (sz := 2) (Imp.refl _)) ?_
  show Imp _ (SlO none 0 0 2 [] :: SlO none 0 0 2 [] :: SlO (some ⟨b, 0, none⟩) r.length r.length 1 (u8 r) :: rest)
  (focus ((repeat ((with_reducible apply Imp.pick); (repeat (first | exact Pick.hd | apply Pick.tl)))); (repeat (first | exact Imp.refl _ | exact Imp.nil _ | apply Imp.drop)); done))
end
end Go.Proofs.YtfofnagocedlgaaDoor.Tx
end
section
/-
  FUNCTIONS AS PLAIN TERMS, printed by shx.py.
-/
set_option linter.unusedVariables false
set_option maxRecDepth 100000
namespace Go.Proofs.YtfofnagocedlgaaDoor
open Go Sh
/- tollhouse/lru.New -/
def lru_New_sh (kept : Int) (K : Value → Int → WP) : WP :=
 condK (decide (kept < 0))
 (K (.pointer none) 1)
 (condK (decide (kept > 64))
 (K (.pointer none) 1)
 (oR (vS (Instr.makeMap 67 none)) fun t10 =>
 oR (vS (Instr.build 70 #[(0, t10), (2, (.int .i64 kept))])) fun t12 =>
 oR (vS (Instr.box 70 t12)) fun t13 =>
 K t13 0))
theorem lru_New_ok {kept : Int} {K : Value → Int → WP} (w : World) (h : lru_New_sh kept K w) : lru_New kept K w :=
  fn_ok cx_ok (hi := .l) (fn := Tryd.f10) Tryd.func10 (by kernel_rfl) h

/- (*tollhouse/lru.List).Add -/
def lru_List_Add_sh (l : Value) (id : Int) (K : Int → WP) : WP :=
 lru_List_ready l id false fun t8 =>
 condK (t8 != 0)
 (K t8)
 (lru_List_put l id (.complex .f64 0 0) fun _ =>
 K 0)
theorem lru_List_Add_ok {l : Value} {id : Int} {K : Int → WP} (w : World) (h : lru_List_Add_sh l id K w) : lru_List_Add l id K w :=
  fn_ok cx_ok (hi := .l) (fn := Tryd.f24) Tryd.func24 (by kernel_rfl) h

/- (*tollhouse/lru.List).Touch -/
def lru_List_Touch_sh (l : Value) (id : Int) (K : Int → WP) : WP :=
 lru_List_ready l id true fun t9 =>
 condK (t9 != 0)
 (K t9)
 (lru_List_put l id (.complex .f64 0 4607182418800017408) fun _ =>
 lru_List_Kept l fun t17 =>
 len 77 3 t17 fun t19 =>
 nI 70 l 2 3 .i64 fun t23 =>
 condK (decide (t19 > t23))
 (len 77 3 t17 fun t28 =>
 ArK .i64 (t28 - 1) fun t29 =>
 iI 77 t17 .i64 t29 3 .i64 fun t31 =>
 lru_List_put l t31 (.complex .f64 0 0) fun _ =>
 K 0)
 (K 0))
theorem lru_List_Touch_ok {l : Value} {id : Int} {K : Int → WP} (w : World) (h : lru_List_Touch_sh l id K w) : lru_List_Touch l id K w :=
  fn_ok cx_ok (hi := .l) (fn := Tryd.f26) Tryd.func26 (by kernel_rfl) h

/- (*tollhouse/lru.List).Kept -/
def lru_List_Kept_sh (l : Value) (K : Value → WP) : WP :=
 lru_List_in l (.complex .f64 0 4607182418800017408) fun t4 =>
 K t4
theorem lru_List_Kept_ok {l : Value} {K : Value → WP} (w : World) (h : lru_List_Kept_sh l K w) : lru_List_Kept l K w :=
  fn_ok cx_ok (hi := .l) (fn := Tryd.f32) Tryd.func32 (by kernel_rfl) h

/- (*tollhouse/lru.List).Tried -/
def lru_List_Tried_sh (l : Value) (K : Value → WP) : WP :=
 lru_List_in l (.complex .f64 0 0) fun t4 =>
 K t4
theorem lru_List_Tried_ok {l : Value} {K : Value → WP} (w : World) (h : lru_List_Tried_sh l K w) : lru_List_Tried l K w :=
  fn_ok cx_ok (hi := .l) (fn := Tryd.f31) Tryd.func31 (by kernel_rfl) h

/- (*tollhouse/lru.List).Victim -/
def lru_List_Victim_sh (l : Value) (K : Int → Bool → WP) : WP :=
 lru_List_Tried l fun t7 =>
 lru_List_Kept l fun t9 =>
 oR (vS (Instr.buildSlice 79 2 #[(0, t7), (1, t9)])) fun t10 =>
 len 79 3 t10 fun t11 =>
 loopK [(12, (.int .i64))] (fun (j1 : Int → WP) => j1 0) (fun (j2 : Int → WP) (t12 : Int) =>
 condK (decide (t12 < t11))
 (iR 79 t10 .i64 t12 77 fun t15 =>
 len 77 3 t15 fun t17 =>
 condK (decide (t17 > 0))
 (len 77 3 t15 fun t21 =>
 ArK .i64 (t21 - 1) fun t22 =>
 iI 77 t15 .i64 t22 3 .i64 fun t24 =>
 K t24 true)
 (ArK .i64 (t12 + 1) fun t25 =>
 j2 t25))
 (K 0 false))
theorem lru_List_Victim_ok {l : Value} {K : Int → Bool → WP} (w : World) (h : lru_List_Victim_sh l K w) : lru_List_Victim l K w :=
  fn_ok cx_ok (hi := (.n .l (.n (.n .l (.n (.p [(12, (.int .i64))] .l) .l)) .l))) (fn := Tryd.f19) Tryd.func19 (by kernel_rfl) h

/- (*tollhouse/lru.List).Remove -/
def lru_List_Remove_sh (l : Value) (id : Int) (K : Int → WP) : WP :=
 lru_List_ready l id true fun t8 =>
 condK (t8 != 0)
 (K t8)
 (nR 70 l 0 67 fun t15 =>
 oR (vS (Builtin.delete_ #[67, 3] 0 #[t15, (.int .i64 id)])) fun _ =>
 K 0)
theorem lru_List_Remove_ok {l : Value} {id : Int} {K : Int → WP} (w : World) (h : lru_List_Remove_sh l id K w) : lru_List_Remove l id K w :=
  fn_ok cx_ok (hi := .l) (fn := Tryd.f33) Tryd.func33 (by kernel_rfl) h

/- (*tollhouse/lru.List).ready -/
def lru_List_ready_sh (l : Value) (id : Int) (there : Bool) (K : Int → WP) : WP :=
 joinK [(17, .bool)] (fun (j1 : Bool → WP) =>
 oB (bS .eql 42 (.tmp 9) (.const (.pointer none)) l (.pointer none)) fun t10 =>
 condK t10
 (j1 true)
 (nR 70 l 0 67 fun t15 =>
 oB (bS .eql 67 (.tmp 15) (.const (.map none)) t15 (.map none)) fun t16 =>
 j1 t16))
 fun t17 =>
 condK t17
 (K 2)
 (joinK [(23, .bool)] (fun (j2 : Bool → WP) =>
 condK (decide (id < 0))
 (j2 true)
 (j2 (decide (id ≥ 64))))
 fun t23 =>
 condK t23
 (K 1)
 (nR 70 l 0 67 fun t28 =>
 OpK P (.tup [.raw, .bool]) (vS (Instr.lookup 67 t28 (.int .i64 id) true)) fun _ t30_1 =>
 condK t30_1
 (condK (!there)
 (K 9)
 (condK (!t30_1)
 (condK there
 (K 6)
 (K 0))
 (K 0)))
 (condK (!t30_1)
 (condK there
 (K 6)
 (K 0))
 (K 0))))
theorem lru_List_ready_ok {l : Value} {id : Int} {there : Bool} {K : Int → WP} (w : World) (h : lru_List_ready_sh l id there K w) : lru_List_ready l id there K w :=
  fn_ok cx_ok (hi := (.n .l (.n (.n (.j [(17, .bool)] .l) .l) (.n (.n (.j [(23, .bool)] .l) .l) .l)))) (fn := Tryd.f36) Tryd.func36 (by kernel_rfl) h

/- (*tollhouse/lru.List).put -/
def lru_List_put_sh (l : Value) (id : Int) (segment : Value) (K : Value → WP) : WP :=
 nR 70 l 1 68 fun t9 =>
 oR (bS .add 68 (.tmp 9) (.const (.float .f64 4607182418800017408)) t9 (.float .f64 4607182418800017408)) fun t10 =>
 nW 70 l 1 68 t10 <|
 DrawK fun S =>
 hR S 70 l 0 67 fun t16 =>
 hR S 70 l 1 68 fun t21 =>
 qR (vS (Builtin.complex_ #[68, 68] 84 #[t21, (.float .f64 0)])) fun t22 =>
 qR (bS .add 84 (.tmp 22) (.tmp 23) t22 segment) fun t24 =>
 oR (uS (Instr.mapUpdate 67 t16 (.int .i64 id) t24)) fun _ =>
 K (.tuple #[])
theorem lru_List_put_ok {l : Value} {id : Int} {segment : Value} {K : Value → WP} (w : World) (h : lru_List_put_sh l id segment K w) : lru_List_put l id segment K w :=
  fn_ok cx_ok (hi := (.n .l (.o (odR 0 13)))) (fn := Tryd.f37) Tryd.func37 (by kernel_rfl) h

/- (*tollhouse/lru.List).in -/
def lru_List_in_sh (l : Value) (segment : Value) (K : Value → WP) : WP :=
 oR (vS (Instr.box 42 l)) fun l_1 =>
 lR 42 l_1 fun t8 =>
 oB (bS .eql 42 (.tmp 8) (.const (.pointer none)) t8 (.pointer none)) fun t9 =>
 condK t9
 (K (.slice none 0 0))
 (lR 42 l_1 fun t10 =>
 nR 70 t10 0 67 fun t13 =>
 oR (vS (Instr.range 67 t13)) fun t14 =>
 loopK [(5, .raw)] (fun (j1 : Value → WP) => j1 (.slice none 0 0)) (fun (j2 : Value → WP) (out : Value) =>
 NxK P (vS (Instr.next t14 false 0)) .raw .raw
 (slices_SortFunc_int out (.func (.func 44) #[] #[l_1]) fun _ =>
 K out)
 fun _ _ =>
 EnK P (vS (Instr.entry t14)) (.int .i64) .raw fun u_2 u_3 =>
 oR (vS (Builtin.imag_ #[84] 68 #[u_3])) fun t21 =>
 oR (vS (Builtin.imag_ #[84] 68 #[segment])) fun t23 =>
 oB (bS .eql 68 (.tmp 21) (.tmp 23) t21 t23) fun t24 =>
 condK t24
 (oR (vS (Instr.buildSlice 77 1 #[(0, (.int .i64 u_2))])) fun t27 =>
 app 77 77 77 out t27 fun t28 =>
 j2 t28)
 (j2 out)))
theorem lru_List_in_ok {l : Value} {segment : Value} {K : Value → WP} (w : World) (h : lru_List_in_sh l segment K w) : lru_List_in l segment K w :=
  fn_ok cx_ok (hi := (.n .l (.n .l (.n .l (.n (.n .l (.n (.p [(5, .raw)] (.n .l (.n .l (.n (.n (.e (.int .i64) .raw) .l) .l)))) .l)) .l))))) (fn := Tryd.f40) Tryd.func40 (by kernel_rfl) h

/- (*tollhouse/lru.List).in$1 -/
def lru_List_in_c1_sh (a : Int) (b : Int) (t2 : Value) (K : Int → WP) : WP :=
 DrawK fun S =>
 sR S (vS (Instr.loadAt 42 t2)) fun t6 =>
 hR S 70 t6 0 67 fun t9 =>
 sR S (vS (Instr.lookup 67 t9 (.int .i64 b) false)) fun t11 =>
 qR (vS (Builtin.real_ #[84] 68 #[t11])) fun t12 =>
 sR S (vS (Instr.loadAt 42 t2)) fun t13 =>
 hR S 70 t13 0 67 fun t16 =>
 sR S (vS (Instr.lookup 67 t16 (.int .i64 a) false)) fun t18 =>
 qR (vS (Builtin.real_ #[84] 68 #[t18])) fun t19 =>
 cmp_Compare_float64 t12 t19 fun t20 =>
 andK S <|
 K t20
theorem lru_List_in_c1_ok {a : Int} {b : Int} {t2 : Value} {K : Int → WP} (w : World) (h : lru_List_in_c1_sh a b t2 K w) : lru_List_in_c1 a b t2 K w :=
  fn_ok cx_ok (hi := (.n .l (.n (.o (odR 0 16)) .l))) (fn := Tryd.f44) Tryd.func44 (by kernel_rfl) h

/- cmp.Compare[float64] -/
def cmp_Compare_float64_sh (x : Value) (y : Value) (K : Int → WP) : WP :=
 cmp_isNaN_float64 x fun t8 =>
 cmp_isNaN_float64 y fun t10 =>
 condK t8
 (condK t10
 (K 0)
 (K (-1)))
 (condK t10
 (K 1)
 (oB (bS .lss 68 (.tmp 14) (.tmp 15) x y) fun t16 =>
 condK t16
 (K (-1))
 (oB (bS .gtr 68 (.tmp 17) (.tmp 18) x y) fun t19 =>
 condK t19
 (K 1)
 (K 0))))
theorem cmp_Compare_float64_ok {x : Value} {y : Value} {K : Int → WP} (w : World) (h : cmp_Compare_float64_sh x y K w) : cmp_Compare_float64 x y K w :=
  fn_ok cx_ok (hi := .l) (fn := Tryd.f45) Tryd.func45 (by kernel_rfl) h

/- cmp.isNaN[float64] -/
def cmp_isNaN_float64_sh (x : Value) (K : Bool → WP) : WP :=
 oB (bS .neq 68 (.tmp 3) (.tmp 4) x x) fun t5 =>
 K t5
theorem cmp_isNaN_float64_ok {x : Value} {K : Bool → WP} (w : World) (h : cmp_isNaN_float64_sh x K w) : cmp_isNaN_float64 x K w :=
  fn_ok cx_ok (hi := .l) (fn := Tryd.f53) Tryd.func53 (by kernel_rfl) h

end Go.Proofs.YtfofnagocedlgaaDoor
end
section
/-
  RUNS THAT LEAVE THE WORLD AS IT IS (but for draws): for the functions that a library function is handed.
-/
set_option maxRecDepth 100000
set_option linter.unusedVariables false
set_option linter.unusedSectionVars false
set_option linter.unusedSimpArgs false
namespace Go.Proofs.YtfofnagocedlgaaDoor.Sl
open Go Sh
def QEnt (S : World → Prop) (c : WP) : Prop := ∀ w, S w → c w
/-- what is known of a world, its draws aside -/
structure QS (S : World → Prop) (e : Env) (ctx : List HProp) : Prop where
  sat : ∀ w, S w → Sat e (sepL ctx) w
  dr : ∀ w, S w → S { w with drawn := w.drawn + 1 }
theorem qs_of {e : Env} {ctx : List HProp} {W : World} (h : Sat e (sepL ctx) W) : QS (fun w => ∃ q, w = W.drewN q) e ctx :=
  ⟨fun w ⟨q, hq⟩ => by subst hq; exact h.drawn _, fun w ⟨q, hq⟩ => ⟨q + 1, by subst hq; rfl⟩⟩
section
variable {S : World → Prop} {e : Env} {ctx : List HProp}
theorem QEnt.oR {s : Sem Next} {v : Value} {c : Value → WP} (q : QS S e ctx) (hs : Still e ctx s v) (h : QEnt S (c v)) : QEnt S (OpK P (.one .raw) s c) := fun w hw => by
  show NextK P s _ w; unfold NextK; rw [hs w (q.sat w hw)]; exact ⟨v, rfl, h w hw⟩
theorem QEnt.oI {s : Sem Next} {k : IntKind} {v : Int} {c : Int → WP} (q : QS S e ctx) (hs : Still e ctx s (.int k v)) (h : QEnt S (c v)) : QEnt S (OpK P (.one (.int k)) s c) := fun w hw => by
  show NextK P s _ w; unfold NextK; rw [hs w (q.sat w hw)]; exact ⟨v, rfl, h w hw⟩
theorem QEnt.oB {s : Sem Next} {v : Bool} {c : Bool → WP} (q : QS S e ctx) (hs : Still e ctx s (.bool v)) (h : QEnt S (c v)) : QEnt S (OpK P (.one .bool) s c) := fun w hw => by
  show NextK P s _ w; unfold NextK; rw [hs w (q.sat w hw)]; exact ⟨v, rfl, h w hw⟩
theorem QEnt.oS {s : Sem Next} {v : ByteArray} {c : ByteArray → WP} (q : QS S e ctx) (hs : Still e ctx s (.string v)) (h : QEnt S (c v)) : QEnt S (OpK P (.one .str) s c) := fun w hw => by
  show NextK P s _ w; unfold NextK; rw [hs w (q.sat w hw)]; exact ⟨v, rfl, h w hw⟩
theorem QEnt.pB {s : Sem Next} {v : Bool} {c : Bool → WP} (hs : Pu s (.bool v)) (h : QEnt S (c v)) : QEnt S (OpK P (.one .bool) s c) := fun w hw => by
  show NextK P s _ w; unfold NextK; rw [hs w]; exact ⟨v, rfl, h w hw⟩
theorem QEnt.pR {s : Sem Next} {v : Value} {c : Value → WP} (hs : Pu s v) (h : QEnt S (c v)) : QEnt S (OpK P (.one .raw) s c) := fun w hw => by
  show NextK P s _ w; unfold NextK; rw [hs w]; exact ⟨v, rfl, h w hw⟩
theorem QEnt.pI {s : Sem Next} {k : IntKind} {v : Int} {c : Int → WP} (hs : Pu s (.int k v)) (h : QEnt S (c v)) : QEnt S (OpK P (.one (.int k)) s c) := fun w hw => by
  show NextK P s _ w; unfold NextK; rw [hs w]; exact ⟨v, rfl, h w hw⟩
theorem QEnt.sR {s : Sem Next} {v : Value} {c : Value → WP} (q : QS S e ctx) (hs : Still e ctx s v) (h : QEnt S (c v)) : QEnt S (StK P S (.one .raw) s c) := fun w hw => ⟨v, fun w' h' => hs w' (q.sat w' h'), v, rfl, h w hw⟩
theorem QEnt.sI {s : Sem Next} {k : IntKind} {v : Int} {c : Int → WP} (q : QS S e ctx) (hs : Still e ctx s (.int k v)) (h : QEnt S (c v)) : QEnt S (StK P S (.one (.int k)) s c) := fun w hw => ⟨_, fun w' h' => hs w' (q.sat w' h'), v, rfl, h w hw⟩
theorem QEnt.sB {s : Sem Next} {v : Bool} {c : Bool → WP} (q : QS S e ctx) (hs : Still e ctx s (.bool v)) (h : QEnt S (c v)) : QEnt S (StK P S (.one .bool) s c) := fun w hw => ⟨_, fun w' h' => hs w' (q.sat w' h'), v, rfl, h w hw⟩
theorem QEnt.sS {s : Sem Next} {v : ByteArray} {c : ByteArray → WP} (q : QS S e ctx) (hs : Still e ctx s (.string v)) (h : QEnt S (c v)) : QEnt S (StK P S (.one .str) s c) := fun w hw => ⟨_, fun w' h' => hs w' (q.sat w' h'), v, rfl, h w hw⟩
theorem QEnt.qR {s : Sem Next} {v : Value} {c : Value → WP} (hs : Pu s v) (h : QEnt S (c v)) : QEnt S (PuK P (.one .raw) s c) := fun w hw => ⟨v, hs, v, rfl, h w hw⟩
theorem QEnt.qI {s : Sem Next} {k : IntKind} {v : Int} {c : Int → WP} (hs : Pu s (.int k v)) (h : QEnt S (c v)) : QEnt S (PuK P (.one (.int k)) s c) := fun w hw => ⟨_, hs, v, rfl, h w hw⟩
theorem QEnt.qB {s : Sem Next} {v : Bool} {c : Bool → WP} (hs : Pu s (.bool v)) (h : QEnt S (c v)) : QEnt S (PuK P (.one .bool) s c) := fun w hw => ⟨_, hs, v, rfl, h w hw⟩
theorem QEnt.qS {s : Sem Next} {v : ByteArray} {c : ByteArray → WP} (hs : Pu s (.string v)) (h : QEnt S (c v)) : QEnt S (PuK P (.one .str) s c) := fun w hw => ⟨_, hs, v, rfl, h w hw⟩
theorem QEnt.nil {a : Addr} {c : WP} (h : QEnt S c) : QEnt S (NilK (.pointer (some a)) c) := fun w hw => ⟨rfl, h w hw⟩
theorem QEnt.and {c : WP} (h : QEnt S c) : QEnt S (andK S c) := fun w hw => ⟨hw, h w hw⟩
theorem QEnt.draw {f : WP → WP} (q : QS S e ctx) (h : QEnt S (f S)) : QEnt S (DrawK f) := fun w hw => ⟨S, q.dr w hw, h _ (q.dr w hw)⟩
theorem QEnt.cT {b : Bool} {x y : WP} (hb : b = true) (h : QEnt S x) : QEnt S (condK b x y) := by subst hb; exact h
theorem QEnt.cF {b : Bool} {x y : WP} (hb : b = false) (h : QEnt S y) : QEnt S (condK b x y) := by subst hb; exact h
theorem QEnt.fn {sh F : WP} (ok : ∀ w, sh w → F w) (h : QEnt S sh) : QEnt S F := fun w hw => ok w (h w hw)
theorem QEnt.ar {k : IntKind} {n : Int} {f : Int → WP} (hn : inR k n) (h : QEnt S (f n)) : QEnt S (ArK k n f) := by
  unfold ArK; rw [wrap_in hn]; exact h
/-- what the library asks of a function that it is handed -/
theorem quiet_int {W : World} {f : FuncId} {args : Array Value} {v : Int} (h : ∀ K : Int → WP, QEnt (fun w => ∃ q, w = W.drewN q) (K v) → QEnt (fun w => ∃ q, w = W.drewN q) (FnK P (.one (.int .i64)) f args K)) :
    Calls P f args W fun e w' => e = .returned (.int .i64 v) ∧ ∃ q, w' = W.drewN q := by
  have := h (fun n w => n = v ∧ ∃ q, w = W.drewN q) (fun w hw => ⟨rfl, hw⟩) W ⟨0, rfl⟩
  exact Calls.mono this fun e w' ⟨x, he, n, hx, hn, hq⟩ => ⟨by rw [he, hx, hn]; rfl, hq⟩
theorem quiet_bool {W : World} {f : FuncId} {args : Array Value} {v : Bool} (h : ∀ K : Bool → WP, QEnt (fun w => ∃ q, w = W.drewN q) (K v) → QEnt (fun w => ∃ q, w = W.drewN q) (FnK P (.one .bool) f args K)) :
    Calls P f args W fun e w' => e = .returned (.bool v) ∧ ∃ q, w' = W.drewN q := by
  have := h (fun n w => n = v ∧ ∃ q, w = W.drewN q) (fun w hw => ⟨rfl, hw⟩) W ⟨0, rfl⟩
  exact Calls.mono this fun e w' ⟨x, he, n, hx, hn, hq⟩ => ⟨by rw [he, hx, hn]; rfl, hq⟩
end
end Go.Proofs.YtfofnagocedlgaaDoor.Sl
end
section
/-
  SORTING a slice of whole numbers by a function that only reads.
-/
set_option maxRecDepth 100000
set_option linter.unusedVariables false
set_option linter.unusedSectionVars false
set_option linter.unusedSimpArgs false
namespace Go.Proofs.YtfofnagocedlgaaDoor.Sl
open Go Sh Go.Sort
section
variable {e : Env} {ctx : List HProp} {α : Type} [Inhabited α]
theorem Sat.grow {w : World} (h : Sat e (sepL ctx) w) (os : Array Obj) : Sat e (sepL ctx) (Sort.grow w os) :=
  ⟨h.os, h.tape, h.output, sepL_mono (fun i o ho => by
    have ho' : w.heap[i]? = some o := ho
    show (w.heap ++ os)[i]? = some o
    rw [Array.getElem?_append_left (Array.getElem?_eq_some_iff.1 ho').1]; exact ho') h.heap⟩
theorem putCells_list (enc : α → Value) (d : Array α) (l r : List Value) (h : d.size = l.length) : putCells enc 0 d (l ++ r).toArray = (d.toList.map enc ++ r).toArray := by
  apply Array.ext
  · simp [putCells, h]
  · intro i h1 h2
    simp only [putCells, Array.getElem_mapIdx, Nat.zero_le, true_and, Nat.zero_add, Nat.sub_zero]
    by_cases hi : i < d.size
    · rw [if_pos hi, getElem!_pos d i hi]
      simp [List.getElem_append, hi]
    · rw [if_neg hi]
      have : ¬ i < l.length := by omega
      simp [List.getElem_append, hi, this, h]
theorem Sat.sorted {enc : α → Value} {w : World} {b n : Nat} {l r : List Value} {d : Array α} {os : Array Obj} (h : Sat e (sepL (pt b (l ++ r) :: ctx)) w) (hd : d.size = l.length) :
    Sat e (sepL (pt b (d.toList.map enc ++ r) :: ctx)) (sortWorld enc w b 0 n d os) := by
  unfold sortWorld
  refine Sat.grow ?_ os
  unfold putRow mapBlock
  have h2 : Sat e (sepL (pt b (l ++ r) :: ctx)) (Sort.ahead w n) := h.drawn _
  obtain ⟨T, fr, hb, hf⟩ := Has.pt .hd h2
  refine Sat.turn2 (b := b) (o' := .cells (d.toList.map enc ++ r).toArray T fr) h2 (fun g hg hl => ?_) rfl rfl rfl ?_ ?_
  · obtain ⟨T', fr', hg1, hg2⟩ := hg
    have h3 : (Sort.ahead w n).heap[b]? = some (.cells (l ++ r).toArray T' fr') := hl _ _ hg1
    rw [hb] at h3
    cases h3
    refine ⟨⟨_, hg1⟩, T, fr, by simp, fun i hi => hg2 i ?_⟩
    simp only [List.length_append, List.length_map, Array.length_toList, hd] at hi ⊢
    exact hi
  · show ((Sort.ahead w n).heap.modify b (onCells (putCells enc 0 d)))[b]? = _
    rw [Array.getElem?_modify, if_pos rfl, hb]
    simp only [Option.map_some, onCells, putCells_list enc d l r hd]
  · intro i hi
    show ((Sort.ahead w n).heap.modify b (onCells (putCells enc 0 d)))[i]? = _
    rw [Array.getElem?_modify, if_neg (Ne.symm hi)]
theorem holds_of_sat {enc : α → Value} {w : World} {b : Nat} {l : List α} {r : List Value} (h : Sat e (sepL (pt b (l.map enc ++ r) :: ctx)) w) : Holds enc w b 0 l.toArray := by
  obtain ⟨T, fr, hb, hf⟩ := Has.pt .hd h
  intro j hj
  have hj' : j < l.length := by simpa using hj
  rw [Nat.zero_add]
  constructor
  · simp only [World.cell?, hb]
    rw [getElem!_pos l.toArray j hj]
    simp [List.getElem?_append_left, hj']
  · simp only [World.frozen?, hb]
    have := hf j (by simp; omega)
    simp only [not_and, Nat.not_lt] at this
    cases hc : decide (fr.1 ≤ j) && decide (j < fr.2) with
    | false => rfl
    | true =>
      simp only [Bool.and_eq_true, decide_eq_true_eq] at hc
      have := this hc.1
      omega
theorem perm_of {l : List α} {d' : Array α} (h : PermIn 0 l.length l.toArray d') : d'.size = l.length ∧ d'.toList.Perm l := by
  obtain ⟨h1, _, h3⟩ := h
  have h1' : d'.size = l.length := by simpa using h1
  refine ⟨h1', ?_⟩
  have e1 : d'.extract 0 l.length = d' := by rw [← h1']; simp
  have e2 : l.toArray.extract 0 l.length = l.toArray := by simp
  rw [e1, e2] at h3
  simpa using h3
/-- sorting whole numbers -/
theorem Ent.sortInts {a : Option Addr} {n c g : Nat} {cb : Array Value} {l : List Int} {K : Value → WP} (cf : Int → Int → Int) (hO : SWO (ltOf cf)) (hg : memN cll g = true) (hn : n = l.length) (hb : n < 4611686018427387904)
    (hcmp : ∀ W, Sat e (sepL ctx) W → ∀ x y : Int, Calls P g (#[.int .i64 x, .int .i64 y] ++ cb) W fun e w' => e = .returned (.int .i64 (cf x y)) ∧ ∃ q, w' = W.drewN q)
    (h : ∀ l' : List Int, l'.Perm l → l'.Pairwise (fun x y => ¬ cf y x < 0) → Ent e (SlO a n c 1 (l'.map fun x => .int .i64 x) :: ctx) (K (.tuple #[]))) :
    Ent e (SlO a n c 1 (l.map fun x => .int .i64 x) :: ctx) (slices_SortFunc_int (.slice a n c) (.func (.func g) #[] cb) K) := fun w hw => by
  subst hn
  obtain ⟨g1, g2, hd, l1, l2, ⟨hl, hA⟩, hr⟩ := hw.heap
  rcases hA with ⟨ha, hn0, hc⟩ | ⟨b, r, ha, hc, hcr, hp⟩
  · subst ha
    have hl0 : l = [] := List.eq_nil_of_length_eq_zero hn0
    subst hl0
    refine Calls.mono (Tryd.slices_SortFunc_none (α := Unit) none c (.func (.func g) #[] cb) w) fun e w' ⟨he, hw'⟩ => ?_
    subst he hw'
    exact ⟨_, rfl, _, rfl, h [] (List.Perm.refl _) List.Pairwise.nil _ hw⟩
  · subst ha
    have hw2 : Sat e (sepL (pt b (l.map (fun x => Value.int .i64 x) ++ r) :: ctx)) w := ⟨hw.os, hw.tape, hw.output, g1, g2, hd, l1, l2, hp, hr⟩
    have hlt : b < w.heap.size := by
      obtain ⟨T, fr, hb, _⟩ := Has.pt .hd hw2
      exact (Array.getElem?_eq_some_iff.1 hb).1
    have key := Tryd.slices_SortFunc (fun x : Int => Value.int .i64 x) (fun _ => rfl) cf hO g cb b 0 c l.toArray w (fun args w => callFunc_run (cx_ok.calls g hg) args w)
      (CmpReads.lays fun m os dk hs x y => by
        have hs' : dk.size = (l.map fun x => Value.int .i64 x).length := by simpa using hs
        have hw3 := Sat.sorted (enc := fun x : Int => Value.int .i64 x) (n := m) (os := os) hw2 hs'
        exact hcmp _ (hw3.imp fun _ => sepL_drop) x y)
      (holds_of_sat hw2) hlt (by simpa using hb)
    refine Calls.mono key fun e w' ⟨he, d', n, os, hp1, hs1, hw'⟩ => ?_
    subst he hw'
    obtain ⟨p1, p2⟩ := perm_of (l := l) (by simpa using hp1)
    refine ⟨_, rfl, _, rfl, h d'.toList p2 ?_ _ ?_⟩
    · rw [List.pairwise_iff_getElem]
      intro i j hi hj hij
      have hj' : j < d'.size := by simpa using hj
      have hi' : i < d'.size := by simpa using hi
      have := hs1 i j (Nat.zero_le _) hij (by simpa [← p1] using hj')
      rw [getElem!_pos d' i hi', getElem!_pos d' j hj'] at this
      simpa [ltOf] using this
    · have := Sat.sorted (enc := fun x : Int => Value.int .i64 x) (n := n) (os := os) hw2 (d := d') (by simpa using p1)
      refine this.imp fun _ k => sepL_cons (fun hh kk => ?_) (fun _ z => z) k
      refine ⟨by simp [p1], .inr ⟨b, r, rfl, hc, ?_, kk⟩⟩
      simpa [p1] using hcr
end
end Go.Proofs.YtfofnagocedlgaaDoor.Sl
end
