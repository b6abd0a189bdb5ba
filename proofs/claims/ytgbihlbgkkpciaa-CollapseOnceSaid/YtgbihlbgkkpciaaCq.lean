/-
  COLLAPSE (layer 24): New, End, Leave.
-/
import Derived.Test.YtgbihlbgkkpciaaCw
set_option maxRecDepth 100000
set_option linter.unusedVariables false
set_option linter.unusedSectionVars false
set_option linter.unusedSimpArgs false
set_option maxHeartbeats 0
namespace Go.Proofs.Ytgbihlbgkkpciaa.Co
open Go Sh Sl
attribute [local irreducible] condK ArK NilK OpK FnK StK joinK loopK DrawK andK PuK NxK EnK vS uS bS callS invokeS
section
variable {e : Env} {ctx rest : List HProp} {most b : Nat} {X : List Ent1}
theorem new_spec {K : Value → Int → WP} {n : Int} (h1 : n < 0 ∨ n > 16 → Ent e rest (K (.pointer none) 1)) (h0 : ∀ b m : Nat, n = m → m ≤ 16 → Ent e (TR b [] m :: rest) (K (tv b) 0)) : Ent e rest (collapse_New n K) := by
  (refine Ent.fn collapse_New_ok ?_; unfold collapse_New_sh)
  by_cases c1 : n < 0
  · (refine Ent.go ?_)
    exact h1 (.inl c1)
  by_cases c2 : n > 16
  · (refine Ent.go ?_)
    exact h1 (.inr c2)
  obtain ⟨m, rfl⟩ := Int.eq_ofNat_of_zero_le (by omega : 0 ≤ n)
  (refine Ent.go ?_)
  refine Ent.mmake (intK .i64) jv fun r => ?_
  (refine Ent.go ?_)
  refine Ent.box' (l := [.map (some r), .int .i64 m]) (fun b => ?_) rfl
  refine Ent.imp ?_ (h0 b m rfl (by omega))
  refine Imp.trans ?_ (TR.shut (r := r) ⟨by simp, by simp, by simp [wsum], by omega⟩)
  refine Imp.trans (b := pt b [.map (some r), .int .i64 m] :: Mp (intK .i64) jv r [] :: rest) (by (focus ((repeat ((with_reducible apply Imp.pick); (repeat (first | exact Pick.hd | apply Pick.tl)))); (repeat (first | exact Imp.refl _ | exact Imp.nil _ | apply Imp.drop)); done))) ?_
  exact Imp.cons (Imp.cons (Own.nil (Imp.refl _)))
theorem clone_spec {K : Value → WP} {a : Option Addr} {n c : Nat} {l : List Int} (hn : l.length = n) (hb : n ≤ 65536) (hr : Rd rest a (ii l)) (h : ∀ a2 c2, Ent e (SlO a2 n c2 1 (ii l) :: rest) (K (.slice a2 n c2))) :
    Ent e rest (slices_Clone_int (.slice a n c) K) := by
  (refine Ent.fn slices_Clone_int_ok ?_; unfold slices_Clone_int_sh)
  cases a with
  | none =>
    have hl0 : ii l = [] := hr
    have hn0 : n = 0 := by rw [← hn, ← ii_len, hl0]; rfl
    subst hn0
    (refine Ent.go ?_)
    have := h none 0
    rw [hl0] at this
    exact Ent.slN this
  | some a =>
    (refine Ent.go ?_)
    refine Ent.slice (out := []) (z := [.int .i64 0]) (sz := 1) rfl rfl rfl rfl (by decide) (by decide) (by rfl) fun b2 => ?_
    refine Ent.imp (SlO.imp rfl) ?_
    refine Ent.appN (m := n) (news := ii l) (sz := 1) ?_ (fun a2 c2 => ?_) (hl := by simp [hn]) (h1 := by intro v hv; simp only [ii, List.mem_map] at hv; obtain ⟨_, _, rfl⟩ := hv; rfl) (hb := by simp; omega)
    · exact hr.mono (Imp.drop (Imp.refl _))
    · have := h a2 c2
      simpa using this
theorem copied_spec {K : Value → WP} {p c : Nat} {j : Jb} {a : Option Addr} (hl : j.ws.length ≤ 16) (h : ∀ a2 c2, Ent e (SlO a2 j.ws.length c2 1 (ii j.ws) :: rest) (K (.agg (jc j a2 c2).toArray))) :
    Ent e (pt p (jc j a c) :: SlO a j.ws.length c 1 (ii j.ws) :: rest) (collapse_copied (tv p) K) := by
  (refine Ent.fn collapse_copied_ok ?_; unfold collapse_copied_sh)
  refine Ent.bring (A := SlO a j.ws.length c 1 (ii j.ws)) ?_
  refine Ent.rdS fun hrd _ => ?_
  unfold jc
  refine Ent.alloc' fun t2 => ?_
  (refine Ent.go ?_)
  refine Ent.alloc' fun x => ?_
  (refine Ent.go ?_)
  refine clone_spec rfl (by omega) (hrd _ (by (repeat (first | exact Has.hd | apply Has.tl)))) fun a2 c2 => ?_
  (refine Ent.go ?_)
  refine Ent.wrA ?_
  refine Ent.imp ?_ (h a2 c2)
  (focus ((repeat ((with_reducible apply Imp.pick); (repeat (first | exact Pick.hd | apply Pick.tl)))); (repeat (first | exact Imp.refl _ | exact Imp.nil _ | apply Imp.drop)); done))
theorem end_spec {K : Value → Int → WP} {conn : Int} (h1 : mfind conn X = none → Ent e (TR b X most :: rest) (K (.agg #[.string ⟨#[]⟩, .bool false, .bool false, .int .i64 0, .slice none 0 0]) 6))
    (h0 : ∀ p j a c, mfind conn X = some (p, j) → Ent e (SlO a j.ws.length c 1 (ii j.ws) :: TR b (mdel conn X) most :: rest) (K (.agg (jc j a c).toArray) 0)) :
    Ent e (TR b X most :: rest) (collapse_Table_End (tv b) conn K) := by
  (refine Ent.fn collapse_Table_End_ok ?_; unfold collapse_Table_End_sh)
  refine Ent.alloc' fun t4 => ?_
  refine Ent.bring (A := TR b X most) ?_
  refine TR.open fun r hk => ?_
  refine Ent.join ?_
  (refine Ent.go ?_)
  refine Ent.mget2 (K := intK .i64) (vf := jv) (a := conn) (z := .pointer none) (by (repeat (first | exact Has.hd | apply Has.tl))) rfl rfl (by kernel_rfl) (fun q hf => ?_) (fun hf => ?_)
  rotate_left
  · (refine Ent.go ?_)
    refine Ent.wrA ?_
    refine Ent.imp ?_ (h1 hf)
    refine Imp.trans (by (focus ((repeat ((with_reducible apply Imp.pick); (repeat (first | exact Pick.hd | apply Pick.tl)))); (repeat (first | exact Imp.refl _ | exact Imp.nil _ | apply Imp.drop)); done))) (TR.shut hk)
  obtain ⟨p, j⟩ := q
  have hfm := mfind_mem hf
  have hlw : j.ws.length ≤ wsum X := len_wsum hfm
  have hmx := hk.mx
  have hwt := hk.wt
  (refine Ent.go ?_)
  refine Ent.mdel (K := intK .i64) (vf := jv) (a := conn) (by (repeat (first | exact Upd.hd | apply Upd.tl))) rfl rfl ?_
  refine Ent.bring (A := Own JR X) ?_
  refine Ent.imp (Own.take hf) ?_
  refine JR.open fun a c => ?_
  refine copied_spec (by dsimp only; omega) fun a2 c2 => ?_
  unfold jc
  (refine Ent.go ?_)
  refine Ent.wrA ?_
  refine Ent.imp ?_ (h0 p j a2 c2 hf)
  refine Imp.trans ?_ (Imp.cons (TR.shut (r := r) ⟨mdel_nodup hk.nd, fun x hx => hk.kb x ((mdel_sub.map _).subset hx), ?_, hk.mx⟩))
  · dsimp only
    (focus ((repeat ((with_reducible apply Imp.pick); (repeat (first | exact Pick.hd | apply Pick.tl)))); (repeat (first | exact Imp.refl _ | exact Imp.nil _ | apply Imp.drop)); done))
  · have h2 := wsum_perm (mdel_perm hf)
    have : wsum ((conn, p, j) :: mdel conn X) = j.ws.length + wsum (mdel conn X) := by simp [wsum]
    omega
/-- without a number -/
def wo (l : List Int) (v : Int) : List Int := l.filter fun x => decide (x ≠ v)
theorem wo_none {l : List Int} {v : Int} (h : v ∉ l) : wo l v = l := List.filter_eq_self.2 fun x hx => decide_eq_true fun e => h (e ▸ hx)
theorem leave_c1 {k : Bool → WP} {bs : Nat} {v n : Int} (hh : Has ctx (pt bs [.int .i64 v])) (h : Ent e ctx (k (decide (n = v)))) : Ent e ctx (FnK P (.one .bool) 47 (#[.int .i64 n] ++ [tv bs].toArray) k) := by
  refine Ent.fn (sh := collapse_Table_Leave_c1_sh n (tv bs) k) (fun w h => collapse_Table_Leave_c1_ok w h) ?_
  refine Ent.wlI ?_ (hh := hh)
  have : decide (n = v) = (n == v) := by
    by_cases e1 : n = v
    · subst e1; simp
    · simp [e1]
  rw [← this]; exact h
theorem indexf_spec {K : Int → WP} {a : Option Addr} {n c bs : Nat} {l : List Int} {v : Int} (hn : l.length = n) (hb : n ≤ 65536) (hr : Rd rest a (ii l)) (hh : Has rest (pt bs [.int .i64 v]))
    (h : ∀ t : Int, (t = -1 ∧ v ∉ l) ∨ (∃ j : Nat, t = j ∧ j < n ∧ v ∉ l.take j ∧ l[j]? = some v) → Ent e rest (K t)) :
    Ent e rest (slices_IndexFunc_int (.slice a n c) (.func (.func 47) #[] [tv bs].toArray) K) := by
  (refine Ent.fn slices_IndexFunc_int_ok ?_; unfold slices_IndexFunc_int_sh)
  (refine Ent.go ?_)
  refine Ent.rngL0 n (fun k => pur (v ∉ l.take k) :: rest) rfl (Imp.pur (by simp) (Imp.refl _)) ?_
  intro k hk K' hK
  refine Ent.pur fun hv => ?_
  by_cases hkn : k < n
  · obtain ⟨x, hx⟩ : ∃ x, l[(k : Int).toNat]? = some x := ⟨_, List.getElem?_eq_getElem (by simpa [hn] using hkn)⟩
    have hx2 : (ii l)[(k : Int).toNat]? = some (.int .i64 x) := by simp only [ii, List.getElem?_map, hx]; rfl
    refine Ent.wT ?_ (by simpa using hkn)
    refine Ent.wiIr hr ?_ rfl rfl rfl (by omega) (by omega) hx2
    refine Ent.callF (by rfl) ?_
    refine leave_c1 hh ?_
    rw [Int.toNat_natCast] at hx
    refine Ent.condD (fun he => ?_) fun he => ?_
    · subst he
      exact h _ (.inr ⟨k, rfl, hkn, hv, hx⟩)
    · (refine Ent.go ?_)
      refine Ent.imp (Imp.pur ?_ (Imp.refl _)) (hK hkn)
      rw [List.take_add_one, hx]
      simp [hv, Ne.symm he]
  · have : k = n := by omega
    subst this
    refine Ent.wF ?_ (by simp)
    refine h _ (.inl ⟨rfl, ?_⟩)
    rw [List.take_of_length_le (by omega)] at hv
    exact hv
theorem wo_take {l : List Int} {v x : Int} {j : Nat} (h : l[j]? = some x) : wo (l.take (j + 1)) v = if x = v then wo (l.take j) v else wo (l.take j) v ++ [x] := by
  unfold wo
  rw [List.take_add_one, h, List.filter_append]
  by_cases e1 : x = v <;> simp [e1]
theorem deletef_spec {K : Value → WP} {a : Option Addr} {n c bs : Nat} {l : List Int} {v : Int} (hn : l.length = n) (hb : n ≤ 65536)
    (h : ∀ a2, Ent e (SlO a2 (wo l v).length c 1 (ii (wo l v)) :: pt bs [.int .i64 v] :: rest) (K (.slice a2 (wo l v).length c))) :
    Ent e (SlO a n c 1 (ii l) :: pt bs [.int .i64 v] :: rest) (slices_DeleteFunc_int (.slice a n c) (.func (.func 47) #[] [tv bs].toArray) K) := by
  (refine Ent.fn slices_DeleteFunc_int_ok ?_; unfold slices_DeleteFunc_int_sh)
  refine Ent.rdS fun hrd _ => ?_
  refine indexf_spec hn hb (hrd _ (by (repeat (first | exact Has.hd | apply Has.tl)))) (by (repeat (first | exact Has.hd | apply Has.tl))) fun t ht => ?_
  rcases ht with ⟨rfl, hv⟩ | ⟨t, rfl, htn, htv, hlt⟩
  · (refine Ent.go ?_)
    have := h a
    rw [wo_none hv, hn] at this
    exact this
  (refine Ent.go ?_)
  refine SlO.open2 (fun b r hc hcr ha => ?_) (fun ha h0 hl0 => by omega)
  subst ha
  -- what was kept so far, then what is there, then what is still to come
  refine Ent.loop2 (k0 := .int .i64) (k1 := .int .i64) (fun N i j => exs (fun (y : Nat × List Int) => sepL [pur (j = (y.1 : Int) ∧ i = ((wo (l.take y.1) v).length : Int) ∧ y.1 ≤ n ∧ (wo (l.take y.1) v).length + y.2.length = y.1 ∧ 0 < y.2.length ∧ N = n - y.1), pt b (ii (wo (l.take y.1) v ++ y.2 ++ l.drop y.1) ++ r)]) :: pt bs [.int .i64 v] :: rest) (n - (t + 1)) ?_ ?_
  · have e0 : wo (l.take (t + 1)) v = l.take t := by rw [wo_take hlt, if_pos rfl, wo_none htv]
    refine Imp.exs (t + 1, [v]) (Imp.g2 (Imp.pur ⟨by simp, ?_, by omega, ?_, by simp, rfl⟩ ?_))
    · rw [e0, List.length_take, hn, Nat.min_eq_left (Nat.le_of_lt htn)]
    · rw [e0, List.length_take, hn, Nat.min_eq_left (Nat.le_of_lt htn)]; rfl
    · rw [e0]
      have : l.take t ++ [v] ++ l.drop (t + 1) = l := by
        have hg : l[t]'(by omega) = v := by
          have := List.getElem?_eq_getElem (l := l) (i := t) (by omega)
          rw [hlt] at this; exact (Option.some.inj this).symm
        rw [← hg]
        rw [List.append_assoc, List.singleton_append, List.getElem_cons_drop, List.take_append_drop]
      rw [this]
      exact Imp.refl _
  intro N K' hK i j
  refine Ent.exs fun ⟨m, mid⟩ => Ent.g2 (Ent.pur fun ⟨f1, f2, f3, f4, f5, f6⟩ => ?_)
  dsimp only at f1 f2 f3 f4 f5 f6
  dsimp only
  subst f1 f2 f6
  obtain ⟨out, hout⟩ : ∃ out, out = wo (l.take m) v := ⟨_, rfl⟩
  rw [← hout] at f4 ⊢
  by_cases hm : m < n
  · obtain ⟨x, hx⟩ : ∃ x, l[m]? = some x := ⟨_, List.getElem?_eq_getElem (by omega)⟩
    have hdrop : l.drop m = x :: l.drop (m + 1) := by
      have hg := List.getElem?_eq_getElem (l := l) (i := m) (by omega)
      rw [hx] at hg
      rw [Option.some.inj hg, List.getElem_cons_drop]
    have v1 : (ii (out ++ mid ++ l.drop m) ++ r)[0 + (m : Int).toNat * 1]? = some (.int .i64 x) := by
      rw [hdrop, Int.toNat_natCast]
      simp only [ii, List.map_append, List.map_cons, Nat.zero_add, Nat.mul_one, List.append_assoc]
      rw [List.getElem?_append_right (by simp; omega), List.getElem?_append_right (by simp; omega)]
      have : m - (out.map fun x => Value.int .i64 x).length - (mid.map fun x => Value.int .i64 x).length = 0 := by simp; omega
      rw [this]; rfl
    (refine Ent.go ?_)
    refine Ent.callF (by rfl) ?_
    refine leave_c1 (by (repeat (first | exact Has.hd | apply Has.tl))) ?_
    have hw := wo_take (v := v) hx
    rw [← hout] at hw
    refine Ent.condB (fun he => ?_) fun he => ?_
    · have hxv : x ≠ v := of_decide_eq_false he
      rw [if_neg hxv] at hw
      obtain ⟨m0, mid', rfl⟩ : ∃ m0 mid', mid = m0 :: mid' := by
        cases mid with
        | nil => simp at f5
        | cons m0 mid' => exact ⟨m0, mid', rfl⟩
      simp only [List.length_cons] at f4
      have hset : (ii (out ++ m0 :: mid' ++ l.drop m) ++ r).set out.length (.int .i64 x) = ii (wo (l.take (m + 1)) v ++ (mid' ++ [x]) ++ l.drop (m + 1)) ++ r := by
        rw [hw, hdrop]
        simp only [ii, List.map_append, List.map_cons, List.map_nil, List.append_assoc, List.cons_append, List.nil_append]
        rw [List.set_append_right _ _ (by simp)]
        simp
      (refine Ent.go ?_)
      refine Ent.imp ?_ (hK (n - (m + 1)) (by omega) _ _)
      refine Imp.exs (m + 1, mid' ++ [x]) (Imp.g2 (Imp.pur ⟨by simp, by rw [hw]; simp, by omega, by rw [hw]; simp; omega, by simp, rfl⟩ ?_))
      rw [hset]
      exact Imp.refl _
    · have hxv : x = v := of_decide_eq_true he
      rw [if_pos hxv] at hw
      (refine Ent.go ?_)
      refine Ent.imp ?_ (hK (n - (m + 1)) (by omega) _ _)
      refine Imp.exs (m + 1, mid ++ [x]) (Imp.g2 (Imp.pur ⟨by simp, by rw [hw], by omega, by rw [hw]; simp; omega, by simp, rfl⟩ ?_))
      rw [hw, hdrop]
      simp only [List.append_assoc, List.cons_append, List.nil_append]
      exact Imp.refl _
  · have hmn : m = n := by omega
    subst hmn
    have e1 : wo l v = out := by rw [hout, List.take_of_length_le (by omega)]
    have e2 : l.drop m = [] := List.drop_eq_nil_of_le (by omega)
    rw [e2, List.append_nil]
    (refine Ent.go ?_)
    have e3 : cut (some ⟨b, 0, none⟩) ((out.length : Nat) : Int).toNat c 1 = some ⟨b, out.length, none⟩ := by
      rw [Int.toNat_natCast, cut_some, if_neg (by omega), Nat.zero_add, Nat.mul_one]
    rw [e3]
    refine Ent.clear (z := .int .i64 0) (off := out.length) (by (repeat (first | exact Upd.hd | apply Upd.tl))) rfl rfl rfl rfl (by simp; omega) ?_
    (refine Ent.go ?_)
    have e4 : cut (some ⟨b, 0, none⟩) 0 c 1 = some ⟨b, 0, none⟩ := by rw [cut_some]; split <;> rfl
    rw [e4]
    have := h (some ⟨b, 0, none⟩)
    rw [e1] at this
    rw [Int.toNat_natCast]
    have e5 : (ii (out ++ mid) ++ r).take out.length = ii out := by
      simp only [ii, List.map_append, List.append_assoc]
      rw [List.take_append_of_le_length (by simp), List.take_of_length_le (by simp)]
    rw [e5, List.append_assoc]
    have hl9 : (ii out ++ (List.replicate (m - out.length) (Value.int .i64 0) ++ (ii (out ++ mid) ++ r).drop (out.length + (m - out.length)))).length = (ii l ++ r).length := by
      simp; omega
    generalize (List.replicate (m - out.length) (Value.int .i64 0) ++ (ii (out ++ mid) ++ r).drop (out.length + (m - out.length))) = r' at hl9 ⊢
    refine Ent.imp (fun y k => sepL_cons (fun hh hx => ⟨by simp, .inr ⟨b, r', rfl, by omega, by omega, hx⟩⟩) (fun _ z => z) k) this
end
end Go.Proofs.Ytgbihlbgkkpciaa.Co
