/-
  ROWS' TEXTS (layer 31), there and back: plain.
-/
import Derived.Test.YtoneapgooihajaaGreatDoorXc
set_option maxRecDepth 100000
set_option linter.unusedVariables false
set_option linter.unusedSectionVars false
set_option linter.unusedSimpArgs false
namespace Go.Proofs.YtoneapgooihajaaGreatDoor.Qa
open Go Sh Sl
/-- no end of a line is among them -/
def nn (a : Bs) : Prop := (10 : UInt8) ∉ a
theorem nn_app {a b : Bs} (h : nn a) (k : nn b) : nn (a ++ b) := fun hh => by
  rcases List.mem_append.1 hh with hh | hh
  · exact h hh
  · exact k hh
theorem nn_sp {a : Bs} (h : nn a) : nn (32 :: a) := fun hh => by
  rcases List.mem_cons.1 hh with hh | hh
  · exact absurd hh (by decide)
  · exact h hh
theorem nn_itoa (n : Int) : nn (Lib.itoa n) := fun hh => by
  have := itoa_mem n 10 hh
  simp at this
theorem nn_q (b : Bs) : nn (q b) := fun hh => by
  have := q_printed b 10 hh
  simp at this
theorem nn_name (k : Int) : nn (nameAt kindsL k) := by
  unfold nn nameAt
  split
  · rename_i h
    have h9 : kindsL.length = 9 := rfl
    have : ∀ i : Fin 9, (10 : UInt8) ∉ kindsL.getD i.val [] := by decide
    exact this ⟨k.toNat, by omega⟩
  · simp
theorem nn_gname (k : Int) : nn (nameAt goesL k) := by
  unfold nn nameAt
  split
  · rename_i h
    have h9 : goesL.length = 6 := rfl
    have : ∀ i : Fin 6, (10 : UInt8) ∉ goesL.getD i.val [] := by decide
    exact this ⟨k.toNat, by omega⟩
  · simp
/-- lines -/
def Ended (x : Bs) : Prop := ∃ p, x = p ++ [10] ∧ nn p
theorem lnsA_ended : ∀ (p cur t : Bs), nn p → lnsA cur (p ++ 10 :: t) = (cur ++ p ++ [10]) :: lns t
  | [], cur, t, _ => by
    show lnsA cur (10 :: t) = _
    unfold lnsA
    rw [if_pos rfl, List.append_nil]; rfl
  | c :: p, cur, t, h => by
    show lnsA cur (c :: (p ++ 10 :: t)) = _
    unfold lnsA
    rw [if_neg (fun hh => h (by rw [hh]; simp)), lnsA_ended p (cur ++ [c]) t (fun hh => h (List.mem_cons_of_mem _ hh))]
    simp
theorem lns_flat : ∀ (ps : List Bs) (t : Bs), (∀ x ∈ ps, Ended x) → lns (ps.flatten ++ t) = ps ++ lns t
  | [], t, _ => rfl
  | x :: ps, t, h => by
    obtain ⟨p, rfl, hp⟩ := h x (by simp)
    have ih := lns_flat ps t fun y hy => h y (by simp [hy])
    rw [List.flatten_cons, List.append_assoc, List.append_assoc]
    show lnsA [] (p ++ 10 :: (ps.flatten ++ t)) = _
    rw [lnsA_ended p [] _ hp, ih]
    simp
theorem sL_ended (d : dS) : Ended (sL d).1 ∧ (sL d).1.head? = some 62 := by
  obtain ⟨t, k, s, c, b, h, p⟩ := d
  have h62 : nn [62] := by unfold nn; decide
  have key : ∀ J : Bs, (sL (t, k, s, c, b, h, p)).1 = J ++ [10] → nn J → J.head? = some 62 → Ended (sL (t, k, s, c, b, h, p)).1 ∧ (sL (t, k, s, c, b, h, p)).1.head? = some 62 := fun J h1 h2 h3 => by
    rw [h1]
    refine ⟨⟨J, rfl, h2⟩, ?_⟩
    rw [List.head?_append, h3]; rfl
  have hfst : (sL (t, k, s, c, b, h, p)).1 = (if k = 1 then joinB [[62], Lib.itoa t, nameAt goesL k, Lib.itoa s, q b] else if k = 2 then joinB [[62], Lib.itoa t, nameAt goesL k, Lib.itoa s]
      else if k = 3 then joinB [[62], Lib.itoa t, nameAt goesL k, Lib.itoa c, q h, Lib.itoa p] else if k = 4 then joinB [[62], Lib.itoa t, nameAt goesL k, Lib.itoa c, q b]
      else joinB [[62], Lib.itoa t, nameAt goesL k, Lib.itoa c]) ++ [10] := rfl
  refine key _ hfst ?_ ?_
  · have base : ∀ r : Bs, nn r → nn ([62] ++ 32 :: (Lib.itoa t ++ 32 :: (nameAt goesL k ++ 32 :: r))) := fun r hr => nn_app h62 (nn_sp (nn_app (nn_itoa t) (nn_sp (nn_app (nn_gname k) (nn_sp hr)))))
    split
    · rw [joinB_5]; exact base _ (nn_app (nn_itoa s) (nn_sp (nn_q b)))
    · split
      · rw [joinB_4]; exact base _ (nn_itoa s)
      · split
        · rw [joinB_6]; exact base _ (nn_app (nn_itoa c) (nn_sp (nn_app (nn_q h) (nn_sp (nn_itoa p)))))
        · split
          · rw [joinB_5]; exact base _ (nn_app (nn_itoa c) (nn_sp (nn_q b)))
          · rw [joinB_4]; exact base _ (nn_itoa c)
  · split
    · rw [joinB_5]; rfl
    · split
      · rw [joinB_4]; rfl
      · split
        · rw [joinB_6]; rfl
        · split
          · rw [joinB_5]; rfl
          · rw [joinB_4]; rfl
/-- a row's first line -/
def hdL (k er : Int) : Bs := (if er ≠ 0 then joinB [nameAt kindsL k, errS, Lib.itoa er] else joinB [nameAt kindsL k, [111, 107]]) ++ [10]
theorem hdL_ended (k er : Int) : Ended (hdL k er) := by
  refine ⟨_, rfl, ?_⟩
  split
  · rw [joinB_3]; exact nn_app (nn_name k) (nn_sp (nn_app (by unfold nn; decide) (nn_sp (nn_itoa er))))
  · rw [joinB_2]; exact nn_app (nn_name k) (nn_sp (by unfold nn; decide))
theorem hdL_head {k er : Int} (hk : 1 ≤ k ∧ k ≤ 8) : (hdL k er).head? ≠ some 62 := by
  have : ∀ i : Fin 8, (nameAt kindsL ((i.val : Int) + 1)).head? ≠ some 62 ∧ nameAt kindsL ((i.val : Int) + 1) ≠ [] := by decide +kernel
  have h2 := this ⟨(k - 1).toNat, by omega⟩
  have e1 : (((k - 1).toNat : Nat) : Int) + 1 = k := by omega
  simp only [e1] at h2
  obtain ⟨h3, h4⟩ := h2
  have key : ∀ r : Bs, (nameAt kindsL k ++ r).head? = (nameAt kindsL k).head? := fun r => by
    cases hn : nameAt kindsL k with
    | nil => exact absurd hn h4
    | cons c r' => rfl
  unfold hdL
  split
  · rw [joinB_3, List.append_assoc, key]; exact h3
  · rw [joinB_2, List.append_assoc, key]; exact h3
/-- a row's lines -/
def rLines (d : dR) : List Bs := hdL d.1 d.2.1 :: d.2.2.map fun y => (sL y).1
theorem rLines_ended (d : dR) : ∀ x ∈ rLines d, Ended x := fun x hx => by
  unfold rLines at hx
  rcases List.mem_cons.1 hx with rfl | hx
  · exact hdL_ended _ _
  · obtain ⟨y, _, rfl⟩ := List.mem_map.1 hx
    exact (sL_ended y).1
theorem rwT_form {d : dR} (h : (rwT d).2 = true) : (rwT d).1 = (rLines d).flatten ∧ (1 ≤ d.1 ∧ d.1 ≤ 8) ∧ (d.2.2 ≠ [] → d.1 = 8 ∧ d.2.1 = 0) ∧ (∀ y ∈ d.2.2, (sL y).2 = true) ∧ rwT (hdR (d.1, d.2.1)) = (hdL d.1 d.2.1, true) := by
  obtain ⟨k, er, l⟩ := d
  have hh : ∀ (er : Int), nameAt kindsL k ≠ [] → rwT (hdR (k, er)) = (hdL k er, true) := fun er hn => by
    unfold rwT hdR hdL
    dsimp only
    rw [if_neg (fun hh => hh.elim hn fun h2 => h2.1 rfl)]
    split
    · rfl
    · simp [sTx]
  unfold rwT at h ⊢
  dsimp only at h ⊢
  by_cases hc : nameAt kindsL k = [] ∨ (l ≠ [] ∧ (k ≠ 8 ∨ er ≠ 0))
  · rw [if_pos hc] at h; cases h
  · rw [if_neg hc] at h ⊢
    have hn : nameAt kindsL k ≠ [] := fun h2 => hc (.inl h2)
    have hk : 1 ≤ k ∧ k ≤ 8 := by
      unfold nameAt at hn
      split at hn
      · rename_i h1
        have : kindsL.length = 9 := rfl
        omega
      · exact absurd rfl hn
    have hl : l ≠ [] → k = 8 ∧ er = 0 := fun h2 => by
      have h3 : ¬ (k ≠ 8 ∨ er ≠ 0) := fun h4 => hc (.inr ⟨h2, h4⟩)
      exact ⟨Classical.byContradiction fun h5 => h3 (.inl h5), Classical.byContradiction fun h5 => h3 (.inr h5)⟩
    by_cases he : er ≠ 0
    · rw [if_pos he] at h ⊢
      have hl0 : l = [] := Classical.byContradiction fun h2 => he (hl h2).2
      subst hl0
      refine ⟨?_, hk, fun h2 => absurd rfl h2, fun y hy => (by cases hy), hh er hn⟩
      unfold rLines hdL
      dsimp only
      rw [if_pos he]
      simp
    · rw [if_neg he] at h ⊢
      split at h
      · rename_i ha
        rw [if_pos ha]
        refine ⟨?_, hk, hl, fun y hy => List.all_eq_true.1 ha y hy, hh er hn⟩
        unfold rLines hdL
        dsimp only
        rw [if_neg he, List.flatten_cons]
        simp [sTx, List.flatMap]
      · cases h
theorem rgo_sents {st : List dR} : ∀ (l l0 : List dS), (∀ y ∈ l, (sL y).2 = true ∧ dI y) → rgo (st ++ [(8, 0, l0)]) (l.map fun y => (sL y).1) = some (st ++ [(8, 0, l0 ++ l)])
  | [], l0, _ => by simp [rgo]
  | y :: l, l0, h => by
    obtain ⟨h1, h2⟩ := h y (by simp)
    obtain ⟨g1, g2⟩ := sent_of (d := y) (s := (sL y).1) h2 (Prod.ext rfl h1)
    have hs : rstep (st ++ [(8, 0, l0)]) (sL y).1 = some (st ++ [(8, 0, l0 ++ [y])]) := by
      unfold rstep
      rw [if_pos (sL_ended y).2, List.getLast?_append, List.getLast?_singleton, List.dropLast_concat]
      show (if _ then _ else _) = _
      rw [if_pos ⟨g1, rfl, rfl⟩, g2]
    show (rstep _ _).bind _ = _
    rw [hs]
    show rgo _ _ = _
    rw [rgo_sents l (l0 ++ [y]) fun z hz => h z (by simp [hz]), List.append_assoc]; rfl
theorem rgo_row {st : List dR} {d : dR} (h : (rwT d).2 = true) (he : I64 d.2.1) (hd : ∀ y ∈ d.2.2, dI y) : rgo st (rLines d) = some (st ++ [d]) := by
  obtain ⟨_, hk, hl, ha, hh⟩ := rwT_form h
  obtain ⟨k, er, l⟩ := d
  dsimp only at hk hl ha hh he hd
  obtain ⟨g1, g2⟩ := row_of he hh
  have hs : rstep st (hdL k er) = some (st ++ [(k, er, [])]) := by
    unfold rstep
    rw [if_neg (hdL_head hk), if_pos g1, g2]
  unfold rLines
  dsimp only
  show (rstep _ _).bind _ = _
  rw [hs]
  show rgo _ _ = _
  by_cases hl0 : l = []
  · subst hl0; rfl
  · obtain ⟨rfl, rfl⟩ := hl hl0
    have := rgo_sents (st := st) l [] fun y hy => ⟨ha y hy, hd y hy⟩
    simpa using this
/-- rows that may be written come back -/
theorem rgo_rows : ∀ (ds st : List dR), (∀ d ∈ ds, (rwT d).2 = true ∧ I64 d.2.1 ∧ ∀ y ∈ d.2.2, dI y) → rgo st (ds.flatMap rLines) = some (st ++ ds)
  | [], st, _ => by simp [rgo]
  | d :: ds, st, h => by
    obtain ⟨h1, h2, h3⟩ := h d (by simp)
    rw [List.flatMap_cons, rgo_app, rgo_row h1 h2 h3]
    show rgo _ _ = _
    rw [rgo_rows ds _ fun x hx => h x (by simp [hx])]
    simp
theorem rwTx_lines {ds : List dR} (h : ∀ d ∈ ds, (rwT d).2 = true) : rwTx ds = (ds.flatMap rLines).flatten := by
  induction ds with
  | nil => rfl
  | cons d ds ih =>
    have e1 : rwTx (d :: ds) = (rwT d).1 ++ rwTx ds := by simp [rwTx]
    rw [e1, ih fun x hx => h x (by simp [hx]), (rwT_form (h d (by simp))).1, List.flatMap_cons, List.flatten_append]
theorem lns_rows {ds : List dR} {t : Bs} (h : ∀ d ∈ ds, (rwT d).2 = true) : lns (rwTx ds ++ t) = ds.flatMap rLines ++ lns t := by
  rw [rwTx_lines h]
  refine lns_flat _ _ fun x hx => ?_
  obtain ⟨d, _, hd⟩ := List.mem_flatMap.1 hx
  exact rLines_ended d x hd
theorem rgo_text {ds : List dR} {t : Bs} (h : ∀ d ∈ ds, (rwT d).2 = true ∧ I64 d.2.1 ∧ ∀ y ∈ d.2.2, dI y) : rgo [] (lns (rwTx ds ++ t)) = rgo ds (lns t) := by
  rw [lns_rows fun d hd => (h d hd).1, rgo_app, rgo_rows ds [] h]
  rfl
/-- what is read is what it is the text of -/
theorem rstep_text {st st' : List dR} {x : Bs} (h : rstep st x = some st') (hg : ∀ d ∈ st, (rwT d).2 = true ∧ I64 d.2.1 ∧ ∀ y ∈ d.2.2, dI y) :
    (∀ d ∈ st', (rwT d).2 = true ∧ I64 d.2.1 ∧ ∀ y ∈ d.2.2, dI y) ∧ st'.flatMap rLines = st.flatMap rLines ++ [x] := by
  unfold rstep at h
  split at h
  · rcases List.eq_nil_or_concat st with rfl | ⟨pre, d, rfl⟩
    · cases h
    · rw [List.concat_eq_append] at h hg ⊢
      rw [List.getLast?_append, List.getLast?_singleton, List.dropLast_concat] at h
      obtain ⟨k, er, l⟩ := d
      replace h : (if sentOk x = true ∧ k = 8 ∧ er = 0 then some (pre ++ [(k, er, l ++ [(sentR x).1])]) else none) = some st' := h
      split at h
      · rename_i hc
        obtain ⟨h1, rfl, rfl⟩ := hc
        cases h
        have hx := sent_ok h1
        obtain ⟨q1, q2, q3⟩ := hg (8, 0, l) (by simp)
        have hall := (rwT_form q1).2.2.2.1
        have hok : (rwT (8, 0, l ++ [(sentR x).1])).2 = true := by
          unfold rwT
          dsimp only
          rw [if_neg (by rintro (h | ⟨_, h | h⟩) <;> first | exact absurd h (by decide) | exact h rfl), if_neg (by decide), if_pos]
          refine List.all_eq_true.2 fun y hy => ?_
          rcases List.mem_append.1 hy with hy | hy
          · exact hall y hy
          · rw [List.mem_singleton.1 hy, hx]
        refine ⟨fun y hy => ?_, ?_⟩
        · rcases List.mem_append.1 hy with hy | hy
          · exact hg y (by simp [hy])
          · rw [List.mem_singleton.1 hy]
            refine ⟨hok, q2, fun z hz => ?_⟩
            rcases List.mem_append.1 hz with hz | hz
            · exact q3 z hz
            · rw [List.mem_singleton.1 hz]; exact sentR_dI x
        · simp [List.flatMap_append, rLines, hx]
      · cases h
  · split at h
    · rename_i hc
      cases h
      have hx := row_ok hc
      have hf := (rwT_form (d := hdR (rowR x).1) (by rw [hx])).1
      rw [hx] at hf
      refine ⟨fun y hy => ?_, ?_⟩
      · rcases List.mem_append.1 hy with hy | hy
        · exact hg y hy
        · rw [List.mem_singleton.1 hy]
          exact ⟨by rw [hx], rowR_I64 x, fun z hz => by cases hz⟩
      · have e1 : rLines (hdR (rowR x).1) = [x] := by
          have : rLines (hdR (rowR x).1) = [hdL (rowR x).1.1 (rowR x).1.2] := rfl
          rw [this] at hf ⊢
          have h9 : x = hdL (rowR x).1.1 (rowR x).1.2 := by simpa using hf
          rw [← h9]
        rw [List.flatMap_append, List.flatMap_cons, List.flatMap_nil, List.append_nil, e1]
    · cases h
theorem rgo_back : ∀ (ls : List Bs) (st ds : List dR), rgo st ls = some ds → (∀ d ∈ st, (rwT d).2 = true ∧ I64 d.2.1 ∧ ∀ y ∈ d.2.2, dI y) →
    (∀ d ∈ ds, (rwT d).2 = true ∧ I64 d.2.1 ∧ ∀ y ∈ d.2.2, dI y) ∧ ds.flatMap rLines = st.flatMap rLines ++ ls
  | [], st, ds, h, hg => by cases h; exact ⟨hg, by simp⟩
  | x :: ls, st, ds, h, hg => by
    have h' : (rstep st x).bind (fun st' => rgo st' ls) = some ds := h
    cases hs : rstep st x with
    | none => rw [hs] at h'; cases h'
    | some s1 =>
      rw [hs] at h'
      obtain ⟨g1, g2⟩ := rstep_text hs hg
      obtain ⟨g3, g4⟩ := rgo_back ls s1 ds h' g1
      exact ⟨g3, by rw [g4, g2, List.append_assoc]; rfl⟩
theorem lns_cat (s : Bs) : (lns s).flatten = s := by
  have key : ∀ (s cur : Bs), (lnsA cur s).flatten = cur ++ s := by
    intro s
    induction s with
    | nil =>
      intro cur
      unfold lnsA
      split
      · rename_i h; rw [h]; rfl
      · simp
    | cons c s ih =>
      intro cur
      unfold lnsA
      split
      · rename_i h
        rw [List.flatten_cons, ih [], h]; simp
      · rw [ih]; simp
  exact key s []
/-- a text that is rows is theirs -/
theorem rows_text {s : Bs} {ds : List dR} (h : rgo [] (lns s) = some ds) : (∀ d ∈ ds, (rwT d).2 = true ∧ I64 d.2.1 ∧ ∀ y ∈ d.2.2, dI y) ∧ rwTx ds = s := by
  obtain ⟨h1, h2⟩ := rgo_back _ [] ds h fun d hd => by cases hd
  refine ⟨h1, ?_⟩
  rw [rwTx_lines fun d hd => (h1 d hd).1, h2]
  exact lns_cat s
end Go.Proofs.YtoneapgooihajaaGreatDoor.Qa
