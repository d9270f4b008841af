/- The engine and the contracts. -/
import Derived.Test.YtnijeifpjjeccaaGreatDoorC4
set_option linter.unusedVariables false
set_option linter.unusedSimpArgs false
namespace Hw.Mq
open Go Go.Proofs Hw.M

/-! models: words, and what is valid of an operation -/
def wordsP (k : Int) : PV := .sl 3 ((wordsL k).map wordR)
theorem kinds {k : Int} (h : 1 ≤ k ∧ k ≤ 6) : k = 1 ∨ k = 2 ∨ k = 3 ∨ k = 4 ∨ k = 5 ∨ k = 6 := by omega
theorem words_ok {k : Int} (hk : 1 ≤ k ∧ k ≤ 6) : FnOK Tryz.prog 22 [I k] [] (pS (wordsP k)) [] := by
  rcases kinds hk with rfl | rfl | rfl | rfl | rfl | rfl
  all_goals
    refine fn_ok T Tryz.func22 (by kernel_rfl) rfl rfl rfl rfl fun C hC => ?_
    repeat' first
      | refine g_go T hC true 400 rfl rfl ?_
      | (exfalso; simp at h; done)
      | refine g_cond rfl (fun h => ?_) (fun h => ?_)
      | refine g_end T hC (by kernel_rfl) ?_
      | refine g_splitD (fun h => ?_) (fun h => ?_)
      | refine g_splitG rfl rfl rfl (fun h => ?_) (fun h => ?_)
      | refine g_splitP rfl rfl (fun h => ?_) (fun h => ?_)
      | refine g_lit T hC rfl rfl rfl rfl rfl rfl rfl rfl rfl ?_
    exact g_fin ⟨.inl rfl, id, _, rfl, .refl _, trivial, rfl, rfl⟩
theorem words_no {k : Int} (hk : ¬(1 ≤ k ∧ k ≤ 6)) : FnOK Tryz.prog 22 [I k] [] (.one (.p (.k (.slice none 0 0)))) [] := by
  refine fn_ok T Tryz.func22 (by kernel_rfl) rfl rfl rfl rfl fun C hC => ?_
  repeat' first
    | refine g_go T hC true 400 rfl rfl ?_
    | (exfalso; have h2 := of_decide_eq_true h; omega)
    | refine g_cond rfl (fun h => ?_) (fun h => ?_)
    | refine g_end T hC (by kernel_rfl) ?_
    | refine g_splitD (fun h => ?_) (fun h => ?_)
    | refine g_splitG rfl rfl rfl (fun h => ?_) (fun h => ?_)
    | refine g_splitP rfl rfl (fun h => ?_) (fun h => ?_)
  exact g_fin ⟨.inl rfl, id, _, rfl, .refl _, trivial, rfl, rfl⟩
theorem wordsL_no {k : Int} (hk : ¬(1 ≤ k ∧ k ≤ 6)) : wordsL k = [] := by
  unfold wordsL
  repeat rw [if_neg (by omega)]
def namesL (k : Int) : List Str := (wordsL k).map (·.1)
theorem rWords_ok {k : Int} (hk : 1 ≤ k ∧ k ≤ 6) : FnOK Tryz.prog 29 [I k] [] (pS (strsP (namesL k))) [] := by
  rcases kinds hk with rfl | rfl | rfl | rfl | rfl | rfl
  all_goals
    refine fn_ok T Tryz.func29 (by kernel_rfl) rfl rfl rfl rfl fun C hC => ?_
    repeat' first
      | refine g_go T hC true 400 rfl rfl ?_
      | (exfalso; simp at h; done)
      | refine g_cond rfl (fun h => ?_) (fun h => ?_)
      | refine g_end T hC (by kernel_rfl) ?_
      | refine g_splitD (fun h => ?_) (fun h => ?_)
      | refine g_splitG rfl rfl rfl (fun h => ?_) (fun h => ?_)
      | refine g_splitP rfl rfl (fun h => ?_) (fun h => ?_)
      | refine g_lit T hC rfl rfl rfl rfl rfl rfl rfl rfl rfl ?_
    exact g_fin ⟨.inl rfl, id, _, rfl, .refl _, trivial, rfl, rfl⟩
theorem words_len {k : Int} : (wordsL k).length ≤ 8 := by
  unfold wordsL
  repeat' split
  all_goals decide
theorem names_len {k : Int} : (namesL k).length = (wordsL k).length := List.length_map _
theorem rArity_ok {k c : Int} (hk : 1 ≤ k ∧ k ≤ 6) (hc : 1 ≤ c) {w : Str × Int × Bool} (hw : (wordsL k)[(c - 1).toNat]? = some w) : FnOK Tryz.prog 30 [I k, I c] [] (I w.2.1) [] := by
  have hlt := (List.getElem?_eq_some_iff.1 hw).1
  have h8 := words_len (k := k)
  have w1 : IntKind.i64.wrap (c - 1) = c - 1 := wrap64 (by omega)
  have hx : ((wordsL k).map fun w => w.2.1)[(c - 1).toNat]? = some w.2.1 := by rw [List.getElem?_map, hw]; rfl
  rcases kinds hk with rfl | rfl | rfl | rfl | rfl | rfl
  all_goals
    refine fn_ok T Tryz.func30 (by kernel_rfl) rfl rfl rfl rfl fun C hC => ?_
    repeat' first
      | refine g_go T hC true 400 rfl rfl ?_
      | (exfalso; simp at h; done)
      | refine g_cond rfl (fun h => ?_) (fun h => ?_)
      | refine g_end T hC (by kernel_rfl) ?_
      | refine g_splitD (fun h => ?_) (fun h => ?_)
      | refine g_splitG rfl rfl rfl (fun h => ?_) (fun h => ?_)
      | refine g_splitP rfl rfl (fun h => ?_) (fun h => ?_)
      | refine g_lit T hC rfl rfl rfl rfl rfl rfl rfl rfl rfl ?_
      | (rw [w1]; refine g_idx T hC rfl rfl rfl (by omega) (map_atI (f := intR) hx) rfl rfl ?_)
    exact g_fin ⟨.inl rfl, id, _, rfl, .refl _, trivial, rfl, rfl⟩
theorem vop1_ok (n : Int) : FnOK Tryz.prog 35 [I n] [] (.bq (!chrB n)) [] := by
  have h := character_ok n
  generalize chrB n = q at h ⊢
  refine fn_ok T Tryz.func35 (by kernel_rfl) rfl rfl rfl rfl fun C hC => ?_
  repeat' first
    | refine g_go T hC true 400 rfl rfl ?_
    | refine g_cond rfl (fun h => ?_) (fun h => ?_)
    | refine g_end T hC (by kernel_rfl) ?_
    | refine g_splitD (fun h => ?_) (fun h => ?_)
    | refine g_splitG rfl rfl rfl (fun h => ?_) (fun h => ?_)
    | refine g_splitP rfl rfl (fun h => ?_) (fun h => ?_)
    | refine g_call hC (h) rfl rfl (LeSs.refl _) rfl rfl rfl ?_
    | refine g_retq T (.inl rfl) rfl ?_
    | refine g_retl T (.inl rfl) rfl ?_
  all_goals rfl
theorem vop2_ok (n : Int) : FnOK Tryz.prog 37 [I n] [] (.bq (!numB n)) [] := by
  have h := number_ok n
  generalize numB n = q at h ⊢
  refine fn_ok T Tryz.func37 (by kernel_rfl) rfl rfl rfl rfl fun C hC => ?_
  repeat' first
    | refine g_go T hC true 400 rfl rfl ?_
    | refine g_cond rfl (fun h => ?_) (fun h => ?_)
    | refine g_end T hC (by kernel_rfl) ?_
    | refine g_splitD (fun h => ?_) (fun h => ?_)
    | refine g_splitG rfl rfl rfl (fun h => ?_) (fun h => ?_)
    | refine g_splitP rfl rfl (fun h => ?_) (fun h => ?_)
    | refine g_call hC (h) rfl rfl (LeSs.refl _) rfl rfl rfl ?_
    | refine g_retq T (.inl rfl) rfl ?_
    | refine g_retl T (.inl rfl) rfl ?_
  all_goals rfl
theorem any_not {α : Type} (p : α → Bool) (l : List α) : (l.any fun x => !p x) = !l.all p := by
  induction l with
  | nil => rfl
  | cons x l ih => rw [List.any_cons, List.all_cons, ih, Bool.not_and]
theorem validOp_ok (k : Int) (o : OpT) : FnOK Tryz.prog 13 [I k, aggS (opR o)] [] (.bq (okOp k o)) [] := by
  obtain ⟨c, ags⟩ := o
  by_cases hk : 1 ≤ k ∧ k ≤ 6
  · have hW := words_ok hk
    have h8 := words_len (k := k)
    have hA := intN_any 35 ags (fun n => !chrB n) (fun n _ => vop1_ok n)
    have hB := intN_any 37 ags (fun n => !numB n) (fun n _ => vop2_ok n)
    rw [any_not] at hA hB
    unfold okOp
    simp only
    generalize ags.all chrB = qa at hA ⊢
    generalize ags.all numB = qb at hB ⊢
    cases hw : (wordsL k)[(c - 1).toNat]? with
    | none =>
      have hge := List.getElem?_eq_none_iff.1 hw
      have hcl : c < 1 ∨ ((wordsL k).length : Int) < c := by omega
      refine fn_ok T Tryz.func13 (by kernel_rfl) rfl rfl rfl rfl fun C hC => ?_
      repeat' first
        | refine g_go T hC true 400 rfl rfl ?_
        | (exfalso; first | (simp only [decide_eq_true_eq, decide_eq_false_iff_not, List.length_map, Bool.not_eq_true', Bool.not_eq_false'] at *; omega) | (simp at h; done))
        | refine g_cond rfl (fun h => ?_) (fun h => ?_)
        | refine g_end T hC (by kernel_rfl) ?_
        | refine g_splitD (fun h => ?_) (fun h => ?_)
        | refine g_splitG rfl rfl rfl (fun h => ?_) (fun h => ?_)
        | refine g_splitP rfl rfl (fun h => ?_) (fun h => ?_)
        | refine g_call hC (hW) rfl rfl (LeSs.refl _) rfl rfl rfl ?_
        | refine g_retq T (.inl rfl) rfl ?_
        | refine g_retl T (.inl rfl) rfl ?_
      all_goals (try simp)
    | some w =>
      have hlt := (List.getElem?_eq_some_iff.1 hw).1
      by_cases hc1 : 1 ≤ c
      · have w1 : IntKind.i64.wrap (c - 1) = c - 1 := wrap64 (by omega)
        obtain ⟨s, a, u⟩ := w
        simp only
        refine fn_ok T Tryz.func13 (by kernel_rfl) rfl rfl rfl rfl fun C hC => ?_
        repeat' first
          | refine g_go T hC true 400 rfl rfl ?_
          | (exfalso; first | (simp only [decide_eq_true_eq, decide_eq_false_iff_not, List.length_map, Bool.not_eq_true', Bool.not_eq_false'] at *; omega) | (simp at h; done))
          | refine g_cond rfl (fun h => ?_) (fun h => ?_)
          | refine g_end T hC (by kernel_rfl) ?_
          | refine g_splitD (fun h => ?_) (fun h => ?_)
          | refine g_splitG rfl rfl rfl (fun h => ?_) (fun h => ?_)
          | refine g_splitP rfl rfl (fun h => ?_) (fun h => ?_)
          | refine g_call hC (hW) rfl rfl (LeSs.refl _) rfl rfl rfl ?_
          | refine g_call hC (hA) rfl rfl (LeSs.refl _) rfl rfl rfl ?_
          | refine g_call hC (hB) rfl rfl (LeSs.refl _) rfl rfl rfl ?_
          | (rw [w1]; refine g_idx T hC rfl rfl rfl (by omega) (map_atI (f := wordR) hw) rfl rfl ?_)
          | refine g_retq T (.inl rfl) rfl ?_
          | refine g_retl T (.inl rfl) rfl ?_
        all_goals (clear hW hA hB; try simp only [List.length_map] at *)
        all_goals first
          | rfl
          | (simp; done)
          | (simp_all; done)
          | (simp_all; omega)
          | (intros; simp_all <;> omega)
      · refine fn_ok T Tryz.func13 (by kernel_rfl) rfl rfl rfl rfl fun C hC => ?_
        repeat' first
          | refine g_go T hC true 400 rfl rfl ?_
          | (exfalso; first | (simp only [decide_eq_true_eq, decide_eq_false_iff_not, List.length_map, Bool.not_eq_true', Bool.not_eq_false'] at *; omega) | (simp at h; done))
          | refine g_cond rfl (fun h => ?_) (fun h => ?_)
          | refine g_end T hC (by kernel_rfl) ?_
          | refine g_splitD (fun h => ?_) (fun h => ?_)
          | refine g_splitG rfl rfl rfl (fun h => ?_) (fun h => ?_)
          | refine g_splitP rfl rfl (fun h => ?_) (fun h => ?_)
          | refine g_call hC (hW) rfl rfl (LeSs.refl _) rfl rfl rfl ?_
          | refine g_retq T (.inl rfl) rfl ?_
          | refine g_retl T (.inl rfl) rfl ?_
        all_goals (simp [hc1])
  · have hW := words_no hk
    rw [show okOp k ⟨c, ags⟩ = false by unfold okOp; rw [wordsL_no hk]; simp]
    refine fn_ok T Tryz.func13 (by kernel_rfl) rfl rfl rfl rfl fun C hC => ?_
    repeat' first
      | refine g_go T hC true 400 rfl rfl ?_
      | (exfalso; first | (simp only [decide_eq_true_eq, decide_eq_false_iff_not, List.length_map, Bool.not_eq_true', Bool.not_eq_false'] at *; omega) | (simp at h; done))
      | refine g_cond rfl (fun h => ?_) (fun h => ?_)
      | refine g_end T hC (by kernel_rfl) ?_
      | refine g_splitD (fun h => ?_) (fun h => ?_)
      | refine g_splitG rfl rfl rfl (fun h => ?_) (fun h => ?_)
      | refine g_splitP rfl rfl (fun h => ?_) (fun h => ?_)
      | refine g_call hC (hW) rfl rfl (LeSs.refl _) rfl rfl rfl ?_
      | refine g_retq T (.inl rfl) rfl ?_
      | refine g_retl T (.inl rfl) rfl ?_
    all_goals (clear hW; try simp only [List.length_map] at *)
    all_goals first
      | rfl
      | (simp; done)
      | (simp_all; done)
      | (simp_all; omega)
      | (intros; simp_all <;> omega)
end Hw.Mq
namespace Hw.Mq
open Go Go.Proofs Hw.M

/-! models: equality; few, short; forms -/
theorem take_eqT {α : Type} {a b : List α} {i : Nat} {x : α} (hx : a[i]? = some x) (hy : b[i]? = some x) (h : a.take i = b.take i) : a.take (i + 1) = b.take (i + 1) := by
  rw [List.take_add_one, List.take_add_one, hx, hy, h]
theorem sameList_ok (a b : List Int) : FnOK Tryz.prog 33 [pS (intsP a), pS (intsP b)] [] (.bq (decide (a = b))) [] := by
  refine fn_ok T Tryz.func33 (by kernel_rfl) rfl rfl rfl rfl fun C hC => ?_
  refine g_len 0 rfl fun hlen => ?_
  rw [List.length_map] at hlen
  repeat' first
    | refine g_go T hC true 400 rfl rfl ?_
    | refine g_cond rfl (fun h => ?_) (fun h => ?_)
    | refine g_end T hC (by kernel_rfl) ?_
    | refine g_splitD (fun h => ?_) (fun h => ?_)
    | refine g_splitG rfl rfl rfl (fun h => ?_) (fun h => ?_)
    | refine g_splitP rfl rfl (fun h => ?_) (fun h => ?_)
    | refine g_retl T (.inl rfl) rfl ?_
  all_goals (try simp only [List.length_map] at *)
  · have : ¬ (a.length : Int) = (b.length : Int) := by simpa using h
    exact (decide_eq_false fun e => this (by rw [e])).symm
  · have hab : a.length = b.length := by have : (a.length : Int) = (b.length : Int) := by simpa using h
                                         omega
    refine g_loop (fun i : Nat => i ≤ a.length ∧ a.take i = b.take i) (fun i => ([(0, pS (intsP a)), (1, pS (intsP b)), (5, I i)], [])) (fun i => a.length - i) hC
      0 ⟨Nat.zero_le _, by simp⟩ id ⟨rfl, ⟨rfl, rfl, rfl, trivial⟩, trivial, rfl, fun _ _ => rfl⟩ ?_
    rintro i ⟨hi, hn⟩
    refine g_run' T hC true 200 rfl ?_
    refine g_cond rfl (fun h => ?_) (fun h => ?_)
    · have hlt : i < a.length := by simpa using h
      clear h
      obtain ⟨x, hx⟩ := exists_at hlt
      obtain ⟨y, hy⟩ := exists_at (hab ▸ hlt)
      repeat' first
        | refine g_go T hC true 400 rfl rfl ?_
        | refine g_cond rfl (fun h => ?_) (fun h => ?_)
        | refine g_end T hC (by kernel_rfl) ?_
        | refine g_splitD (fun h => ?_) (fun h => ?_)
        | refine g_splitG rfl rfl rfl (fun h => ?_) (fun h => ?_)
        | refine g_splitP rfl rfl (fun h => ?_) (fun h => ?_)
        | refine g_idx T hC rfl rfl rfl (Int.natCast_nonneg _) (map_at hx) rfl rfl ?_
        | refine g_idx T hC rfl rfl rfl (Int.natCast_nonneg _) (map_at hy) rfl rfl ?_
        | refine g_outR ?_
        | refine g_retl T (.inl rfl) rfl ?_
      · have hxy : x ≠ y := by simpa using h
        exact (decide_eq_false fun e => hxy (by subst e; rw [hx] at hy; exact Option.some.inj hy)).symm
      · have hxy : x = y := by simpa using h
        subst hxy
        rw [wrapS (by omega)]
        exact g_round (i + 1) ⟨by omega, take_eqT hx hy hn⟩ id (by omega) ⟨rfl, ⟨rfl, rfl, rfl, trivial⟩, trivial, rfl, fun _ _ => rfl⟩
    · have hge : ¬ i < a.length := by simpa using h
      repeat' first
        | refine g_go T hC true 400 rfl rfl ?_
        | refine g_cond rfl (fun h => ?_) (fun h => ?_)
        | refine g_end T hC (by kernel_rfl) ?_
        | refine g_splitD (fun h => ?_) (fun h => ?_)
        | refine g_splitG rfl rfl rfl (fun h => ?_) (fun h => ?_)
        | refine g_splitP rfl rfl (fun h => ?_) (fun h => ?_)
        | refine g_outE ?_
        | refine g_retl T (.inl rfl) rfl ?_
      rw [List.take_of_length_le (by omega), List.take_of_length_le (by omega)] at hn
      exact (decide_eq_true hn).symm
theorem slEqual_ok (a b : List Int) : FnOK Tryz.prog 83 [pS (intsP a), pS (intsP b)] [] (.bq (decide (a = b))) [] := by
  refine fn_ok T Tryz.func83 (by kernel_rfl) rfl rfl rfl rfl fun C hC => ?_
  refine g_len 0 rfl fun hlen => ?_
  rw [List.length_map] at hlen
  repeat' first
    | refine g_go T hC true 400 rfl rfl ?_
    | refine g_cond rfl (fun h => ?_) (fun h => ?_)
    | refine g_end T hC (by kernel_rfl) ?_
    | refine g_splitD (fun h => ?_) (fun h => ?_)
    | refine g_splitG rfl rfl rfl (fun h => ?_) (fun h => ?_)
    | refine g_splitP rfl rfl (fun h => ?_) (fun h => ?_)
    | refine g_retl T (.inl rfl) rfl ?_
  all_goals (try simp only [List.length_map] at *)
  · have : ¬ (a.length : Int) = (b.length : Int) := by simpa using h
    exact (decide_eq_false fun e => this (by rw [e])).symm
  · have hab : a.length = b.length := by have : (a.length : Int) = (b.length : Int) := by simpa using h
                                         omega
    refine g_loop (fun i : Nat => i ≤ a.length ∧ a.take i = b.take i) (fun i => ([(0, pS (intsP a)), (1, pS (intsP b)), (12, I a.length), (13, I i)], [])) (fun i => a.length - i) hC
      0 ⟨Nat.zero_le _, by simp⟩ id ⟨rfl, ⟨rfl, rfl, rfl, rfl, trivial⟩, trivial, rfl, fun _ _ => rfl⟩ ?_
    rintro i ⟨hi, hn⟩
    refine g_run' T hC true 200 rfl ?_
    refine g_cond rfl (fun h => ?_) (fun h => ?_)
    · have hlt : i < a.length := by simpa using h
      clear h
      obtain ⟨x, hx⟩ := exists_at hlt
      obtain ⟨y, hy⟩ := exists_at (hab ▸ hlt)
      repeat' first
        | refine g_go T hC true 400 rfl rfl ?_
        | refine g_cond rfl (fun h => ?_) (fun h => ?_)
        | refine g_end T hC (by kernel_rfl) ?_
        | refine g_splitD (fun h => ?_) (fun h => ?_)
        | refine g_splitG rfl rfl rfl (fun h => ?_) (fun h => ?_)
        | refine g_splitP rfl rfl (fun h => ?_) (fun h => ?_)
        | refine g_idx T hC rfl rfl rfl (Int.natCast_nonneg _) (map_at hx) rfl rfl ?_
        | refine g_idx T hC rfl rfl rfl (Int.natCast_nonneg _) (map_at hy) rfl rfl ?_
        | refine g_outR ?_
        | refine g_retl T (.inl rfl) rfl ?_
      · have hxy : x ≠ y := by simpa using h
        exact (decide_eq_false fun e => hxy (by subst e; rw [hx] at hy; exact Option.some.inj hy)).symm
      · have hxy : x = y := by simpa using h
        subst hxy
        rw [wrapS (by omega)]
        exact g_round (i + 1) ⟨by omega, take_eqT hx hy hn⟩ id (by omega) ⟨rfl, ⟨rfl, rfl, rfl, rfl, trivial⟩, trivial, rfl, fun _ _ => rfl⟩
    · have hge : ¬ i < a.length := by simpa using h
      repeat' first
        | refine g_go T hC true 400 rfl rfl ?_
        | refine g_cond rfl (fun h => ?_) (fun h => ?_)
        | refine g_end T hC (by kernel_rfl) ?_
        | refine g_splitD (fun h => ?_) (fun h => ?_)
        | refine g_splitG rfl rfl rfl (fun h => ?_) (fun h => ?_)
        | refine g_splitP rfl rfl (fun h => ?_) (fun h => ?_)
        | refine g_outE ?_
        | refine g_retl T (.inl rfl) rfl ?_
      rw [List.take_of_length_le (by omega), List.take_of_length_le (by omega)] at hn
      exact (decide_eq_true hn).symm
theorem sameNil_ok : FnOK Tryz.prog 33 [.one (.p (.k (.slice none 0 0))), .one (.p (.k (.slice none 0 0)))] [] (.bq true) [] := by
  refine fn_ok T Tryz.func33 (by kernel_rfl) rfl rfl rfl rfl fun C hC => ?_
  repeat' first
    | refine g_go T hC true 400 rfl rfl ?_
    | (exfalso; simp at h; done)
    | refine g_cond rfl (fun h => ?_) (fun h => ?_)
    | refine g_end T hC (by kernel_rfl) ?_
    | refine g_splitD (fun h => ?_) (fun h => ?_)
    | refine g_splitG rfl rfl rfl (fun h => ?_) (fun h => ?_)
    | refine g_splitP rfl rfl (fun h => ?_) (fun h => ?_)
  refine g_loop (fun _ : Unit => True) (fun _ => ([(0, .one (.p (.k (.slice none 0 0)))), (5, I 0)], [])) (fun _ => 0) hC () trivial id ⟨rfl, ⟨rfl, rfl, trivial⟩, trivial, rfl, fun _ _ => rfl⟩ ?_
  rintro ⟨⟩ _
  repeat' first
    | refine g_go T hC true 400 rfl rfl ?_
    | (exfalso; simp at h; done)
    | refine g_cond rfl (fun h => ?_) (fun h => ?_)
    | refine g_end T hC (by kernel_rfl) ?_
    | refine g_splitD (fun h => ?_) (fun h => ?_)
    | refine g_splitG rfl rfl rfl (fun h => ?_) (fun h => ?_)
    | refine g_splitP rfl rfl (fun h => ?_) (fun h => ?_)
    | refine g_outE ?_
    | refine g_retq T (.inl rfl) rfl ?_
    | refine g_retl T (.inl rfl) rfl ?_
  all_goals rfl
theorem rs_eq (x y : RsT) : decide (x = y) = (decide (x.e = y.e) && decide (x.n = y.n)) := by
  rw [← Bool.decide_and]
  exact decide_eq_decide.2 ⟨fun h => by subst h; exact ⟨rfl, rfl⟩, fun h => by cases x; cases y; simp only at h; rw [h.1, h.2]⟩
theorem sameRes_ok (x y : RsT) : FnOK Tryz.prog 43 [aggS (rsR x), aggS (rsR y)] [] (.bq (decide (x = y))) [] := by
  rw [rs_eq]
  have hN := sameNil_ok
  refine fn_ok T Tryz.func43 (by kernel_rfl) rfl rfl rfl rfl fun C hC => ?_
  repeat' first
    | refine g_go T hC true 400 rfl rfl ?_
    | refine g_cond rfl (fun h => ?_) (fun h => ?_)
    | refine g_end T hC (by kernel_rfl) ?_
    | refine g_splitD (fun h => ?_) (fun h => ?_)
    | refine g_splitG rfl rfl rfl (fun h => ?_) (fun h => ?_)
    | refine g_splitP rfl rfl (fun h => ?_) (fun h => ?_)
    | refine g_call hC (hN) rfl rfl (LeSs.refl _) rfl rfl rfl ?_
    | refine g_retq T (.inl rfl) rfl ?_
    | refine g_retl T (.inl rfl) rfl ?_
  all_goals (clear hN; try simp only [List.length_map] at *)
  all_goals first
    | rfl
    | (simp; done)
    | (simp_all; done)
    | (simp_all; omega)
    | (intros; simp_all <;> omega)
theorem sameResults_ok (a b : List RsT) : FnOK Tryz.prog 18 [pS (rssP a), pS (rssP b)] [] (.bq (decide (a = b))) [] := by
  refine fn_ok T Tryz.func18 (by kernel_rfl) rfl rfl rfl rfl fun C hC => ?_
  refine g_len 0 rfl fun hlen => ?_
  rw [List.length_map] at hlen
  repeat' first
    | refine g_go T hC true 400 rfl rfl ?_
    | refine g_cond rfl (fun h => ?_) (fun h => ?_)
    | refine g_end T hC (by kernel_rfl) ?_
    | refine g_splitD (fun h => ?_) (fun h => ?_)
    | refine g_splitG rfl rfl rfl (fun h => ?_) (fun h => ?_)
    | refine g_splitP rfl rfl (fun h => ?_) (fun h => ?_)
    | refine g_retl T (.inl rfl) rfl ?_
  all_goals (try simp only [List.length_map] at *)
  · have : ¬ (a.length : Int) = (b.length : Int) := by simpa using h
    exact (decide_eq_false fun e => this (by rw [e])).symm
  · have hab : a.length = b.length := by have : (a.length : Int) = (b.length : Int) := by simpa using h
                                         omega
    refine g_loop (fun i : Nat => i ≤ a.length ∧ a.take i = b.take i) (fun i => ([(0, pS (rssP a)), (1, pS (rssP b)), (5, I i)], [])) (fun i => a.length - i) hC
      0 ⟨Nat.zero_le _, by simp⟩ id ⟨rfl, ⟨rfl, rfl, rfl, trivial⟩, trivial, rfl, fun _ _ => rfl⟩ ?_
    rintro i ⟨hi, hn⟩
    refine g_run' T hC true 200 rfl ?_
    refine g_cond rfl (fun h => ?_) (fun h => ?_)
    · have hlt : i < a.length := by simpa using h
      clear h
      obtain ⟨x, hx⟩ := exists_at hlt
      obtain ⟨y, hy⟩ := exists_at (hab ▸ hlt)
      repeat' first
        | refine g_go T hC true 400 rfl rfl ?_
        | refine g_cond rfl (fun h => ?_) (fun h => ?_)
        | refine g_end T hC (by kernel_rfl) ?_
        | refine g_splitD (fun h => ?_) (fun h => ?_)
        | refine g_splitG rfl rfl rfl (fun h => ?_) (fun h => ?_)
        | refine g_splitP rfl rfl (fun h => ?_) (fun h => ?_)
        | refine g_idx T hC rfl rfl rfl (Int.natCast_nonneg _) (map_at hx) rfl rfl ?_
        | refine g_idx T hC rfl rfl rfl (Int.natCast_nonneg _) (map_at hy) rfl rfl ?_
        | refine g_call hC (sameRes_ok _ _) rfl rfl (LeSs.refl _) rfl rfl rfl ?_
        | refine g_outR ?_
        | refine g_retl T (.inl rfl) rfl ?_
      · have hxy : x ≠ y := by simpa using h
        exact (decide_eq_false fun e => hxy (by subst e; rw [hx] at hy; exact Option.some.inj hy)).symm
      · have hxy : x = y := by simpa using h
        subst hxy
        rw [wrapS (by omega)]
        exact g_round (i + 1) ⟨by omega, take_eqT hx hy hn⟩ id (by omega) ⟨rfl, ⟨rfl, rfl, rfl, trivial⟩, trivial, rfl, fun _ _ => rfl⟩
    · have hge : ¬ i < a.length := by simpa using h
      repeat' first
        | refine g_go T hC true 400 rfl rfl ?_
        | refine g_cond rfl (fun h => ?_) (fun h => ?_)
        | refine g_end T hC (by kernel_rfl) ?_
        | refine g_splitD (fun h => ?_) (fun h => ?_)
        | refine g_splitG rfl rfl rfl (fun h => ?_) (fun h => ?_)
        | refine g_splitP rfl rfl (fun h => ?_) (fun h => ?_)
        | refine g_outE ?_
        | refine g_retl T (.inl rfl) rfl ?_
      rw [List.take_of_length_le (by omega), List.take_of_length_le (by omega)] at hn
      exact (decide_eq_true hn).symm
theorem sgn_zero (x y : Int) : decide (sgnI x y = 0) = decide (x = y) := by
  unfold sgnI
  by_cases h : x < y
  · rw [if_pos h, decide_eq_false (by omega : ¬ x = y)]; rfl
  · rw [if_neg h]
    by_cases h2 : y < x
    · rw [if_pos h2, decide_eq_false (by omega : ¬ x = y)]; rfl
    · rw [if_neg h2, decide_eq_true (by omega : x = y)]; rfl
theorem rSame_ok (k k2 : Int) (a b : Rws) : FnOK Tryz.prog 17 [aggS (stR k a), aggS (stR k2 b)] [] (.bq (decide (k = k2) && decide (a = b))) [] := by
  by_cases hk : k = k2
  case neg =>
    rw [decide_eq_false hk]
    refine fn_ok T Tryz.func17 (by kernel_rfl) rfl rfl rfl rfl fun C hC => ?_
    repeat' first
      | refine g_go T hC true 400 rfl rfl ?_
      | (exfalso; simp [hk] at h; done)
      | (exfalso; have h2 := of_decide_eq_true h; simp [hk] at h2; done)
      | refine g_cond rfl (fun h => ?_) (fun h => ?_)
      | refine g_end T hC (by kernel_rfl) ?_
      | refine g_splitD (fun h => ?_) (fun h => ?_)
      | refine g_splitG rfl rfl rfl (fun h => ?_) (fun h => ?_)
      | refine g_splitP rfl rfl (fun h => ?_) (fun h => ?_)
      | refine g_retl T (.inl rfl) rfl ?_
    all_goals rfl
  subst hk
  rw [decide_eq_true rfl, Bool.true_and]
  by_cases hab : a.length = b.length
  case neg =>
    have hne : ¬ a = b := fun e => hab (by rw [e])
    rw [decide_eq_false hne]
    have hab' : ¬ (a.length : Int) = (b.length : Int) := by omega
    refine fn_ok T Tryz.func17 (by kernel_rfl) rfl rfl rfl rfl fun C hC => ?_
    repeat' first
      | refine g_go T hC true 400 rfl rfl ?_
      | (exfalso; simp [hab] at h; done)
      | (exfalso; first | (simp only [decide_eq_true_eq, decide_eq_false_iff_not, List.length_map, Bool.not_eq_true', Bool.not_eq_false'] at *; omega) | (simp at h; done))
      | (exfalso; simp at h; done)
      | refine g_cond rfl (fun h => ?_) (fun h => ?_)
      | refine g_end T hC (by kernel_rfl) ?_
      | refine g_splitD (fun h => ?_) (fun h => ?_)
      | refine g_splitG rfl rfl rfl (fun h => ?_) (fun h => ?_)
      | refine g_splitP rfl rfl (fun h => ?_) (fun h => ?_)
      | refine g_retl T (.inl rfl) rfl ?_
    all_goals rfl
  refine fn_ok T Tryz.func17 (by kernel_rfl) rfl rfl rfl rfl fun C hC => ?_
  refine g_lenA rfl 1 1 rfl rfl fun hlen => ?_
  rw [List.length_map] at hlen
  repeat' first
    | refine g_go T hC true 400 rfl rfl ?_
    | (exfalso; simp [hab] at h; done)
    | (exfalso; first | (simp only [decide_eq_true_eq, decide_eq_false_iff_not, List.length_map, Bool.not_eq_true', Bool.not_eq_false'] at *; omega) | (simp at h; done))
    | (exfalso; simp at h; done)
    | refine g_cond rfl (fun h => ?_) (fun h => ?_)
    | refine g_end T hC (by kernel_rfl) ?_
    | refine g_splitD (fun h => ?_) (fun h => ?_)
    | refine g_splitG rfl rfl rfl (fun h => ?_) (fun h => ?_)
    | refine g_splitP rfl rfl (fun h => ?_) (fun h => ?_)
  refine g_loop (fun i : Nat => i ≤ a.length ∧ a.take i = b.take i) (fun i => ([(2, .one (.bx 1002 0)), (3, .one (.bx 1003 0)), (5, I i)], [(1002, some (.box ((stR k a).map V.p))), (1003, some (.box ((stR k b).map V.p)))])) (fun i => a.length - i) hC
    0 ⟨Nat.zero_le _, by simp⟩ id ⟨rfl, ⟨rfl, rfl, rfl, trivial⟩, ⟨rfl, rfl, trivial⟩, rfl, fun _ _ => rfl⟩ ?_
  rintro i ⟨hi, hn⟩
  refine g_run' T hC true 200 rfl ?_
  refine g_cond rfl (fun h => ?_) (fun h => ?_)
  · have hlt : i < a.length := by simpa using h
    clear h
    obtain ⟨x, hx⟩ := exists_at hlt
    obtain ⟨y, hy⟩ := exists_at (hab ▸ hlt)
    repeat' first
      | refine g_go T hC true 400 rfl rfl ?_
      | refine g_cond rfl (fun h => ?_) (fun h => ?_)
      | refine g_end T hC (by kernel_rfl) ?_
      | refine g_splitD (fun h => ?_) (fun h => ?_)
      | refine g_splitG rfl rfl rfl (fun h => ?_) (fun h => ?_)
      | refine g_splitP rfl rfl (fun h => ?_) (fun h => ?_)
      | refine g_idx T hC rfl rfl rfl (Int.natCast_nonneg _) (map_at hx) rfl rfl ?_
      | refine g_idx T hC rfl rfl rfl (Int.natCast_nonneg _) (map_at hy) rfl rfl ?_
      | refine g_call hC (sameList_ok _ _) rfl rfl (LeSs.refl _) rfl rfl rfl ?_
      | refine g_outR ?_
      | refine g_retl T (.inl rfl) rfl ?_
    · have hxy : x ≠ y := by simpa using h
      exact (decide_eq_false fun e => hxy (by subst e; rw [hx] at hy; exact Option.some.inj hy)).symm
    · have hxy : x = y := by simpa using h
      subst hxy
      rw [wrapS (by omega)]
      exact g_round (i + 1) ⟨by omega, take_eqT hx hy hn⟩ id (by omega) ⟨rfl, ⟨rfl, rfl, rfl, trivial⟩, ⟨rfl, rfl, trivial⟩, rfl, fun _ _ => rfl⟩
  · have hge : ¬ i < a.length := by simpa using h
    repeat' first
      | refine g_go T hC true 400 rfl rfl ?_
      | refine g_cond rfl (fun h => ?_) (fun h => ?_)
      | refine g_end T hC (by kernel_rfl) ?_
      | refine g_splitD (fun h => ?_) (fun h => ?_)
      | refine g_splitG rfl rfl rfl (fun h => ?_) (fun h => ?_)
      | refine g_splitP rfl rfl (fun h => ?_) (fun h => ?_)
      | refine g_outE ?_
      | refine g_retl T (.inl rfl) rfl ?_
    rw [List.take_of_length_le (by omega), List.take_of_length_le (by omega)] at hn
    exact (decide_eq_true hn).symm
end Hw.Mq
namespace Hw.Mq
open Go Go.Proofs Hw.M

/-! models: forms; few, short -/
def emp (k : Int) : List PV := [ki k, .k (.slice none 0 0)]
theorem LeS.emp (k : Int) : LeS (aggS (emp k)) (aggS (stR k [])) := LeS.agg (.cons (.refl _) (.cons (.nil 1) .nil))
theorem new_ok {k : Int} (hk : 1 ≤ k ∧ k ≤ 6) : FnOK Tryz.prog 14 [I k] [] (.tup [aggS (stR k []), I 0]) [] := by
  have hW := words_ok hk
  have hne : (wordsL k).map wordR ≠ [] := by
    rcases kinds hk with rfl | rfl | rfl | rfl | rfl | rfl <;> decide
  refine fn_ok T Tryz.func14 (by kernel_rfl) rfl rfl rfl rfl fun C hC => ?_
  repeat' first
    | refine g_go T hC true 400 rfl rfl ?_
    | (exfalso; exact hne (hb h))
    | refine g_cond rfl (fun h => ?_) (fun h => ?_)
    | refine g_end T hC (by kernel_rfl) ?_
    | refine g_splitD (fun h => ?_) (fun h => ?_)
    | refine g_splitG rfl rfl rfl (fun h => ?_) (fun h => ?_)
    | refine g_splitP rfl rfl (fun h => ?_) (fun h => ?_)
    | refine g_call hC (hW) rfl rfl (LeSs.refl _) rfl rfl rfl ?_
    | (refine g_slnil (rows := (wordsL k).map wordR) (e := 3) (et := 64) rfl (by kernel_rfl) rfl (fun b hb => ?_))
  exact g_fin ⟨.inl rfl, id, _, rfl, LeS.tup (.cons (LeS.emp k) (.cons (.refl _) .nil)), trivial, rfl, rfl⟩
theorem new_no {k : Int} (hk : ¬(1 ≤ k ∧ k ≤ 6)) : FnOK Tryz.prog 14 [I k] [] (.tup [aggS (stR 0 []), I 1]) [] := by
  have hW := words_no hk
  refine fn_ok T Tryz.func14 (by kernel_rfl) rfl rfl rfl rfl fun C hC => ?_
  repeat' first
    | refine g_go T hC true 400 rfl rfl ?_
    | refine g_cond rfl (fun h => ?_) (fun h => ?_)
    | refine g_end T hC (by kernel_rfl) ?_
    | refine g_splitD (fun h => ?_) (fun h => ?_)
    | refine g_splitG rfl rfl rfl (fun h => ?_) (fun h => ?_)
    | refine g_splitP rfl rfl (fun h => ?_) (fun h => ?_)
    | refine g_call hC (hW) rfl rfl (LeSs.refl _) rfl rfl rfl ?_
    | (refine g_nilE hC rfl (et := 64) (by kernel_rfl) rfl rfl ?_)
  exact g_fin ⟨.inl rfl, id, _, rfl, LeS.tup (.cons (LeS.emp 0) (.cons (.refl _) .nil)), trivial, rfl, rfl⟩
theorem op_ok (c : Int) (l : List Int) : FnOK Tryz.prog 16 [I c, pS (intsP l)] [] (aggS (opR ⟨c, l⟩)) [] := by
  refine fn_ok T Tryz.func16 (by kernel_rfl) rfl rfl rfl rfl fun C hC => ?_
  repeat' first
    | refine g_go T hC true 400 rfl rfl ?_
    | refine g_cond rfl (fun h => ?_) (fun h => ?_)
    | refine g_end T hC (by kernel_rfl) ?_
    | refine g_splitD (fun h => ?_) (fun h => ?_)
    | refine g_splitG rfl rfl rfl (fun h => ?_) (fun h => ?_)
    | refine g_splitP rfl rfl (fun h => ?_) (fun h => ?_)
  exact g_fin ⟨.inl rfl, id, _, rfl, .refl _, trivial, rfl, rfl⟩
/-! few, short -/
def longO (o : OpT) : Bool := decide (70 < (o.args.length : Int))
theorem short1_ok (o : OpT) : FnOK Tryz.prog 20 [aggS (opR o)] [] (.bq (longO o)) [] := by
  refine fn_ok T Tryz.func20 (by kernel_rfl) rfl rfl rfl rfl fun C hC => ?_
  repeat' first
    | refine g_go T hC true 400 rfl rfl ?_
    | refine g_cond rfl (fun h => ?_) (fun h => ?_)
    | refine g_end T hC (by kernel_rfl) ?_
    | refine g_splitD (fun h => ?_) (fun h => ?_)
    | refine g_splitG rfl rfl rfl (fun h => ?_) (fun h => ?_)
    | refine g_splitP rfl rfl (fun h => ?_) (fun h => ?_)
    | refine g_retq T (.inl rfl) rfl ?_
    | refine g_retl T (.inl rfl) rfl ?_
  all_goals (try simp only [List.length_map] at *)
  all_goals first
    | rfl
    | (simp; done)
    | (simp_all; done)
    | (simp_all; omega)
    | (intros; simp_all <;> omega)
theorem opN_idx (f : FuncId)  (l : List OpT) (p : OpT → Unit → Bool) (nx : OpT → Unit → Unit) (inv : Unit → Prop)
    (hf : ∀ x ∈ l, ∀ s : Unit, inv s → FnOK Tryz.prog f [aggS (opR x)] [] (.bq (p x s)) ((fun s : Unit => []) (nx x s)) ∧ (p x s = false → inv (nx x s))) (s : Unit) (hs : inv s) :
    FnOK Tryz.prog 44 [pS (.sl 2 (l.map opR)), .one (.cl f [] [])] [] (I (idxR p nx l 0 s).1) ((fun s : Unit => []) (idxR p nx l 0 s).2) := by
  refine fn_ok T Tryz.func44 (by kernel_rfl) rfl rfl rfl rfl fun C hC => ?_
  have hs0 := hs
  refine g_len 0 rfl fun hl => ?_
  rw [List.length_map] at hl
  repeat' first
    | refine g_go T hC true 400 rfl rfl ?_
    | refine g_cond rfl (fun h => ?_) (fun h => ?_)
    | refine g_end T hC (by kernel_rfl) ?_
    | refine g_splitD (fun h => ?_) (fun h => ?_)
    | refine g_splitG rfl rfl rfl (fun h => ?_) (fun h => ?_)
    | refine g_splitP rfl rfl (fun h => ?_) (fun h => ?_)
  rw [List.length_map]
  refine g_loop (fun q : Nat × Unit => q.1 ≤ l.length ∧ inv q.2 ∧ idxR p nx (l.drop q.1) q.1 q.2 = idxR p nx l 0 s) (fun q => (fun s : Unit => ([(0, pS (.sl 2 (l.map opR))), (1, .one (.cl f [] [])), (7, I l.length), (8, I q.1)], [])) q.2) (fun q => l.length - q.1) hC
    (0, s) ⟨Nat.zero_le _, hs, rfl⟩ id ⟨rfl, ⟨rfl, rfl, rfl, rfl, trivial⟩, trivial, rfl, fun _ _ => rfl⟩ ?_
  generalize idxR p nx l 0 s = res
  clear hs hs0
  rintro ⟨i, s⟩ ⟨hi, hv, hn⟩
  simp only at hi hv hn
  refine g_run' T hC true 200 rfl ?_
  refine g_cond rfl (fun hh => ?_) (fun hh => ?_)
  · have hlt : i < l.length := by simpa using hh
    clear hh
    obtain ⟨x, hx⟩ := exists_at hlt
    rw [drop_at hx] at hn
    simp only [idxR] at hn
    have hv2 := (hf x (List.mem_of_getElem? hx) s hv).2
    repeat' first
      | refine g_go T hC true 400 rfl rfl ?_
      | refine g_cond rfl (fun h => ?_) (fun h => ?_)
      | refine g_end T hC (by kernel_rfl) ?_
      | refine g_splitD (fun h => ?_) (fun h => ?_)
      | refine g_splitG rfl rfl rfl (fun h => ?_) (fun h => ?_)
      | refine g_splitP rfl rfl (fun h => ?_) (fun h => ?_)
      | refine g_idx T hC rfl rfl rfl (Int.natCast_nonneg _) (map_at hx) rfl rfl ?_
      | refine g_callR hC (hf x (List.mem_of_getElem? hx) s hv).1 id rfl rfl (LeSs.refl _) rfl rfl rfl rfl rfl rfl rfl rfl ?_
      | refine g_outR ?_
    · rw [if_pos (by assumption)] at hn
      subst hn
      exact g_fin ⟨.inl rfl, id, _, rfl, .refl _, trivial, rfl, rfl⟩
    · have hpf : p x s = false := by assumption
      rw [hpf] at hn
      simp only [Bool.false_eq_true, if_false] at hn
      rw [wrap64 (by omega)]
      exact g_round (i + 1, nx x s) ⟨by simp only; omega, hv2 hpf, hn⟩ id (by simp only; omega) ⟨rfl, ⟨rfl, rfl, rfl, rfl, trivial⟩, trivial, rfl, fun _ _ => rfl⟩
  · have hge : ¬ i < l.length := by simpa using hh
    rw [List.drop_eq_nil_of_le (by omega)] at hn
    simp only [idxR] at hn
    subst hn
    repeat' first
      | refine g_go T hC true 400 rfl rfl ?_
      | refine g_cond rfl (fun h => ?_) (fun h => ?_)
      | refine g_end T hC (by kernel_rfl) ?_
      | refine g_splitD (fun h => ?_) (fun h => ?_)
      | refine g_splitG rfl rfl rfl (fun h => ?_) (fun h => ?_)
      | refine g_splitP rfl rfl (fun h => ?_) (fun h => ?_)
      | refine g_outE ?_
    exact g_fin ⟨.inl rfl, id, _, rfl, .refl _, trivial, rfl, rfl⟩
theorem opN_has (f : FuncId)  (l : List OpT) (p : OpT → Unit → Bool) (nx : OpT → Unit → Unit) (inv : Unit → Prop)
    (hf : ∀ x ∈ l, ∀ s : Unit, inv s → FnOK Tryz.prog f [aggS (opR x)] [] (.bq (p x s)) ((fun s : Unit => []) (nx x s)) ∧ (p x s = false → inv (nx x s))) (s : Unit) (hs : inv s) :
    FnOK Tryz.prog 19 [pS (.sl 2 (l.map opR)), .one (.cl f [] [])] [] (.bq (anyR p nx l s).1) ((fun s : Unit => []) (anyR p nx l s).2) := by
  refine fn_ok T Tryz.func19 (by kernel_rfl) rfl rfl rfl rfl fun C hC => ?_
  repeat' first
    | refine g_go T hC true 400 rfl rfl ?_
    | refine g_cond rfl (fun h => ?_) (fun h => ?_)
    | refine g_end T hC (by kernel_rfl) ?_
    | refine g_splitD (fun h => ?_) (fun h => ?_)
    | refine g_splitG rfl rfl rfl (fun h => ?_) (fun h => ?_)
    | refine g_splitP rfl rfl (fun h => ?_) (fun h => ?_)
    | refine g_callR hC (opN_idx f  l p nx inv hf s hs) (nm []) rfl rfl (LeSs.refl _) rfl rfl rfl rfl rfl rfl rfl rfl ?_
  exact g_fin ⟨.inl rfl, id, _, rfl, .qq (anyR_1 p nx l 0 s), by rw [← anyR_2 p nx l 0 s]; exact trivial, rfl, rfl⟩

theorem opN_any (f : FuncId) (l : List OpT) (p : OpT → Bool) (hf : ∀ x ∈ l, FnOK Tryz.prog f [aggS (opR x)] [] (.bq (p x)) []) : FnOK Tryz.prog 19 [pS (opsP l), .one (.cl f [] [])] [] (.bq (l.any p)) [] := by
  have := opN_has f l (fun x _ => p x) (fun _ s => s) (fun _ => True) (fun x hx s _ => ⟨hf x hx, fun _ => trivial⟩) () trivial
  rw [anyR_no] at this
  exact this
def shortB (l : List OpT) : Bool := decide ((l.length : Int) ≤ 40) && !l.any longO
theorem short_ok (l : List OpT) : FnOK Tryz.prog 6 [pS (opsP l)] [] (.bq (shortB l)) [] := by
  have hX := opN_any 20 l longO fun o _ => short1_ok o
  unfold shortB
  generalize l.any longO = q at hX ⊢
  refine fn_ok T Tryz.func6 (by kernel_rfl) rfl rfl rfl rfl fun C hC => ?_
  repeat' first
    | refine g_go T hC true 400 rfl rfl ?_
    | refine g_cond rfl (fun h => ?_) (fun h => ?_)
    | refine g_end T hC (by kernel_rfl) ?_
    | refine g_splitD (fun h => ?_) (fun h => ?_)
    | refine g_splitG rfl rfl rfl (fun h => ?_) (fun h => ?_)
    | refine g_splitP rfl rfl (fun h => ?_) (fun h => ?_)
    | refine g_call hC (hX) rfl rfl (LeSs.refl _) rfl rfl rfl ?_
    | refine g_retq T (.inl rfl) rfl ?_
    | refine g_retl T (.inl rfl) rfl ?_
  all_goals (clear hX; try simp only [List.length_map] at *)
  all_goals first
    | rfl
    | (simp; done)
    | (simp_all; done)
    | (simp_all; omega)
    | (intros; simp_all <;> omega)
def longR (r : Rw) : Bool := (decide (60 < (r.length : Int)) && decide ((r.length : Int) ≤ 500)) || decide (600 < (r.length : Int))
theorem rowN_idx (f : FuncId)  (l : List Rw) (p : Rw → Unit → Bool) (nx : Rw → Unit → Unit) (inv : Unit → Prop)
    (hf : ∀ x ∈ l, ∀ s : Unit, inv s → FnOK Tryz.prog f [pS (intsP x)] [] (.bq (p x s)) ((fun s : Unit => []) (nx x s)) ∧ (p x s = false → inv (nx x s))) (s : Unit) (hs : inv s) :
    FnOK Tryz.prog 102 [pS (.sl 1 (l.map rowR)), .one (.cl f [] [])] [] (I (idxR p nx l 0 s).1) ((fun s : Unit => []) (idxR p nx l 0 s).2) := by
  refine fn_ok T Tryz.func102 (by kernel_rfl) rfl rfl rfl rfl fun C hC => ?_
  have hs0 := hs
  refine g_len 0 rfl fun hl => ?_
  rw [List.length_map] at hl
  repeat' first
    | refine g_go T hC true 400 rfl rfl ?_
    | refine g_cond rfl (fun h => ?_) (fun h => ?_)
    | refine g_end T hC (by kernel_rfl) ?_
    | refine g_splitD (fun h => ?_) (fun h => ?_)
    | refine g_splitG rfl rfl rfl (fun h => ?_) (fun h => ?_)
    | refine g_splitP rfl rfl (fun h => ?_) (fun h => ?_)
  rw [List.length_map]
  refine g_loop (fun q : Nat × Unit => q.1 ≤ l.length ∧ inv q.2 ∧ idxR p nx (l.drop q.1) q.1 q.2 = idxR p nx l 0 s) (fun q => (fun s : Unit => ([(0, pS (.sl 1 (l.map rowR))), (1, .one (.cl f [] [])), (7, I l.length), (8, I q.1)], [])) q.2) (fun q => l.length - q.1) hC
    (0, s) ⟨Nat.zero_le _, hs, rfl⟩ id ⟨rfl, ⟨rfl, rfl, rfl, rfl, trivial⟩, trivial, rfl, fun _ _ => rfl⟩ ?_
  generalize idxR p nx l 0 s = res
  clear hs hs0
  rintro ⟨i, s⟩ ⟨hi, hv, hn⟩
  simp only at hi hv hn
  refine g_run' T hC true 200 rfl ?_
  refine g_cond rfl (fun hh => ?_) (fun hh => ?_)
  · have hlt : i < l.length := by simpa using hh
    clear hh
    obtain ⟨x, hx⟩ := exists_at hlt
    rw [drop_at hx] at hn
    simp only [idxR] at hn
    have hv2 := (hf x (List.mem_of_getElem? hx) s hv).2
    repeat' first
      | refine g_go T hC true 400 rfl rfl ?_
      | refine g_cond rfl (fun h => ?_) (fun h => ?_)
      | refine g_end T hC (by kernel_rfl) ?_
      | refine g_splitD (fun h => ?_) (fun h => ?_)
      | refine g_splitG rfl rfl rfl (fun h => ?_) (fun h => ?_)
      | refine g_splitP rfl rfl (fun h => ?_) (fun h => ?_)
      | refine g_idx T hC rfl rfl rfl (Int.natCast_nonneg _) (map_at hx) rfl rfl ?_
      | refine g_callR hC (hf x (List.mem_of_getElem? hx) s hv).1 id rfl rfl (LeSs.refl _) rfl rfl rfl rfl rfl rfl rfl rfl ?_
      | refine g_outR ?_
    · rw [if_pos (by assumption)] at hn
      subst hn
      exact g_fin ⟨.inl rfl, id, _, rfl, .refl _, trivial, rfl, rfl⟩
    · have hpf : p x s = false := by assumption
      rw [hpf] at hn
      simp only [Bool.false_eq_true, if_false] at hn
      rw [wrap64 (by omega)]
      exact g_round (i + 1, nx x s) ⟨by simp only; omega, hv2 hpf, hn⟩ id (by simp only; omega) ⟨rfl, ⟨rfl, rfl, rfl, rfl, trivial⟩, trivial, rfl, fun _ _ => rfl⟩
  · have hge : ¬ i < l.length := by simpa using hh
    rw [List.drop_eq_nil_of_le (by omega)] at hn
    simp only [idxR] at hn
    subst hn
    repeat' first
      | refine g_go T hC true 400 rfl rfl ?_
      | refine g_cond rfl (fun h => ?_) (fun h => ?_)
      | refine g_end T hC (by kernel_rfl) ?_
      | refine g_splitD (fun h => ?_) (fun h => ?_)
      | refine g_splitG rfl rfl rfl (fun h => ?_) (fun h => ?_)
      | refine g_splitP rfl rfl (fun h => ?_) (fun h => ?_)
      | refine g_outE ?_
    exact g_fin ⟨.inl rfl, id, _, rfl, .refl _, trivial, rfl, rfl⟩
def fewB (R : Rws) : Bool := (decide ((R.length : Int) ≤ 60) || (decide (500 < (R.length : Int)) && decide ((R.length : Int) < 600))) && !R.any longR
end Hw.Mq
namespace Hw.Mq
open Go Go.Proofs Hw.M

/-! models: the reference's ValidOp, ValidAll -/
def pk (k : Int) (x : Int) : Bool := numB x && !(decide (k = 6) && (decide (x < 0) || decide (255 < x)))
theorem pk_six (x : Int) : pk 6 x = chrB x := by
  unfold pk chrB numB
  rw [decide_eq_true rfl, Bool.true_and]
  by_cases h0 : 0 ≤ x
  · by_cases h1 : x ≤ 255
    · rw [decide_eq_true (by omega : -1048576 ≤ x), decide_eq_true (by omega : x ≤ 1048576), decide_eq_true h0, decide_eq_true h1, decide_eq_false (by omega : ¬ x < 0), decide_eq_false (by omega : ¬ 255 < x)]; rfl
    · rw [decide_eq_false h1, decide_eq_true (by omega : 255 < x)]; simp
  · rw [decide_eq_false h0, decide_eq_true (by omega : x < 0)]; simp
theorem pk_not {k : Int} (h : k ≠ 6) (x : Int) : pk k x = numB x := by unfold pk; rw [decide_eq_false h]; simp
theorem pk_t {k x : Int} (h1 : (!numB x) = false) (h2 : k = 6 → decide (x < 0) = false ∧ decide (255 < x) = false) : pk k x = true := by
  unfold pk
  by_cases hk : k = 6
  · rw [(h2 hk).1, (h2 hk).2]; simpa using h1
  · rw [decide_eq_false hk]; simpa using h1
theorem pk_f {k x : Int} (h : (!numB x) = true ∨ decide (k = 6) = true ∧ (decide (x < 0) = true ∨ decide (255 < x) = true)) : pk k x = false := by
  unfold pk
  rcases h with h | ⟨h1, h | h⟩
  · rw [show numB x = false by simpa using h]; rfl
  · rw [h1, h]; simp
  · rw [h1, h]; simp
theorem words_ar {k : Int} (hk : 1 ≤ k ∧ k ≤ 6) {i : Nat} {w : Str × Int × Bool} (h : (wordsL k)[i]? = some w) : (k = 6 ∧ (w.2.1 = -1 ∨ w.2.1 = 0)) ∨ (k ≠ 6 ∧ 0 ≤ w.2.1 ∧ w.2.1 ≤ 4) := by
  have hm := List.mem_of_getElem? h
  clear h
  revert w
  rcases kinds hk with rfl | rfl | rfl | rfl | rfl | rfl <;> decide
theorem okOp_all {k c : Int} {ags : List Int} (hk : 1 ≤ k ∧ k ≤ 6) (hc : 1 ≤ c) {w : Str × Int × Bool} (hw : (wordsL k)[(c - 1).toNat]? = some w) :
    okOp k ⟨c, ags⟩ = (decide (ags.length ≤ 64) && !((decide (0 ≤ w.2.1) && !decide ((ags.length : Int) = w.2.1)) || (decide (w.2.1 < 0) && decide (ags.length = 0))) && ags.all (pk k)) := by
  unfold okOp
  simp only [hw]
  rw [decide_eq_true hc, Bool.true_and]
  rcases words_ar hk hw with ⟨rfl, h | h⟩ | ⟨h6, h0, h4⟩
  · rw [show (pk 6) = chrB from funext pk_six, h]
    by_cases h1 : ags.length = 0
    · have : ags = [] := List.length_eq_zero_iff.1 h1
      subst this; rfl
    · simp [h1]
      by_cases h2 : ags.length ≤ 64
      · have : 1 ≤ ags.length := by omega
        simp [h2, this]
      · simp [h2]
  · rw [h]
    by_cases h1 : ags.length = 0
    · have : ags = [] := List.length_eq_zero_iff.1 h1
      subst this; rfl
    · have : ags ≠ [] := fun e => h1 (by rw [e]; rfl)
      simp [this]
  · rw [show (pk k) = numB from funext (pk_not h6), if_neg (by omega)]
    by_cases h1 : (ags.length : Int) = w.2.1
    · rw [decide_eq_true h1, decide_eq_true (by omega : ags.length ≤ 64), decide_eq_true h0, decide_eq_false (by omega : ¬ w.2.1 < 0)]; simp
    · rw [decide_eq_false h1, decide_eq_true h0]; simp
theorem rValidOp_ok (k : Int) (o : OpT) : FnOK Tryz.prog 9 [I k, aggS (opR o)] [] (.bq (okOp k o)) [] := by
  obtain ⟨c, ags⟩ := o
  by_cases hk : 1 ≤ k ∧ k ≤ 6
  case neg =>
    rw [show okOp k ⟨c, ags⟩ = false by unfold okOp; rw [wordsL_no hk]; simp]
    refine fn_ok T Tryz.func9 (by kernel_rfl) rfl rfl rfl rfl fun C hC => ?_
    repeat' first
      | refine g_go T hC true 400 rfl rfl ?_
      | (exfalso; first | (simp only [decide_eq_true_eq, decide_eq_false_iff_not, List.length_map, Bool.not_eq_true', Bool.not_eq_false'] at *; omega) | (simp at h; done))
      | refine g_cond rfl (fun h => ?_) (fun h => ?_)
      | refine g_end T hC (by kernel_rfl) ?_
      | refine g_splitD (fun h => ?_) (fun h => ?_)
      | refine g_splitG rfl rfl rfl (fun h => ?_) (fun h => ?_)
      | refine g_splitP rfl rfl (fun h => ?_) (fun h => ?_)
      | refine g_retq T (.inl rfl) rfl ?_
      | refine g_retl T (.inl rfl) rfl ?_
    all_goals rfl
  have hW := rWords_ok hk
  have hnl := names_len (k := k)
  have h8 := words_len (k := k)
  by_cases hc : 1 ≤ c
  case neg =>
    rw [show okOp k ⟨c, ags⟩ = false by unfold okOp; simp [hc]]
    refine fn_ok T Tryz.func9 (by kernel_rfl) rfl rfl rfl rfl fun C hC => ?_
    repeat' first
      | refine g_go T hC true 400 rfl rfl ?_
      | (exfalso; first | (simp only [decide_eq_true_eq, decide_eq_false_iff_not, List.length_map, Bool.not_eq_true', Bool.not_eq_false'] at *; omega) | (simp at h; done))
      | refine g_cond rfl (fun h => ?_) (fun h => ?_)
      | refine g_end T hC (by kernel_rfl) ?_
      | refine g_splitD (fun h => ?_) (fun h => ?_)
      | refine g_splitG rfl rfl rfl (fun h => ?_) (fun h => ?_)
      | refine g_splitP rfl rfl (fun h => ?_) (fun h => ?_)
      | refine g_call hC (hW) rfl rfl (LeSs.refl _) rfl rfl rfl ?_
      | refine g_retq T (.inl rfl) rfl ?_
      | refine g_retl T (.inl rfl) rfl ?_
    all_goals rfl
  cases hw : (wordsL k)[(c - 1).toNat]? with
  | none =>
    have hge := List.getElem?_eq_none_iff.1 hw
    rw [show okOp k ⟨c, ags⟩ = false by unfold okOp; simp only [hw, Bool.and_false]]
    refine fn_ok T Tryz.func9 (by kernel_rfl) rfl rfl rfl rfl fun C hC => ?_
    repeat' first
      | refine g_go T hC true 400 rfl rfl ?_
      | (exfalso; first | (simp only [decide_eq_true_eq, decide_eq_false_iff_not, List.length_map, Bool.not_eq_true', Bool.not_eq_false'] at *; omega) | (simp at h; done))
      | refine g_cond rfl (fun h => ?_) (fun h => ?_)
      | refine g_end T hC (by kernel_rfl) ?_
      | refine g_splitD (fun h => ?_) (fun h => ?_)
      | refine g_splitG rfl rfl rfl (fun h => ?_) (fun h => ?_)
      | refine g_splitP rfl rfl (fun h => ?_) (fun h => ?_)
      | refine g_call hC (hW) rfl rfl (LeSs.refl _) rfl rfl rfl ?_
      | refine g_retq T (.inl rfl) rfl ?_
      | refine g_retl T (.inl rfl) rfl ?_
    all_goals rfl
  | some w =>
    have hlt := (List.getElem?_eq_some_iff.1 hw).1
    have hA := rArity_ok hk hc hw
    rw [okOp_all hk hc hw]
    obtain ⟨s, a, u⟩ := w
    simp only at hA
    simp only
    refine fn_ok T Tryz.func9 (by kernel_rfl) rfl rfl rfl rfl fun C hC => ?_
    refine g_lenA rfl 1 1 rfl rfl fun hlen => ?_
    rw [List.length_map] at hlen
    simp only at hlen
    repeat' first
      | refine g_go T hC true 400 rfl rfl ?_
      | (exfalso; first | (simp only [decide_eq_true_eq, decide_eq_false_iff_not, List.length_map, Bool.not_eq_true', Bool.not_eq_false'] at *; omega) | (simp at h; done))
      | refine g_cond rfl (fun h => ?_) (fun h => ?_)
      | refine g_end T hC (by kernel_rfl) ?_
      | refine g_splitD (fun h => ?_) (fun h => ?_)
      | refine g_splitG rfl rfl rfl (fun h => ?_) (fun h => ?_)
      | refine g_splitP rfl rfl (fun h => ?_) (fun h => ?_)
      | refine g_call hC (hW) rfl rfl (LeSs.refl _) rfl rfl rfl ?_
      | refine g_call hC (hA) rfl rfl (LeSs.refl _) rfl rfl rfl ?_
      | refine g_retl T (.inl rfl) rfl ?_
    any_goals (clear hW hA; (try simp only [List.length_map] at *); first | rfl | (simp; done) | (simp_all; done) | (simp_all; omega))
    all_goals
      clear hA hW hw hnl h8 hlt hk hc
      refine g_loop (fun i : Nat => i ≤ (ags).length ∧ (ags.take i).all (pk k) = true) (fun i => ([(0, I k), (3, .one (.bx 1003 0)), (6, I i)], [(1003, some (.box ((opR ⟨c, ags⟩).map V.p)))])) (fun i => (ags).length - i) hC
        0 ⟨Nat.zero_le _, by simp⟩ id ⟨rfl, ⟨rfl, rfl, rfl, trivial⟩, ⟨rfl, trivial⟩, rfl, fun _ _ => rfl⟩ ?_
      rintro i ⟨hi, hn⟩
      refine g_run' T hC true 200 rfl ?_
      refine g_cond rfl (fun h => ?_) (fun h => ?_)
      · have hlt : i < ags.length := by simpa using h
        clear h
        obtain ⟨x, hx⟩ := exists_at hlt
        repeat' first
          | refine g_go T hC true 400 rfl rfl ?_
          | refine g_cond rfl (fun h => ?_) (fun h => ?_)
          | refine g_end T hC (by kernel_rfl) ?_
          | refine g_splitD (fun h => ?_) (fun h => ?_)
          | refine g_splitG rfl rfl rfl (fun h => ?_) (fun h => ?_)
          | refine g_splitP rfl rfl (fun h => ?_) (fun h => ?_)
          | refine g_idx T hC rfl rfl rfl (Int.natCast_nonneg _) (map_at (by assumption)) rfl rfl ?_
          | refine g_call hC (key_ok _) rfl rfl (LeSs.refl _) rfl rfl rfl ?_
          | refine g_outR ?_
          | refine g_retl T (.inl rfl) rfl ?_
        all_goals first
          | (have hp := pk_t (k := k) (x := x) (by assumption) (fun hk6 => by first | exact ⟨by assumption, by assumption⟩ | exact absurd hk6 (of_decide_eq_false (by assumption)))
             rw [wrap64 (by omega)]
             refine g_round (i + 1) ⟨by omega, ?_⟩ id (by omega) ⟨rfl, ⟨rfl, rfl, rfl, trivial⟩, ⟨rfl, trivial⟩, rfl, fun _ _ => rfl⟩
             rw [all_take (p := pk k) hx, hn, Bool.true_and]; exact hp)
          | (have hp : pk k x = false := pk_f (by first | exact .inl (by assumption) | exact .inr ⟨by assumption, .inl (by assumption)⟩ | exact .inr ⟨by assumption, .inr (by assumption)⟩)
             rw [all_no (p := pk k) hx hp, Bool.and_false])
      have hge : ¬ i < ags.length := by simpa using h
      have hall : ags.all (pk k) = true := all_end (p := pk k) (by omega) hn
      clear h hge hn hi
      repeat' first
        | refine g_go T hC true 400 rfl rfl ?_
        | refine g_cond rfl (fun h => ?_) (fun h => ?_)
        | refine g_end T hC (by kernel_rfl) ?_
        | refine g_splitD (fun h => ?_) (fun h => ?_)
        | refine g_splitG rfl rfl rfl (fun h => ?_) (fun h => ?_)
        | refine g_splitP rfl rfl (fun h => ?_) (fun h => ?_)
        | refine g_outE ?_
        | refine g_retl T (.inl rfl) rfl ?_
      rw [hall]
      simp only [List.length_map] at *
      simp_all
      try omega
end Hw.Mq
