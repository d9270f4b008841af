/- The engine and the contracts. -/
import Derived.Test.YtnijeifpjjeccaaC13
set_option linter.unusedVariables false
set_option linter.unusedSimpArgs false
namespace Hw.Mo
open Go Go.Proofs Go.Shelf Hw.M

/-! models: the chapter's example; queries -/
def awkL : List OpT := [⟨1, [3, 10]⟩, ⟨1, [1, 7]⟩, ⟨1, [3, 11]⟩, ⟨7, [1]⟩, ⟨6, [3]⟩, ⟨4, [2]⟩, ⟨4, [0]⟩]
def awkR : List RsT := [⟨0, 0⟩, ⟨0, 0⟩, ⟨0, 1⟩, ⟨0, 3⟩, ⟨0, 1⟩, ⟨0, 1⟩, ⟨12, 0⟩]
theorem awake_ok : FnOK Try.prog 11 [] [] (.bq true) [] := by
  have hN := new_ok (k := 1) (by decide)
  have hRun := mRun_yes 1 [] awkL (by decide) (by decide) (by decide)
  have e : runS 1 [] awkL = ([[1, 7], [3, 11]], awkR) := by decide
  rw [e] at hRun
  have hS := rSame_ok 1 1 [[1, 7], [3, 11]] [[1, 7], [3, 11]]
  have e2 : (decide ((1 : Int) = 1) && decide (([[1, 7], [3, 11]] : Rws) = [[1, 7], [3, 11]])) = true := by decide
  rw [e2] at hS
  have hQ := sameResults_ok awkR awkR
  rw [decide_eq_true (rfl : awkR = awkR)] at hQ
  refine fn_ok T Try.func11 (by kernel_rfl) rfl rfl rfl rfl fun C hC => ?_
  repeat' first
    | refine g_go T hC true 400 rfl rfl ?_
    | (exfalso; simp at h; done)
    | refine g_cond rfl (fun h => ?_) (fun h => ?_)
    | refine g_end T hC (by kernel_rfl) ?_
    | refine g_splitD (fun h => ?_) (fun h => ?_)
    | refine g_splitG rfl rfl rfl (fun h => ?_) (fun h => ?_)
    | refine g_splitP rfl rfl (fun h => ?_) (fun h => ?_)
    | refine g_call hC (hN) rfl rfl (LeSs.refl _) rfl rfl rfl ?_
    | refine g_lit T hC rfl rfl rfl rfl rfl rfl rfl rfl rfl ?_
    | refine g_call hC (op_ok 1 [3, 10]) rfl rfl (LeSs.refl _) rfl rfl rfl ?_
    | refine g_call hC (op_ok 1 [1, 7]) rfl rfl (LeSs.refl _) rfl rfl rfl ?_
    | refine g_call hC (op_ok 1 [3, 11]) rfl rfl (LeSs.refl _) rfl rfl rfl ?_
    | refine g_call hC (op_ok 7 [1]) rfl rfl (LeSs.refl _) rfl rfl rfl ?_
    | refine g_call hC (op_ok 6 [3]) rfl rfl (LeSs.refl _) rfl rfl rfl ?_
    | refine g_call hC (op_ok 4 [2]) rfl rfl (LeSs.refl _) rfl rfl rfl ?_
    | refine g_call hC (op_ok 4 [0]) rfl rfl (LeSs.refl _) rfl rfl rfl ?_
    | refine g_call hC (hRun) rfl rfl (LeSs.refl _) rfl rfl rfl ?_
    | refine g_call hC (hS) rfl rfl (LeSs.refl _) rfl rfl rfl ?_
    | refine g_call hC (hQ) rfl rfl (LeSs.refl _) rfl rfl rfl ?_
  all_goals exact g_fin ⟨.inl rfl, id, _, rfl, by first | exact .refl _ | exact LeS.qb rfl, trivial, rfl, rfl⟩
theorem ask_ok (k : Int) (R : Rws) (c : Int) (l : List Int) (x : RsT) (hv : validS k R = true) (ho : okOp k ⟨c, l⟩ = true) (he : stepS k R ⟨c, l⟩ = (R, x)) :
    FnOK Try.prog 16 [aggS (stR k R), I c, pS (intsP l)] [] (.tup [aggS (rsR x), .bq true]) [] := by
  have hA := mApply_yes k R ⟨c, l⟩ hv ho
  rw [he] at hA
  have hS := mSame_ok k k R R
  rw [show (decide (k = k) && decide (R = R)) = true by simp] at hS
  have hO := op_ok c l
  refine fn_ok T Try.func16 (by kernel_rfl) rfl rfl rfl rfl fun C hC => ?_
  repeat' first
    | refine g_go T hC true 400 rfl rfl ?_
    | (exfalso; simp at h; done)
    | refine g_cond rfl (fun h => ?_) (fun h => ?_)
    | refine g_end T hC (by kernel_rfl) ?_
    | refine g_splitD (fun h => ?_) (fun h => ?_)
    | refine g_splitG rfl rfl rfl (fun h => ?_) (fun h => ?_)
    | refine g_splitP rfl rfl (fun h => ?_) (fun h => ?_)
    | refine g_call hC (hO) rfl rfl (LeSs.refl _) rfl rfl rfl ?_
    | refine g_call hC (hA) rfl rfl (LeSs.refl _) rfl rfl rfl ?_
    | refine g_call hC (hS) rfl rfl (LeSs.refl _) rfl rfl rfl ?_
  all_goals exact g_fin ⟨.inl rfl, id, _, rfl, by first | exact .refl _ | exact LeS.tup (.cons (.refl _) (.cons (LeS.qb rfl) .nil)), trivial, rfl, rfl⟩
end Hw.Mo
namespace Hw.Mo
open Go Go.Proofs Go.Shelf Hw.M

/-! models: queries, and operations that fail, change nothing -/
def Qt (u : Bool) (R : Rws) (z : Rws × RsT) : Prop := (z.2.e ≠ 0 → z.2.n = 0) ∧ (u = false ∨ z.2.e ≠ 0 → z.1 = R)
theorem Qt.ok (u : Bool) (R : Rws) (n : Int) : Qt u R (R, okR n) := ⟨fun h => absurd rfl h, fun _ => rfl⟩
theorem Qt.er (u : Bool) (R : Rws) (e : Int) : Qt u R (R, erR e) := ⟨fun _ => rfl, fun _ => rfl⟩
theorem Qt.up (R R' : Rws) (n : Int) : Qt true R (R', okR n) := ⟨fun h => absurd rfl h, fun h => h.elim (fun h => by cases h) fun h => absurd rfl h⟩
set_option maxHeartbeats 2000000 in
theorem dict_quiet {R : Rws} {o : OpT} (ho : okOp 1 o = true) {w : Str × Int × Bool} (hw : (wordsL 1)[(o.code - 1).toNat]? = some w) : Qt w.2.2 R (dictS R o) := by
  rcases op1 ho with rfl | ⟨a, hc, ha⟩ | ⟨a, b, rfl, ha, hb⟩
  · obtain rfl := Option.some.inj hw; exact Qt.ok ..
  · rcases hc with rfl | rfl | rfl | rfl | rfl | rfl <;> obtain rfl := Option.some.inj hw
    all_goals (simp only [dictS]; repeat' first | (rename_i hx; first | exact absurd trivial hx | exact absurd hx (by omega)) | exact Qt.ok .. | exact Qt.er .. | exact Qt.up .. | split)
  · obtain rfl := Option.some.inj hw
    simp only [dictS]; repeat' first | (rename_i hx; first | exact absurd trivial hx | exact absurd hx (by omega)) | exact Qt.ok .. | exact Qt.er .. | exact Qt.up .. | split
theorem heap_quiet {R : Rws} {o : OpT} (ho : okOp 2 o = true) {w : Str × Int × Bool} (hw : (wordsL 2)[(o.code - 1).toNat]? = some w) : Qt w.2.2 R (heapS R o) := by
  rcases op2 ho with ⟨a, rfl, ha⟩ | rfl | rfl | rfl <;> obtain rfl := Option.some.inj hw
  all_goals (simp only [heapS]; repeat' first | (rename_i hx; first | exact absurd trivial hx | exact absurd hx (by omega)) | exact Qt.ok .. | exact Qt.er .. | exact Qt.up .. | split)
set_option maxHeartbeats 2000000 in
theorem seq_quiet {R : Rws} {o : OpT} (ho : okOp 3 o = true) {w : Str × Int × Bool} (hw : (wordsL 3)[(o.code - 1).toNat]? = some w) : Qt w.2.2 R (seqS R o) := by
  rcases op3 ho with ⟨a, b, hc, ha, hb⟩ | ⟨a, hc, ha⟩ | rfl
  · rcases hc with rfl | rfl | rfl | rfl <;> obtain rfl := Option.some.inj hw
    all_goals (simp only [seqS]; repeat' first | (rename_i hx; first | exact absurd trivial hx | exact absurd hx (by omega)) | exact Qt.ok .. | exact Qt.er .. | exact Qt.up .. | split)
  · rcases hc with rfl | rfl <;> obtain rfl := Option.some.inj hw
    all_goals (simp only [seqS]; repeat' first | (rename_i hx; first | exact absurd trivial hx | exact absurd hx (by omega)) | exact Qt.ok .. | exact Qt.er .. | exact Qt.up .. | split)
  · obtain rfl := Option.some.inj hw
    exact Qt.ok ..
theorem sets_quiet {R : Rws} {o : OpT} (ho : okOp 4 o = true) {w : Str × Int × Bool} (hw : (wordsL 4)[(o.code - 1).toNat]? = some w) : Qt w.2.2 R (setsS R o) := by
  rcases op4 ho with rfl | ⟨x, y, hc, hx, hy⟩ | ⟨x, rfl, hx⟩ | rfl
  · obtain rfl := Option.some.inj hw
    simp only [setsS]; repeat' first | (rename_i hx; first | exact absurd trivial hx | exact absurd hx (by omega)) | exact Qt.ok .. | exact Qt.er .. | exact Qt.up .. | split
  · rcases hc with rfl | rfl <;> obtain rfl := Option.some.inj hw
    all_goals (simp only [setsS]; repeat' first | (rename_i hx; first | exact absurd trivial hx | exact absurd hx (by omega)) | exact Qt.ok .. | exact Qt.er .. | exact Qt.up .. | split)
  · obtain rfl := Option.some.inj hw
    simp only [setsS]; repeat' first | (rename_i hx; first | exact absurd trivial hx | exact absurd hx (by omega)) | exact Qt.ok .. | exact Qt.er .. | exact Qt.up .. | split
  · obtain rfl := Option.some.inj hw
    exact Qt.ok ..
theorem points_quiet {R : Rws} {o : OpT} (ho : okOp 5 o = true) {w : Str × Int × Bool} (hw : (wordsL 5)[(o.code - 1).toNat]? = some w) : Qt w.2.2 R (pointsS R o) := by
  rcases op5 ho with ⟨a, b, v, rfl, ha, hb, hv⟩ | ⟨a, b, rfl, ha, hb⟩ | ⟨a, b, c, d, hc, ha, hb, hc2, hd⟩ | rfl
  · obtain rfl := Option.some.inj hw
    simp only [pointsS]; repeat' first | (rename_i hx; first | exact absurd trivial hx | exact absurd hx (by omega)) | exact Qt.ok .. | exact Qt.er .. | exact Qt.up .. | split
  · obtain rfl := Option.some.inj hw
    simp only [pointsS]; repeat' first | (rename_i hx; first | exact absurd trivial hx | exact absurd hx (by omega)) | exact Qt.ok .. | exact Qt.er .. | exact Qt.up .. | split
  · rcases hc with rfl | rfl <;> obtain rfl := Option.some.inj hw <;> exact Qt.ok ..
  · obtain rfl := Option.some.inj hw; exact Qt.ok ..
theorem text_quiet {R : Rws} {o : OpT} (ho : okOp 6 o = true) {w : Str × Int × Bool} (hw : (wordsL 6)[(o.code - 1).toNat]? = some w) : Qt w.2.2 R (textS R o) := by
  rcases op6 ho with ⟨p, hc, hp, hn⟩ | rfl
  · rcases hc with rfl | rfl | rfl <;> obtain rfl := Option.some.inj hw
    all_goals (simp only [textS]; repeat' first | (rename_i hx; first | exact absurd trivial hx | exact absurd hx (by omega)) | exact Qt.ok .. | exact Qt.er .. | exact Qt.up .. | split)
  · obtain rfl := Option.some.inj hw; exact Qt.ok ..
theorem quiet {k : Int} {R : Rws} {o : OpT} (hv : validS k R = true) (ho : okOp k o = true) {w : Str × Int × Bool} (hw : (wordsL k)[(o.code - 1).toNat]? = some w) : Qt w.2.2 R (stepS k R o) := by
  rcases (valid_kind hv).2 with rfl | rfl | rfl | rfl | rfl | rfl
  · exact dict_quiet ho hw
  · exact heap_quiet ho hw
  · exact seq_quiet ho hw
  · exact sets_quiet ho hw
  · exact points_quiet ho hw
  · exact text_quiet ho hw
theorem upd_any {k : Int} (hk : 1 ≤ k ∧ k ≤ 6) (c : Int) : ∃ u e, FnOK Try.prog 26 [I k, I c] [] (.tup [.bq u, I e]) [] := by
  by_cases hc : c < 1 ∨ ((wordsL k).length : Int) < c
  · exact ⟨_, _, isUpdate_out hk hc⟩
  · exact ⟨_, _, isUpdate_ok hk (by omega) (List.getElem?_eq_getElem (by omega : (c - 1).toNat < (wordsL k).length))⟩
theorem quiet_out (k : Int) (l : List OpT) (h0 : shortB l = false ∨ ¬ (1 ≤ k ∧ k ≤ 6)) : FnOK Try.prog 10 [I k, pS (opsP l)] [] (.bq true) [] := by
  have hL := short_ok l
  cases hs : shortB l with
  | false =>
    rw [hs] at hL
    refine fn_ok T Try.func10 (by kernel_rfl) rfl rfl rfl rfl fun C hC => ?_
    repeat' first
      | refine g_go T hC true 400 rfl rfl ?_
      | (exfalso; simp at h; done)
      | refine g_cond rfl (fun h => ?_) (fun h => ?_)
      | refine g_end T hC (by kernel_rfl) ?_
      | refine g_splitD (fun h => ?_) (fun h => ?_)
      | refine g_splitG rfl rfl rfl (fun h => ?_) (fun h => ?_)
      | refine g_splitP rfl rfl (fun h => ?_) (fun h => ?_)
      | refine g_call hC (awake_ok) rfl rfl (LeSs.refl _) rfl rfl rfl ?_
      | refine g_call hC (hL) rfl rfl (LeSs.refl _) rfl rfl rfl ?_
    all_goals exact g_fin ⟨.inl rfl, id, _, rfl, .refl _, trivial, rfl, rfl⟩
  | true =>
    have hk := h0.resolve_left (by rw [hs]; decide)
    rw [hs] at hL
    refine fn_ok T Try.func10 (by kernel_rfl) rfl rfl rfl rfl fun C hC => ?_
    repeat' first
      | refine g_go T hC true 400 rfl rfl ?_
      | (exfalso; simp at h; done)
      | (exfalso; first | (simp only [decide_eq_true_eq, decide_eq_false_iff_not, List.length_map, Bool.not_eq_true', Bool.not_eq_false'] at *; omega) | (simp at h; done))
      | refine g_cond rfl (fun h => ?_) (fun h => ?_)
      | refine g_end T hC (by kernel_rfl) ?_
      | refine g_splitD (fun h => ?_) (fun h => ?_)
      | refine g_splitG rfl rfl rfl (fun h => ?_) (fun h => ?_)
      | refine g_splitP rfl rfl (fun h => ?_) (fun h => ?_)
      | refine g_call hC (awake_ok) rfl rfl (LeSs.refl _) rfl rfl rfl ?_
      | refine g_call hC (hL) rfl rfl (LeSs.refl _) rfl rfl rfl ?_
    all_goals exact g_fin ⟨.inl rfl, id, _, rfl, .refl _, trivial, rfl, rfl⟩
theorem modelQuiet_ok (k : Int) (l : List OpT) : FnOK Try.prog 10 [I k, pS (opsP l)] [] (.bq true) [] := by
  by_cases h0 : shortB l = false ∨ ¬ (1 ≤ k ∧ k ≤ 6)
  · exact quiet_out k l h0
  have hk : 1 ≤ k ∧ k ≤ 6 := Classical.not_not.1 fun h => h0 (.inr h)
  have hs : shortB l = true := by
    cases hs : shortB l with
    | true => rfl
    | false => exact absurd (.inl hs) h0
  have hl40 : l.length ≤ 40 := by
    unfold shortB at hs
    simp only [Bool.and_eq_true, decide_eq_true_eq] at hs
    omega
  have hL := short_ok l
  rw [hs] at hL
  have hN := new_ok hk
  have hv0 : validS k [] = true := by rcases kinds hk with rfl | rfl | rfl | rfl | rfl | rfl <;> decide
  refine fn_ok T Try.func10 (by kernel_rfl) rfl rfl rfl rfl fun C hC => ?_
  repeat' first
    | refine g_go T hC true 400 rfl rfl ?_
    | (exfalso; simp at h; done)
    | (exfalso; first | (simp only [decide_eq_true_eq, decide_eq_false_iff_not, List.length_map, Bool.not_eq_true', Bool.not_eq_false'] at *; omega) | (simp at h; done))
    | refine g_cond rfl (fun h => ?_) (fun h => ?_)
    | refine g_end T hC (by kernel_rfl) ?_
    | refine g_splitD (fun h => ?_) (fun h => ?_)
    | refine g_splitG rfl rfl rfl (fun h => ?_) (fun h => ?_)
    | refine g_splitP rfl rfl (fun h => ?_) (fun h => ?_)
    | refine g_call hC (awake_ok) rfl rfl (LeSs.refl _) rfl rfl rfl ?_
    | refine g_call hC (hL) rfl rfl (LeSs.refl _) rfl rfl rfl ?_
    | refine g_call hC (hN) rfl rfl (LeSs.refl _) rfl rfl rfl ?_
  rw [List.length_map]
  refine g_loop (fun p : Nat × Rws => p.1 ≤ l.length ∧ validS k p.2 = true) (fun p => ([(0, I k), (5, .one (.bx 1005 0)), (37, pS (opsP l)), (38, I l.length), (39, I p.1)], [(1005, some (.box [.p (ki k), .p (rowsP p.2)]))])) (fun p => l.length - p.1) hC
    (0, []) ⟨Nat.zero_le _, hv0⟩ id ⟨rfl, ⟨rfl, rfl, rfl, rfl, rfl, trivial⟩, ⟨rfl, trivial⟩, rfl, fun _ _ => rfl⟩ ?_
  rintro ⟨i, R⟩ ⟨hi, hv⟩
  simp only at hi hv
  have hV := valid_lens hv
  refine g_run' T hC true 200 rfl ?_
  refine g_cond rfl (fun h => ?_) (fun h => ?_)
  · have hlt : i < l.length := by have := of_decide_eq_true h; omega
    clear h
    obtain ⟨o, ho⟩ := exists_at hlt
    cases hok : okOp k o with
    | false =>
      have hA := mApply_no k R o (fun r hr => by have := hV.2 r hr; omega) (by omega) (.inr hok)
      obtain ⟨u, e, hU⟩ := upd_any hk o.code
      have hO := validOp_ok k o
      rw [hok] at hO
      repeat' first
        | refine g_go T hC true 400 rfl rfl ?_
        | (exfalso; simp at h; done)
        | refine g_cond rfl (fun h => ?_) (fun h => ?_)
        | refine g_end T hC (by kernel_rfl) ?_
        | refine g_splitD (fun h => ?_) (fun h => ?_)
        | refine g_splitG rfl rfl rfl (fun h => ?_) (fun h => ?_)
        | refine g_splitP rfl rfl (fun h => ?_) (fun h => ?_)
        | refine g_idx T hC rfl rfl rfl (Int.natCast_nonneg _) (map_at ho) rfl rfl ?_
        | refine g_call hC (hA) rfl rfl (LeSs.refl _) rfl rfl rfl ?_
        | refine g_call hC (hU) rfl rfl (LeSs.refl _) rfl rfl rfl ?_
        | refine g_call hC (hO) rfl rfl (LeSs.refl _) rfl rfl rfl ?_
      rw [wrapS (by omega)]
      exact g_round (i + 1, R) ⟨by simp only; omega, hv⟩ id (by simp only; omega) ⟨rfl, ⟨rfl, rfl, rfl, rfl, rfl, trivial⟩, ⟨rfl, trivial⟩, rfl, fun _ _ => rfl⟩
    | true =>
      have hA := mApply_yes k R o hv hok
      obtain ⟨w, hw1, hw2, hw3, _⟩ := okOp_word hok
      have hU := isUpdate_ok hk hw1 hw3
      have hQt := quiet hv hok hw3
      have hv2 := step_valid hv hok
      generalize stepS k R o = z at hA hQt hv2
      obtain ⟨R2, x⟩ := z
      simp only at hA hv2
      obtain ⟨hq1, hq2⟩ := hQt
      simp only at hq1 hq2
      have hV2 := valid_lens hv2
      have hM := mValid_ok k R2 (fun r hr => by have := hV2.2 r hr; omega) (by omega)
      rw [hv2] at hM
      have hS := mSame_ok k k R R2
      have hSt : R2 = R → FnOK Try.prog 21 [aggS (stR k R), aggS (stR k R2)] [] (.bq true) [] := fun e => by
        subst e; rw [show (decide (k = k) && decide (R2 = R2)) = true by simp] at hS; exact hS
      generalize w.2.2 = u at hU hq2
      cases u with
      | false =>
        have hS2 := hSt (hq2 (.inl rfl))
        repeat' first
          | refine g_go T hC true 400 rfl rfl ?_
          | (exfalso; simp at h; done)
          | (exfalso; first | (simp only [decide_eq_true_eq, decide_eq_false_iff_not, List.length_map, Bool.not_eq_true', Bool.not_eq_false'] at *; omega) | (simp at h; done))
          | refine g_cond rfl (fun h => ?_) (fun h => ?_)
          | refine g_end T hC (by kernel_rfl) ?_
          | refine g_splitD (fun h => ?_) (fun h => ?_)
          | refine g_splitG rfl rfl rfl (fun h => ?_) (fun h => ?_)
          | refine g_splitP rfl rfl (fun h => ?_) (fun h => ?_)
          | refine g_idx T hC rfl rfl rfl (Int.natCast_nonneg _) (map_at ho) rfl rfl ?_
          | refine g_call hC (hA) rfl rfl (LeSs.refl _) rfl rfl rfl ?_
          | refine g_call hC (hU) rfl rfl (LeSs.refl _) rfl rfl rfl ?_
          | refine g_call hC (hM) rfl rfl (LeSs.refl _) rfl rfl rfl ?_
          | refine g_call hC (hS2) rfl rfl (LeSs.refl _) rfl rfl rfl ?_
        all_goals (rw [wrapS (by omega)]; exact g_round (i + 1, R2) ⟨by simp only; omega, hv2⟩ id (by simp only; omega) ⟨rfl, ⟨rfl, rfl, rfl, rfl, rfl, trivial⟩, ⟨rfl, trivial⟩, rfl, fun _ _ => rfl⟩)
      | true =>
        by_cases he : x.e = 0
        · repeat' first
            | refine g_go T hC true 400 rfl rfl ?_
            | (exfalso; simp at h; done)
            | (exfalso; first | (simp only [decide_eq_true_eq, decide_eq_false_iff_not, List.length_map, Bool.not_eq_true', Bool.not_eq_false'] at *; omega) | (simp at h; done))
            | refine g_cond rfl (fun h => ?_) (fun h => ?_)
            | refine g_end T hC (by kernel_rfl) ?_
            | refine g_splitD (fun h => ?_) (fun h => ?_)
            | refine g_splitG rfl rfl rfl (fun h => ?_) (fun h => ?_)
            | refine g_splitP rfl rfl (fun h => ?_) (fun h => ?_)
            | refine g_idx T hC rfl rfl rfl (Int.natCast_nonneg _) (map_at ho) rfl rfl ?_
            | refine g_call hC (hA) rfl rfl (LeSs.refl _) rfl rfl rfl ?_
            | refine g_call hC (hU) rfl rfl (LeSs.refl _) rfl rfl rfl ?_
            | refine g_call hC (hM) rfl rfl (LeSs.refl _) rfl rfl rfl ?_
          all_goals (rw [wrapS (by omega)]; exact g_round (i + 1, R2) ⟨by simp only; omega, hv2⟩ id (by simp only; omega) ⟨rfl, ⟨rfl, rfl, rfl, rfl, rfl, trivial⟩, ⟨rfl, trivial⟩, rfl, fun _ _ => rfl⟩)
        · have hS2 := hSt (hq2 (.inr he))
          have hn := hq1 he
          repeat' first
            | refine g_go T hC true 400 rfl rfl ?_
            | (exfalso; simp at h; done)
            | (exfalso; first | (simp only [decide_eq_true_eq, decide_eq_false_iff_not, List.length_map, Bool.not_eq_true', Bool.not_eq_false'] at *; omega) | (simp at h; done))
            | refine g_cond rfl (fun h => ?_) (fun h => ?_)
            | refine g_end T hC (by kernel_rfl) ?_
            | refine g_splitD (fun h => ?_) (fun h => ?_)
            | refine g_splitG rfl rfl rfl (fun h => ?_) (fun h => ?_)
            | refine g_splitP rfl rfl (fun h => ?_) (fun h => ?_)
            | refine g_idx T hC rfl rfl rfl (Int.natCast_nonneg _) (map_at ho) rfl rfl ?_
            | refine g_call hC (hA) rfl rfl (LeSs.refl _) rfl rfl rfl ?_
            | refine g_call hC (hU) rfl rfl (LeSs.refl _) rfl rfl rfl ?_
            | refine g_call hC (hM) rfl rfl (LeSs.refl _) rfl rfl rfl ?_
            | refine g_call hC (hS2) rfl rfl (LeSs.refl _) rfl rfl rfl ?_
          all_goals (rw [wrapS (by omega)]; exact g_round (i + 1, R2) ⟨by simp only; omega, hv2⟩ id (by simp only; omega) ⟨rfl, ⟨rfl, rfl, rfl, rfl, rfl, trivial⟩, ⟨rfl, trivial⟩, rfl, fun _ _ => rfl⟩)
  · repeat' first
      | refine g_go T hC true 400 rfl rfl ?_
      | refine g_cond rfl (fun h => ?_) (fun h => ?_)
      | refine g_end T hC (by kernel_rfl) ?_
      | refine g_splitD (fun h => ?_) (fun h => ?_)
      | refine g_splitG rfl rfl rfl (fun h => ?_) (fun h => ?_)
      | refine g_splitP rfl rfl (fun h => ?_) (fun h => ?_)
      | refine g_outE ?_
    exact g_fin ⟨.inl rfl, id, _, rfl, LeS.qb rfl, trivial, rfl, rfl⟩
end Hw.Mo
