/- The engine and the contracts. -/
import Derived.Test.YtnijeifpjjeccaaGreatC16
import Derived.Test.YtnijeifpjjeccaaGreatC3
set_option linter.unusedVariables false
set_option linter.unusedSimpArgs false
namespace Hw.Mz
open Go Go.Proofs Go.Shelf Hw.M

/-! models: the reference's sets of points -/
theorem rpts5 (R : Rws) (hR : R.length ≤ 500) : FnOK Tryz.prog 41 [aggS (stR 5 R), aggS [ki 5, intsP []]] [] (.tup [aggS (stR 5 R), aggS (rsR (okR R.length))]) [] := by
  have hlm : (R.map rowR).length = R.length := List.length_map _
  have hY := yield_ok 5 R R.length
  refine fn_ok T Tryz.func41 (by kernel_rfl) rfl rfl rfl rfl fun C hC => ?_
  repeat' first
    | refine g_go T hC true 400 rfl rfl ?_
    | (exfalso; simp at h; done)
    | refine g_cond rfl (fun h => ?_) (fun h => ?_)
    | refine g_end T hC (by kernel_rfl) ?_
    | refine g_splitD (fun h => ?_) (fun h => ?_)
    | refine g_splitG rfl rfl rfl (fun h => ?_) (fun h => ?_)
    | refine g_splitP rfl rfl (fun h => ?_) (fun h => ?_)
    | (rw [hlm]; refine g_call hC hY rfl rfl (LeSs.refl _) rfl rfl rfl ?_)
  all_goals exact g_fin ⟨.inl rfl, id, _, rfl, .refl _, trivial, rfl, rfl⟩

theorem rpts3 (R : Rws) (hR : R.length ≤ 500) (a b c d : Int) (hn : ∀ r ∈ R, r.length = 3 ∧ ∀ x ∈ r, -1048576 ≤ x ∧ x ≤ 1048576) : FnOK Tryz.prog 41 [aggS (stR 5 R), aggS [ki 3, intsP [a, b, c, d]]] [] (.tup [aggS (stR 5 R), aggS (rsR (okR (cntB [a, b, c, d] R)))]) [] := by
  have hlm : (R.map rowR).length = R.length := List.length_map _
  have hY := yield_ok 5 R (cntB [a, b, c, d] R)
  refine fn_ok T Tryz.func41 (by kernel_rfl) rfl rfl rfl rfl fun C hC => ?_
  repeat' first
    | refine g_go T hC true 400 rfl rfl ?_
    | (exfalso; simp at h; done)
    | refine g_cond rfl (fun h => ?_) (fun h => ?_)
    | refine g_end T hC (by kernel_rfl) ?_
    | refine g_splitD (fun h => ?_) (fun h => ?_)
    | refine g_splitG rfl rfl rfl (fun h => ?_) (fun h => ?_)
    | refine g_splitP rfl rfl (fun h => ?_) (fun h => ?_)
  rw [hlm]
  refine g_loop (fun i : Nat => i ≤ R.length) (fun i => ([(2, .one (.bx 1002 0)), (3, .one (.bx 1003 0)), (4, .one (.bx 1004 0)), (5, .one (.bx 1005 0)), (6, I R.length), (7, I (cntB [a, b, c, d] (R.take i))), (8, I (sumB [a, b, c, d] (R.take i))), (9, I i)], [(1002, some (.box [.p (ki 5), .p (rowsP R)])), (1003, some (.box [.p (ki 3), .p (intsP [a, b, c, d])])), (1004, some (.box [.p (ki 0), .p (.k (.slice none 0 0))])), (1005, some (.box [.p (ki 0), .p (ki 0), .p (.k (.slice none 0 0))]))])) (fun i => R.length - i) hC
    0 (Nat.zero_le _) id ⟨rfl, ⟨rfl, rfl, rfl, rfl, rfl, rfl, rfl, rfl, trivial⟩, ⟨rfl, rfl, rfl, rfl, trivial⟩, rfl, fun _ _ => rfl⟩ ?_
  intro i hi
  refine g_run' T hC true 200 rfl ?_
  refine g_cond rfl (fun h => ?_) (fun h => ?_)
  · have hlt : i < R.length := by simpa using h
    clear h
    obtain ⟨r, hq⟩ := exists_at hlt
    obtain ⟨h0, h1⟩ := hn r (List.mem_of_getElem? hq)
    have hb1 := cntB_bound (A := [a, b, c, d]) (l := R.take i) (n := 500) (by rw [List.length_take]; omega)
    have hb2 := sumB_bound (A := [a, b, c, d]) (l := R.take i) (n := 500) (by rw [List.length_take]; omega) fun x hx => by
      have hx' := hn x (List.mem_of_mem_take hx)
      exact hx'.2 _ (List.mem_of_getElem? (at0_lt (l := x) (i := 2) (by omega)))
    have hsn := take_snoc hq
    obtain ⟨x, y, w, rfl⟩ := len3 h0
    have hw2 := h1 w (by simp)
    have hyes : ∀ p1 p2 : Prop, a ≤ x ∧ x ≤ b ∧ c ≤ y ∧ y ≤ d → inBox [a, b, c, d] [x, y, w] = true := fun _ _ hh => by simp [inBox, at0]; omega
    have hno : ¬ (a ≤ x ∧ x ≤ b ∧ c ≤ y ∧ y ≤ d) → inBox [a, b, c, d] [x, y, w] = false := fun hh => by
      cases hi : inBox [a, b, c, d] [x, y, w] with
      | false => rfl
      | true => simp [inBox, at0] at hi; omega
    repeat' first
      | refine g_go T hC true 400 rfl rfl ?_
      | (exfalso; simp at h; done)
      | refine g_cond rfl (fun h => ?_) (fun h => ?_)
      | refine g_end T hC (by kernel_rfl) ?_
      | refine g_splitD (fun h => ?_) (fun h => ?_)
      | refine g_splitG rfl rfl rfl (fun h => ?_) (fun h => ?_)
      | refine g_splitP rfl rfl (fun h => ?_) (fun h => ?_)
      | refine g_idx T hC (rows := R.map rowR) rfl rfl rfl (Int.natCast_nonneg _) (map_at hq) rfl rfl ?_
      | refine g_idx T hC (rows := [x, y, w].map intR) rfl rfl rfl (by decide) rfl rfl rfl ?_
      | refine g_idx T hC (rows := [a, b, c, d].map intR) rfl rfl rfl (by decide) rfl rfl rfl ?_
    all_goals simp only [decide_eq_true_eq, decide_eq_false_iff_not] at *
    all_goals first
      | (have hb := hyes True True (by omega)
         rw [wrapS (by omega), wrap64 (n := cntB [a, b, c, d] (R.take i) + 1) (by omega), wrap64 (n := sumB [a, b, c, d] (R.take i) + w) (by omega)]
         refine g_round (i + 1) (by omega) id (by omega) ?_
         rw [hsn, cntB_yes hb, sumB_yes hb]
         exact ⟨rfl, ⟨rfl, rfl, rfl, rfl, rfl, rfl, rfl, rfl, trivial⟩, ⟨rfl, rfl, rfl, rfl, trivial⟩, rfl, fun _ _ => rfl⟩)
      | (have hb := hno (by omega)
         rw [wrapS (by omega)]
         refine g_round (i + 1) (by omega) id (by omega) ?_
         rw [hsn, cntB_no hb, sumB_no hb]
         exact ⟨rfl, ⟨rfl, rfl, rfl, rfl, rfl, rfl, rfl, rfl, trivial⟩, ⟨rfl, rfl, rfl, rfl, trivial⟩, rfl, fun _ _ => rfl⟩)
  · have hge : ¬ i < R.length := by simpa using h
    have e : R.take i = R := List.take_of_length_le (by omega)
    rw [e]
    repeat' first
      | refine g_go T hC true 400 rfl rfl ?_
      | (exfalso; simp at h; done)
      | refine g_cond rfl (fun h => ?_) (fun h => ?_)
      | refine g_end T hC (by kernel_rfl) ?_
      | refine g_splitD (fun h => ?_) (fun h => ?_)
      | refine g_splitG rfl rfl rfl (fun h => ?_) (fun h => ?_)
      | refine g_splitP rfl rfl (fun h => ?_) (fun h => ?_)
      | refine g_outE ?_
      | refine g_call hC (hY) rfl rfl (LeSs.refl _) rfl rfl rfl ?_
    all_goals exact g_fin ⟨.inl rfl, id, _, rfl, .refl _, trivial, rfl, rfl⟩

theorem rpts4 (R : Rws) (hR : R.length ≤ 500) (a b c d : Int) (hn : ∀ r ∈ R, r.length = 3 ∧ ∀ x ∈ r, -1048576 ≤ x ∧ x ≤ 1048576) : FnOK Tryz.prog 41 [aggS (stR 5 R), aggS [ki 4, intsP [a, b, c, d]]] [] (.tup [aggS (stR 5 R), aggS (rsR (okR (sumB [a, b, c, d] R)))]) [] := by
  have hlm : (R.map rowR).length = R.length := List.length_map _
  have hY := yield_ok 5 R (sumB [a, b, c, d] R)
  refine fn_ok T Tryz.func41 (by kernel_rfl) rfl rfl rfl rfl fun C hC => ?_
  repeat' first
    | refine g_go T hC true 400 rfl rfl ?_
    | (exfalso; simp at h; done)
    | refine g_cond rfl (fun h => ?_) (fun h => ?_)
    | refine g_end T hC (by kernel_rfl) ?_
    | refine g_splitD (fun h => ?_) (fun h => ?_)
    | refine g_splitG rfl rfl rfl (fun h => ?_) (fun h => ?_)
    | refine g_splitP rfl rfl (fun h => ?_) (fun h => ?_)
  rw [hlm]
  refine g_loop (fun i : Nat => i ≤ R.length) (fun i => ([(2, .one (.bx 1002 0)), (3, .one (.bx 1003 0)), (4, .one (.bx 1004 0)), (5, .one (.bx 1005 0)), (6, I R.length), (7, I (cntB [a, b, c, d] (R.take i))), (8, I (sumB [a, b, c, d] (R.take i))), (9, I i)], [(1002, some (.box [.p (ki 5), .p (rowsP R)])), (1003, some (.box [.p (ki 4), .p (intsP [a, b, c, d])])), (1004, some (.box [.p (ki 0), .p (.k (.slice none 0 0))])), (1005, some (.box [.p (ki 0), .p (ki 0), .p (.k (.slice none 0 0))]))])) (fun i => R.length - i) hC
    0 (Nat.zero_le _) id ⟨rfl, ⟨rfl, rfl, rfl, rfl, rfl, rfl, rfl, rfl, trivial⟩, ⟨rfl, rfl, rfl, rfl, trivial⟩, rfl, fun _ _ => rfl⟩ ?_
  intro i hi
  refine g_run' T hC true 200 rfl ?_
  refine g_cond rfl (fun h => ?_) (fun h => ?_)
  · have hlt : i < R.length := by simpa using h
    clear h
    obtain ⟨r, hq⟩ := exists_at hlt
    obtain ⟨h0, h1⟩ := hn r (List.mem_of_getElem? hq)
    have hb1 := cntB_bound (A := [a, b, c, d]) (l := R.take i) (n := 500) (by rw [List.length_take]; omega)
    have hb2 := sumB_bound (A := [a, b, c, d]) (l := R.take i) (n := 500) (by rw [List.length_take]; omega) fun x hx => by
      have hx' := hn x (List.mem_of_mem_take hx)
      exact hx'.2 _ (List.mem_of_getElem? (at0_lt (l := x) (i := 2) (by omega)))
    have hsn := take_snoc hq
    obtain ⟨x, y, w, rfl⟩ := len3 h0
    have hw2 := h1 w (by simp)
    have hyes : ∀ p1 p2 : Prop, a ≤ x ∧ x ≤ b ∧ c ≤ y ∧ y ≤ d → inBox [a, b, c, d] [x, y, w] = true := fun _ _ hh => by simp [inBox, at0]; omega
    have hno : ¬ (a ≤ x ∧ x ≤ b ∧ c ≤ y ∧ y ≤ d) → inBox [a, b, c, d] [x, y, w] = false := fun hh => by
      cases hi : inBox [a, b, c, d] [x, y, w] with
      | false => rfl
      | true => simp [inBox, at0] at hi; omega
    repeat' first
      | refine g_go T hC true 400 rfl rfl ?_
      | (exfalso; simp at h; done)
      | refine g_cond rfl (fun h => ?_) (fun h => ?_)
      | refine g_end T hC (by kernel_rfl) ?_
      | refine g_splitD (fun h => ?_) (fun h => ?_)
      | refine g_splitG rfl rfl rfl (fun h => ?_) (fun h => ?_)
      | refine g_splitP rfl rfl (fun h => ?_) (fun h => ?_)
      | refine g_idx T hC (rows := R.map rowR) rfl rfl rfl (Int.natCast_nonneg _) (map_at hq) rfl rfl ?_
      | refine g_idx T hC (rows := [x, y, w].map intR) rfl rfl rfl (by decide) rfl rfl rfl ?_
      | refine g_idx T hC (rows := [a, b, c, d].map intR) rfl rfl rfl (by decide) rfl rfl rfl ?_
    all_goals simp only [decide_eq_true_eq, decide_eq_false_iff_not] at *
    all_goals first
      | (have hb := hyes True True (by omega)
         rw [wrapS (by omega), wrap64 (n := cntB [a, b, c, d] (R.take i) + 1) (by omega), wrap64 (n := sumB [a, b, c, d] (R.take i) + w) (by omega)]
         refine g_round (i + 1) (by omega) id (by omega) ?_
         rw [hsn, cntB_yes hb, sumB_yes hb]
         exact ⟨rfl, ⟨rfl, rfl, rfl, rfl, rfl, rfl, rfl, rfl, trivial⟩, ⟨rfl, rfl, rfl, rfl, trivial⟩, rfl, fun _ _ => rfl⟩)
      | (have hb := hno (by omega)
         rw [wrapS (by omega)]
         refine g_round (i + 1) (by omega) id (by omega) ?_
         rw [hsn, cntB_no hb, sumB_no hb]
         exact ⟨rfl, ⟨rfl, rfl, rfl, rfl, rfl, rfl, rfl, rfl, trivial⟩, ⟨rfl, rfl, rfl, rfl, trivial⟩, rfl, fun _ _ => rfl⟩)
  · have hge : ¬ i < R.length := by simpa using h
    have e : R.take i = R := List.take_of_length_le (by omega)
    rw [e]
    repeat' first
      | refine g_go T hC true 400 rfl rfl ?_
      | (exfalso; simp at h; done)
      | refine g_cond rfl (fun h => ?_) (fun h => ?_)
      | refine g_end T hC (by kernel_rfl) ?_
      | refine g_splitD (fun h => ?_) (fun h => ?_)
      | refine g_splitG rfl rfl rfl (fun h => ?_) (fun h => ?_)
      | refine g_splitP rfl rfl (fun h => ?_) (fun h => ?_)
      | refine g_outE ?_
      | refine g_call hC (hY) rfl rfl (LeSs.refl _) rfl rfl rfl ?_
    all_goals exact g_fin ⟨.inl rfl, id, _, rfl, .refl _, trivial, rfl, rfl⟩

theorem rpts1y (R : Rws) (hR : R.length ≤ 500) (hT : TabOk 3 (ltC 2) R) (a b v : Int) (p : Nat) (hp : posC 2 R [a, b, v] = p) (hh : hasC 2 R [a, b, v] = true) : FnOK Tryz.prog 41 [aggS (stR 5 R), aggS [ki 1, intsP [a, b, v]]] [] (.tup [aggS (stR 5 R), aggS (rsR (erR 15))]) [] := by
  have hlm : (R.map rowR).length = R.length := List.length_map _
  have hple := posC_le 2 R [a, b, v]
  have hsp := posC_spec hT pos_lt [a, b, v]
  have hwide := hT.wide
  have hbel : ∀ (i : Nat) (r : Rw), R[i]? = some r → (ltC 2 r [a, b, v] = true ↔ i < posC 2 R [a, b, v]) := fun i r hi => by
    constructor
    · intro hlt
      rcases Nat.lt_or_ge i (posC 2 R [a, b, v]) with h1 | h1
      · exact h1
      · have : r ∈ R.drop (posC 2 R [a, b, v]) := by
          refine List.mem_of_getElem? (i := i - posC 2 R [a, b, v]) ?_
          rw [List.getElem?_drop, show posC 2 R [a, b, v] + (i - posC 2 R [a, b, v]) = i by omega]; exact hi
        rw [hsp.2 _ this] at hlt
        exact absurd hlt (by decide)
    · intro h1
      have : r ∈ R.take (posC 2 R [a, b, v]) := by
        refine List.mem_of_getElem? (i := i) ?_
        rw [List.getElem?_take, if_pos h1]; exact hi
      exact hsp.1 _ this
  have hbf : ∀ r : Rw, r.length = 3 → FnOK Tryz.prog 63 [pS (intsP r), pS (intsP [a, b, v]), I 2] [] (.bq (ltC 2 r [a, b, v])) [] := fun r hr => before_ok r [a, b, v] 2 (by omega) (by simp) (by decide)
  have hhas : ∀ r : Rw, R[posC 2 R [a, b, v]]? = some r → hasC 2 R [a, b, v] = decide (r.take 2 = List.take 2 [a, b, v]) := fun r hr => hasC_at hr
  have hcase : (posC 2 R [a, b, v] < R.length ∧ ∃ x y w, R[posC 2 R [a, b, v]]? = some [x, y, w] ∧ hasC 2 R [a, b, v] = decide ([x, y] = [a, b])) ∨ (posC 2 R [a, b, v] = R.length ∧ hasC 2 R [a, b, v] = false) := by
    rcases Nat.lt_or_ge (posC 2 R [a, b, v]) R.length with h1 | h1
    · obtain ⟨r, hr⟩ := exists_at h1
      have := hhas r hr
      obtain ⟨x, y, w, rfl⟩ := len3 (hwide r (List.mem_of_getElem? hr))
      exact .inl ⟨h1, x, y, w, hr, this⟩
    · refine .inr ⟨by omega, ?_⟩
      unfold hasC
      rw [List.getElem?_eq_none h1]
  rw [hh] at hcase
  clear hsp hT hhas hh
  rw [hp] at hcase hbel hple
  clear hp
  have hY := fail_ok 5 R 15
  refine fn_ok T Tryz.func41 (by kernel_rfl) rfl rfl rfl rfl fun C hC => ?_
  repeat' first
    | refine g_go T hC true 400 rfl rfl ?_
    | (exfalso; simp at h; done)
    | refine g_cond rfl (fun h => ?_) (fun h => ?_)
    | refine g_end T hC (by kernel_rfl) ?_
    | refine g_splitD (fun h => ?_) (fun h => ?_)
    | refine g_splitG rfl rfl rfl (fun h => ?_) (fun h => ?_)
    | refine g_splitP rfl rfl (fun h => ?_) (fun h => ?_)
  rw [hlm]
  refine g_loop (fun i : Nat => i ≤ p) (fun i => ([(2, .one (.bx 1002 0)), (3, .one (.bx 1003 0)), (4, .one (.bx 1004 0)), (5, .one (.bx 1005 0)), (6, I R.length), (10, I i)], [(1002, some (.box [.p (ki 5), .p (rowsP R)])), (1003, some (.box [.p (ki 1), .p (intsP [a, b, v])])), (1004, some (.box [.p (ki 0), .p (.k (.slice none 0 0))])), (1005, some (.box [.p (ki 0), .p (ki 0), .p (.k (.slice none 0 0))]))])) (fun i => p - i) hC
    0 (Nat.zero_le _) id ⟨rfl, ⟨rfl, rfl, rfl, rfl, rfl, rfl, trivial⟩, ⟨rfl, rfl, rfl, rfl, trivial⟩, rfl, fun _ _ => rfl⟩ ?_
  intro i hi
  clear h
  by_cases hip : i < p
  · obtain ⟨r, hr⟩ := exists_at (l := R) (i := i) (by omega)
    have hB := hbf r (hwide r (List.mem_of_getElem? hr))
    rw [(hbel i r hr).2 hip] at hB
    repeat' first
      | refine g_go T hC true 400 rfl rfl ?_
      | (exfalso; have h2 := of_decide_eq_false h; omega)
      | (exfalso; simp at h; done)
      | refine g_cond rfl (fun h => ?_) (fun h => ?_)
      | refine g_end T hC (by kernel_rfl) ?_
      | refine g_splitD (fun h => ?_) (fun h => ?_)
      | refine g_splitG rfl rfl rfl (fun h => ?_) (fun h => ?_)
      | refine g_splitP rfl rfl (fun h => ?_) (fun h => ?_)
      | refine g_idx T hC (rows := R.map rowR) rfl rfl rfl (Int.natCast_nonneg _) (map_at hr) rfl rfl ?_
      | refine g_call hC (hB) rfl rfl (LeSs.refl _) rfl rfl rfl ?_
    rw [wrapS (by omega)]
    exact g_round (i + 1) (by omega) id (by omega) ⟨rfl, ⟨rfl, rfl, rfl, rfl, rfl, rfl, trivial⟩, ⟨rfl, rfl, rfl, rfl, trivial⟩, rfl, fun _ _ => rfl⟩
  have hpi : p = i := by omega
  subst hpi
  rcases hcase with ⟨hn, x, y, w, hr, hd⟩ | ⟨hn, hd⟩
  · have hB := hbf [x, y, w] rfl
    have hB0 : ltC 2 [x, y, w] [a, b, v] = false := by
      cases hq : ltC 2 [x, y, w] [a, b, v] with
      | false => rfl
      | true => exact absurd ((hbel p _ hr).1 hq) (by omega)
    rw [hB0] at hB
    have hrow : (R.map rowR)[(p : Int).toNat]? = some (rowR [x, y, w]) := by rw [Int.toNat_natCast]; exact map_at hr
    have hd2 : x = a ∧ y = b := by simpa using hd.symm
    repeat' first
      | refine g_go T hC true 400 rfl rfl ?_
      | (exfalso; have h2 := of_decide_eq_true h; omega)
      | (exfalso; have h2 := of_decide_eq_false h; omega)
      | (exfalso; simp at h; done)
      | refine g_cond rfl (fun h => ?_) (fun h => ?_)
      | refine g_end T hC (by kernel_rfl) ?_
      | refine g_splitD (fun h => ?_) (fun h => ?_)
      | refine g_splitG rfl rfl rfl (fun h => ?_) (fun h => ?_)
      | refine g_splitP rfl rfl (fun h => ?_) (fun h => ?_)
      | refine g_outE ?_
      | refine g_idx T hC (rows := R.map rowR) rfl rfl rfl (Int.natCast_nonneg _) hrow rfl rfl ?_
      | refine g_idx T hC (rows := [x, y, w].map intR) rfl rfl rfl (by decide) rfl rfl rfl ?_
      | refine g_idx T hC (rows := [a, b, v].map intR) rfl rfl rfl (by decide) rfl rfl rfl ?_
      | refine g_call hC (hB) rfl rfl (LeSs.refl _) rfl rfl rfl ?_
      | refine g_call hC (hY) rfl rfl (LeSs.refl _) rfl rfl rfl ?_
    all_goals first | exact g_fin ⟨.inl rfl, id, _, rfl, .refl _, trivial, rfl, rfl⟩ | (exfalso; clear hbel hbf hwide; simp_all; done)
  · cases hd

theorem rpts1f (R : Rws) (hR : R.length ≤ 500) (hT : TabOk 3 (ltC 2) R) (a b v : Int) (h5 : R.length = 500) (p : Nat) (hp : posC 2 R [a, b, v] = p) (hh : hasC 2 R [a, b, v] = false) : FnOK Tryz.prog 41 [aggS (stR 5 R), aggS [ki 1, intsP [a, b, v]]] [] (.tup [aggS (stR 5 R), aggS (rsR (erR 4))]) [] := by
  have hlm : (R.map rowR).length = R.length := List.length_map _
  have hple := posC_le 2 R [a, b, v]
  have hsp := posC_spec hT pos_lt [a, b, v]
  have hwide := hT.wide
  have hbel : ∀ (i : Nat) (r : Rw), R[i]? = some r → (ltC 2 r [a, b, v] = true ↔ i < posC 2 R [a, b, v]) := fun i r hi => by
    constructor
    · intro hlt
      rcases Nat.lt_or_ge i (posC 2 R [a, b, v]) with h1 | h1
      · exact h1
      · have : r ∈ R.drop (posC 2 R [a, b, v]) := by
          refine List.mem_of_getElem? (i := i - posC 2 R [a, b, v]) ?_
          rw [List.getElem?_drop, show posC 2 R [a, b, v] + (i - posC 2 R [a, b, v]) = i by omega]; exact hi
        rw [hsp.2 _ this] at hlt
        exact absurd hlt (by decide)
    · intro h1
      have : r ∈ R.take (posC 2 R [a, b, v]) := by
        refine List.mem_of_getElem? (i := i) ?_
        rw [List.getElem?_take, if_pos h1]; exact hi
      exact hsp.1 _ this
  have hbf : ∀ r : Rw, r.length = 3 → FnOK Tryz.prog 63 [pS (intsP r), pS (intsP [a, b, v]), I 2] [] (.bq (ltC 2 r [a, b, v])) [] := fun r hr => before_ok r [a, b, v] 2 (by omega) (by simp) (by decide)
  have hhas : ∀ r : Rw, R[posC 2 R [a, b, v]]? = some r → hasC 2 R [a, b, v] = decide (r.take 2 = List.take 2 [a, b, v]) := fun r hr => hasC_at hr
  have hcase : (posC 2 R [a, b, v] < R.length ∧ ∃ x y w, R[posC 2 R [a, b, v]]? = some [x, y, w] ∧ hasC 2 R [a, b, v] = decide ([x, y] = [a, b])) ∨ (posC 2 R [a, b, v] = R.length ∧ hasC 2 R [a, b, v] = false) := by
    rcases Nat.lt_or_ge (posC 2 R [a, b, v]) R.length with h1 | h1
    · obtain ⟨r, hr⟩ := exists_at h1
      have := hhas r hr
      obtain ⟨x, y, w, rfl⟩ := len3 (hwide r (List.mem_of_getElem? hr))
      exact .inl ⟨h1, x, y, w, hr, this⟩
    · refine .inr ⟨by omega, ?_⟩
      unfold hasC
      rw [List.getElem?_eq_none h1]
  rw [hh] at hcase
  clear hsp hT hhas hh
  rw [hp] at hcase hbel hple
  clear hp
  have hY := fail_ok 5 R 4
  refine fn_ok T Tryz.func41 (by kernel_rfl) rfl rfl rfl rfl fun C hC => ?_
  repeat' first
    | refine g_go T hC true 400 rfl rfl ?_
    | (exfalso; simp at h; done)
    | refine g_cond rfl (fun h => ?_) (fun h => ?_)
    | refine g_end T hC (by kernel_rfl) ?_
    | refine g_splitD (fun h => ?_) (fun h => ?_)
    | refine g_splitG rfl rfl rfl (fun h => ?_) (fun h => ?_)
    | refine g_splitP rfl rfl (fun h => ?_) (fun h => ?_)
  rw [hlm]
  refine g_loop (fun i : Nat => i ≤ p) (fun i => ([(2, .one (.bx 1002 0)), (3, .one (.bx 1003 0)), (4, .one (.bx 1004 0)), (5, .one (.bx 1005 0)), (6, I R.length), (10, I i)], [(1002, some (.box [.p (ki 5), .p (rowsP R)])), (1003, some (.box [.p (ki 1), .p (intsP [a, b, v])])), (1004, some (.box [.p (ki 0), .p (.k (.slice none 0 0))])), (1005, some (.box [.p (ki 0), .p (ki 0), .p (.k (.slice none 0 0))]))])) (fun i => p - i) hC
    0 (Nat.zero_le _) id ⟨rfl, ⟨rfl, rfl, rfl, rfl, rfl, rfl, trivial⟩, ⟨rfl, rfl, rfl, rfl, trivial⟩, rfl, fun _ _ => rfl⟩ ?_
  intro i hi
  clear h
  by_cases hip : i < p
  · obtain ⟨r, hr⟩ := exists_at (l := R) (i := i) (by omega)
    have hB := hbf r (hwide r (List.mem_of_getElem? hr))
    rw [(hbel i r hr).2 hip] at hB
    repeat' first
      | refine g_go T hC true 400 rfl rfl ?_
      | (exfalso; have h2 := of_decide_eq_false h; omega)
      | (exfalso; simp at h; done)
      | refine g_cond rfl (fun h => ?_) (fun h => ?_)
      | refine g_end T hC (by kernel_rfl) ?_
      | refine g_splitD (fun h => ?_) (fun h => ?_)
      | refine g_splitG rfl rfl rfl (fun h => ?_) (fun h => ?_)
      | refine g_splitP rfl rfl (fun h => ?_) (fun h => ?_)
      | refine g_idx T hC (rows := R.map rowR) rfl rfl rfl (Int.natCast_nonneg _) (map_at hr) rfl rfl ?_
      | refine g_call hC (hB) rfl rfl (LeSs.refl _) rfl rfl rfl ?_
    rw [wrapS (by omega)]
    exact g_round (i + 1) (by omega) id (by omega) ⟨rfl, ⟨rfl, rfl, rfl, rfl, rfl, rfl, trivial⟩, ⟨rfl, rfl, rfl, rfl, trivial⟩, rfl, fun _ _ => rfl⟩
  have hpi : p = i := by omega
  subst hpi
  rcases hcase with ⟨hn, x, y, w, hr, hd⟩ | ⟨hn, hd⟩
  · have hB := hbf [x, y, w] rfl
    have hB0 : ltC 2 [x, y, w] [a, b, v] = false := by
      cases hq : ltC 2 [x, y, w] [a, b, v] with
      | false => rfl
      | true => exact absurd ((hbel p _ hr).1 hq) (by omega)
    rw [hB0] at hB
    have hrow : (R.map rowR)[(p : Int).toNat]? = some (rowR [x, y, w]) := by rw [Int.toNat_natCast]; exact map_at hr
    have hd2 : x = a → ¬ y = b := by simpa using hd.symm
    repeat' first
      | refine g_go T hC true 400 rfl rfl ?_
      | (exact absurd (of_decide_eq_true h) (hd2 (of_decide_eq_true (by assumption))))
      | (exfalso; have h2 := of_decide_eq_true h; omega)
      | (exfalso; have h2 := of_decide_eq_false h; omega)
      | (exfalso; simp at h; done)
      | refine g_cond rfl (fun h => ?_) (fun h => ?_)
      | refine g_end T hC (by kernel_rfl) ?_
      | refine g_splitD (fun h => ?_) (fun h => ?_)
      | refine g_splitG rfl rfl rfl (fun h => ?_) (fun h => ?_)
      | refine g_splitP rfl rfl (fun h => ?_) (fun h => ?_)
      | refine g_outE ?_
      | refine g_idx T hC (rows := R.map rowR) rfl rfl rfl (Int.natCast_nonneg _) hrow rfl rfl ?_
      | refine g_idx T hC (rows := [x, y, w].map intR) rfl rfl rfl (by decide) rfl rfl rfl ?_
      | refine g_idx T hC (rows := [a, b, v].map intR) rfl rfl rfl (by decide) rfl rfl rfl ?_
      | refine g_call hC (hB) rfl rfl (LeSs.refl _) rfl rfl rfl ?_
      | refine g_call hC (hY) rfl rfl (LeSs.refl _) rfl rfl rfl ?_
    all_goals first | exact g_fin ⟨.inl rfl, id, _, rfl, .refl _, trivial, rfl, rfl⟩ | (exfalso; clear hbel hbf hwide; simp_all; done)
  · subst hn
    repeat' first
      | refine g_go T hC true 400 rfl rfl ?_
      | (exfalso; have h2 := of_decide_eq_true h; omega)
      | (exfalso; have h2 := of_decide_eq_false h; omega)
      | (exfalso; simp at h; done)
      | refine g_cond rfl (fun h => ?_) (fun h => ?_)
      | refine g_end T hC (by kernel_rfl) ?_
      | refine g_splitD (fun h => ?_) (fun h => ?_)
      | refine g_splitG rfl rfl rfl (fun h => ?_) (fun h => ?_)
      | refine g_splitP rfl rfl (fun h => ?_) (fun h => ?_)
      | refine g_outE ?_
      | refine g_idx T hC (rows := [a, b, v].map intR) rfl rfl rfl (by decide) rfl rfl rfl ?_
      | refine g_call hC (hY) rfl rfl (LeSs.refl _) rfl rfl rfl ?_
    all_goals first | exact g_fin ⟨.inl rfl, id, _, rfl, .refl _, trivial, rfl, rfl⟩ | (exfalso; clear hbel hbf hwide; simp_all; done)

theorem rpts1 (R : Rws) (hR : R.length ≤ 500) (hT : TabOk 3 (ltC 2) R) (a b v : Int) (h5 : R.length < 500) (p : Nat) (hp : posC 2 R [a, b, v] = p) (hh : hasC 2 R [a, b, v] = false) : FnOK Tryz.prog 41 [aggS (stR 5 R), aggS [ki 1, intsP [a, b, v]]] [] (.tup [aggS (stR 5 (insR R p [a, b, v])), aggS (rsR (okR 0))]) [] := by
  have hlm : (R.map rowR).length = R.length := List.length_map _
  have hple := posC_le 2 R [a, b, v]
  have hsp := posC_spec hT pos_lt [a, b, v]
  have hwide := hT.wide
  have hbel : ∀ (i : Nat) (r : Rw), R[i]? = some r → (ltC 2 r [a, b, v] = true ↔ i < posC 2 R [a, b, v]) := fun i r hi => by
    constructor
    · intro hlt
      rcases Nat.lt_or_ge i (posC 2 R [a, b, v]) with h1 | h1
      · exact h1
      · have : r ∈ R.drop (posC 2 R [a, b, v]) := by
          refine List.mem_of_getElem? (i := i - posC 2 R [a, b, v]) ?_
          rw [List.getElem?_drop, show posC 2 R [a, b, v] + (i - posC 2 R [a, b, v]) = i by omega]; exact hi
        rw [hsp.2 _ this] at hlt
        exact absurd hlt (by decide)
    · intro h1
      have : r ∈ R.take (posC 2 R [a, b, v]) := by
        refine List.mem_of_getElem? (i := i) ?_
        rw [List.getElem?_take, if_pos h1]; exact hi
      exact hsp.1 _ this
  have hbf : ∀ r : Rw, r.length = 3 → FnOK Tryz.prog 63 [pS (intsP r), pS (intsP [a, b, v]), I 2] [] (.bq (ltC 2 r [a, b, v])) [] := fun r hr => before_ok r [a, b, v] 2 (by omega) (by simp) (by decide)
  have hhas : ∀ r : Rw, R[posC 2 R [a, b, v]]? = some r → hasC 2 R [a, b, v] = decide (r.take 2 = List.take 2 [a, b, v]) := fun r hr => hasC_at hr
  have hcase : (posC 2 R [a, b, v] < R.length ∧ ∃ x y w, R[posC 2 R [a, b, v]]? = some [x, y, w] ∧ hasC 2 R [a, b, v] = decide ([x, y] = [a, b])) ∨ (posC 2 R [a, b, v] = R.length ∧ hasC 2 R [a, b, v] = false) := by
    rcases Nat.lt_or_ge (posC 2 R [a, b, v]) R.length with h1 | h1
    · obtain ⟨r, hr⟩ := exists_at h1
      have := hhas r hr
      obtain ⟨x, y, w, rfl⟩ := len3 (hwide r (List.mem_of_getElem? hr))
      exact .inl ⟨h1, x, y, w, hr, this⟩
    · refine .inr ⟨by omega, ?_⟩
      unfold hasC
      rw [List.getElem?_eq_none h1]
  rw [hh] at hcase
  clear hsp hT hhas hh
  rw [hp] at hcase hbel hple
  clear hp
  have hY := yield_ok 5 (insR R p [a, b, v]) 0
  have hX := put_ok R (by omega) p hple [a, b, v]
  have hRw := rowP_ok [a, b, v] (by simp)
  refine fn_ok T Tryz.func41 (by kernel_rfl) rfl rfl rfl rfl fun C hC => ?_
  repeat' first
    | refine g_go T hC true 400 rfl rfl ?_
    | (exfalso; simp at h; done)
    | refine g_cond rfl (fun h => ?_) (fun h => ?_)
    | refine g_end T hC (by kernel_rfl) ?_
    | refine g_splitD (fun h => ?_) (fun h => ?_)
    | refine g_splitG rfl rfl rfl (fun h => ?_) (fun h => ?_)
    | refine g_splitP rfl rfl (fun h => ?_) (fun h => ?_)
  rw [hlm]
  refine g_loop (fun i : Nat => i ≤ p) (fun i => ([(2, .one (.bx 1002 0)), (3, .one (.bx 1003 0)), (4, .one (.bx 1004 0)), (5, .one (.bx 1005 0)), (6, I R.length), (10, I i)], [(1002, some (.box [.p (ki 5), .p (rowsP R)])), (1003, some (.box [.p (ki 1), .p (intsP [a, b, v])])), (1004, some (.box [.p (ki 0), .p (.k (.slice none 0 0))])), (1005, some (.box [.p (ki 0), .p (ki 0), .p (.k (.slice none 0 0))]))])) (fun i => p - i) hC
    0 (Nat.zero_le _) id ⟨rfl, ⟨rfl, rfl, rfl, rfl, rfl, rfl, trivial⟩, ⟨rfl, rfl, rfl, rfl, trivial⟩, rfl, fun _ _ => rfl⟩ ?_
  intro i hi
  clear h
  by_cases hip : i < p
  · obtain ⟨r, hr⟩ := exists_at (l := R) (i := i) (by omega)
    have hB := hbf r (hwide r (List.mem_of_getElem? hr))
    rw [(hbel i r hr).2 hip] at hB
    repeat' first
      | refine g_go T hC true 400 rfl rfl ?_
      | (exfalso; have h2 := of_decide_eq_false h; omega)
      | (exfalso; simp at h; done)
      | refine g_cond rfl (fun h => ?_) (fun h => ?_)
      | refine g_end T hC (by kernel_rfl) ?_
      | refine g_splitD (fun h => ?_) (fun h => ?_)
      | refine g_splitG rfl rfl rfl (fun h => ?_) (fun h => ?_)
      | refine g_splitP rfl rfl (fun h => ?_) (fun h => ?_)
      | refine g_idx T hC (rows := R.map rowR) rfl rfl rfl (Int.natCast_nonneg _) (map_at hr) rfl rfl ?_
      | refine g_call hC (hB) rfl rfl (LeSs.refl _) rfl rfl rfl ?_
    rw [wrapS (by omega)]
    exact g_round (i + 1) (by omega) id (by omega) ⟨rfl, ⟨rfl, rfl, rfl, rfl, rfl, rfl, trivial⟩, ⟨rfl, rfl, rfl, rfl, trivial⟩, rfl, fun _ _ => rfl⟩
  have hpi : p = i := by omega
  subst hpi
  rcases hcase with ⟨hn, x, y, w, hr, hd⟩ | ⟨hn, hd⟩
  · have hB := hbf [x, y, w] rfl
    have hB0 : ltC 2 [x, y, w] [a, b, v] = false := by
      cases hq : ltC 2 [x, y, w] [a, b, v] with
      | false => rfl
      | true => exact absurd ((hbel p _ hr).1 hq) (by omega)
    rw [hB0] at hB
    have hrow : (R.map rowR)[(p : Int).toNat]? = some (rowR [x, y, w]) := by rw [Int.toNat_natCast]; exact map_at hr
    have hd2 : x = a → ¬ y = b := by simpa using hd.symm
    repeat' first
      | refine g_go T hC true 400 rfl rfl ?_
      | (exact absurd (of_decide_eq_true h) (hd2 (of_decide_eq_true (by assumption))))
      | (exfalso; have h2 := of_decide_eq_true h; omega)
      | (exfalso; have h2 := of_decide_eq_false h; omega)
      | (exfalso; simp at h; done)
      | refine g_cond rfl (fun h => ?_) (fun h => ?_)
      | refine g_end T hC (by kernel_rfl) ?_
      | refine g_splitD (fun h => ?_) (fun h => ?_)
      | refine g_splitG rfl rfl rfl (fun h => ?_) (fun h => ?_)
      | refine g_splitP rfl rfl (fun h => ?_) (fun h => ?_)
      | refine g_outE ?_
      | refine g_idx T hC (rows := R.map rowR) rfl rfl rfl (Int.natCast_nonneg _) hrow rfl rfl ?_
      | refine g_idx T hC (rows := [x, y, w].map intR) rfl rfl rfl (by decide) rfl rfl rfl ?_
      | refine g_idx T hC (rows := [a, b, v].map intR) rfl rfl rfl (by decide) rfl rfl rfl ?_
      | refine g_call hC (hB) rfl rfl (LeSs.refl _) rfl rfl rfl ?_
      | refine g_call hC (hRw) rfl rfl (LeSs.refl _) rfl rfl rfl ?_
      | refine g_call hC (hX) rfl rfl (LeSs.refl _) rfl rfl rfl ?_
      | refine g_call hC (hY) rfl rfl (LeSs.refl _) rfl rfl rfl ?_
    all_goals first | exact g_fin ⟨.inl rfl, id, _, rfl, .refl _, trivial, rfl, rfl⟩ | (exfalso; clear hbel hbf hwide; simp_all; done)
  · subst hn
    repeat' first
      | refine g_go T hC true 400 rfl rfl ?_
      | (exfalso; have h2 := of_decide_eq_true h; omega)
      | (exfalso; have h2 := of_decide_eq_false h; omega)
      | (exfalso; simp at h; done)
      | refine g_cond rfl (fun h => ?_) (fun h => ?_)
      | refine g_end T hC (by kernel_rfl) ?_
      | refine g_splitD (fun h => ?_) (fun h => ?_)
      | refine g_splitG rfl rfl rfl (fun h => ?_) (fun h => ?_)
      | refine g_splitP rfl rfl (fun h => ?_) (fun h => ?_)
      | refine g_outE ?_
      | refine g_idx T hC (rows := [a, b, v].map intR) rfl rfl rfl (by decide) rfl rfl rfl ?_
      | refine g_call hC (hRw) rfl rfl (LeSs.refl _) rfl rfl rfl ?_
      | refine g_call hC (hX) rfl rfl (LeSs.refl _) rfl rfl rfl ?_
      | refine g_call hC (hY) rfl rfl (LeSs.refl _) rfl rfl rfl ?_
    all_goals first | exact g_fin ⟨.inl rfl, id, _, rfl, .refl _, trivial, rfl, rfl⟩ | (exfalso; clear hbel hbf hwide; simp_all; done)

theorem rpts2n (R : Rws) (hR : R.length ≤ 500) (hT : TabOk 3 (ltC 2) R) (a b : Int) (p : Nat) (hp : posC 2 R [a, b] = p) (hh : hasC 2 R [a, b] = false) : FnOK Tryz.prog 41 [aggS (stR 5 R), aggS [ki 2, intsP [a, b]]] [] (.tup [aggS (stR 5 R), aggS (rsR (erR 12))]) [] := by
  have hlm : (R.map rowR).length = R.length := List.length_map _
  have hple := posC_le 2 R [a, b]
  have hsp := posC_spec hT pos_lt [a, b]
  have hwide := hT.wide
  have hbel : ∀ (i : Nat) (r : Rw), R[i]? = some r → (ltC 2 r [a, b] = true ↔ i < posC 2 R [a, b]) := fun i r hi => by
    constructor
    · intro hlt
      rcases Nat.lt_or_ge i (posC 2 R [a, b]) with h1 | h1
      · exact h1
      · have : r ∈ R.drop (posC 2 R [a, b]) := by
          refine List.mem_of_getElem? (i := i - posC 2 R [a, b]) ?_
          rw [List.getElem?_drop, show posC 2 R [a, b] + (i - posC 2 R [a, b]) = i by omega]; exact hi
        rw [hsp.2 _ this] at hlt
        exact absurd hlt (by decide)
    · intro h1
      have : r ∈ R.take (posC 2 R [a, b]) := by
        refine List.mem_of_getElem? (i := i) ?_
        rw [List.getElem?_take, if_pos h1]; exact hi
      exact hsp.1 _ this
  have hbf : ∀ r : Rw, r.length = 3 → FnOK Tryz.prog 63 [pS (intsP r), pS (intsP [a, b]), I 2] [] (.bq (ltC 2 r [a, b])) [] := fun r hr => before_ok r [a, b] 2 (by omega) (by simp) (by decide)
  have hhas : ∀ r : Rw, R[posC 2 R [a, b]]? = some r → hasC 2 R [a, b] = decide (r.take 2 = List.take 2 [a, b]) := fun r hr => hasC_at hr
  have hcase : (posC 2 R [a, b] < R.length ∧ ∃ x y w, R[posC 2 R [a, b]]? = some [x, y, w] ∧ hasC 2 R [a, b] = decide ([x, y] = [a, b])) ∨ (posC 2 R [a, b] = R.length ∧ hasC 2 R [a, b] = false) := by
    rcases Nat.lt_or_ge (posC 2 R [a, b]) R.length with h1 | h1
    · obtain ⟨r, hr⟩ := exists_at h1
      have := hhas r hr
      obtain ⟨x, y, w, rfl⟩ := len3 (hwide r (List.mem_of_getElem? hr))
      exact .inl ⟨h1, x, y, w, hr, this⟩
    · refine .inr ⟨by omega, ?_⟩
      unfold hasC
      rw [List.getElem?_eq_none h1]
  rw [hh] at hcase
  clear hsp hT hhas hh
  rw [hp] at hcase hbel hple
  clear hp
  have hY := fail_ok 5 R 12
  refine fn_ok T Tryz.func41 (by kernel_rfl) rfl rfl rfl rfl fun C hC => ?_
  repeat' first
    | refine g_go T hC true 400 rfl rfl ?_
    | (exfalso; simp at h; done)
    | refine g_cond rfl (fun h => ?_) (fun h => ?_)
    | refine g_end T hC (by kernel_rfl) ?_
    | refine g_splitD (fun h => ?_) (fun h => ?_)
    | refine g_splitG rfl rfl rfl (fun h => ?_) (fun h => ?_)
    | refine g_splitP rfl rfl (fun h => ?_) (fun h => ?_)
  rw [hlm]
  refine g_loop (fun i : Nat => i ≤ p) (fun i => ([(2, .one (.bx 1002 0)), (3, .one (.bx 1003 0)), (4, .one (.bx 1004 0)), (5, .one (.bx 1005 0)), (6, I R.length), (10, I i)], [(1002, some (.box [.p (ki 5), .p (rowsP R)])), (1003, some (.box [.p (ki 2), .p (intsP [a, b])])), (1004, some (.box [.p (ki 0), .p (.k (.slice none 0 0))])), (1005, some (.box [.p (ki 0), .p (ki 0), .p (.k (.slice none 0 0))]))])) (fun i => p - i) hC
    0 (Nat.zero_le _) id ⟨rfl, ⟨rfl, rfl, rfl, rfl, rfl, rfl, trivial⟩, ⟨rfl, rfl, rfl, rfl, trivial⟩, rfl, fun _ _ => rfl⟩ ?_
  intro i hi
  clear h
  by_cases hip : i < p
  · obtain ⟨r, hr⟩ := exists_at (l := R) (i := i) (by omega)
    have hB := hbf r (hwide r (List.mem_of_getElem? hr))
    rw [(hbel i r hr).2 hip] at hB
    repeat' first
      | refine g_go T hC true 400 rfl rfl ?_
      | (exfalso; have h2 := of_decide_eq_false h; omega)
      | (exfalso; simp at h; done)
      | refine g_cond rfl (fun h => ?_) (fun h => ?_)
      | refine g_end T hC (by kernel_rfl) ?_
      | refine g_splitD (fun h => ?_) (fun h => ?_)
      | refine g_splitG rfl rfl rfl (fun h => ?_) (fun h => ?_)
      | refine g_splitP rfl rfl (fun h => ?_) (fun h => ?_)
      | refine g_idx T hC (rows := R.map rowR) rfl rfl rfl (Int.natCast_nonneg _) (map_at hr) rfl rfl ?_
      | refine g_call hC (hB) rfl rfl (LeSs.refl _) rfl rfl rfl ?_
    rw [wrapS (by omega)]
    exact g_round (i + 1) (by omega) id (by omega) ⟨rfl, ⟨rfl, rfl, rfl, rfl, rfl, rfl, trivial⟩, ⟨rfl, rfl, rfl, rfl, trivial⟩, rfl, fun _ _ => rfl⟩
  have hpi : p = i := by omega
  subst hpi
  rcases hcase with ⟨hn, x, y, w, hr, hd⟩ | ⟨hn, hd⟩
  · have hB := hbf [x, y, w] rfl
    have hB0 : ltC 2 [x, y, w] [a, b] = false := by
      cases hq : ltC 2 [x, y, w] [a, b] with
      | false => rfl
      | true => exact absurd ((hbel p _ hr).1 hq) (by omega)
    rw [hB0] at hB
    have hrow : (R.map rowR)[(p : Int).toNat]? = some (rowR [x, y, w]) := by rw [Int.toNat_natCast]; exact map_at hr
    have hd2 : x = a → ¬ y = b := by simpa using hd.symm
    repeat' first
      | refine g_go T hC true 400 rfl rfl ?_
      | (exact absurd (of_decide_eq_true h) (hd2 (of_decide_eq_true (by assumption))))
      | (exfalso; have h2 := of_decide_eq_true h; omega)
      | (exfalso; have h2 := of_decide_eq_false h; omega)
      | (exfalso; simp at h; done)
      | refine g_cond rfl (fun h => ?_) (fun h => ?_)
      | refine g_end T hC (by kernel_rfl) ?_
      | refine g_splitD (fun h => ?_) (fun h => ?_)
      | refine g_splitG rfl rfl rfl (fun h => ?_) (fun h => ?_)
      | refine g_splitP rfl rfl (fun h => ?_) (fun h => ?_)
      | refine g_outE ?_
      | refine g_idx T hC (rows := R.map rowR) rfl rfl rfl (Int.natCast_nonneg _) hrow rfl rfl ?_
      | refine g_idx T hC (rows := [x, y, w].map intR) rfl rfl rfl (by decide) rfl rfl rfl ?_
      | refine g_idx T hC (rows := [a, b].map intR) rfl rfl rfl (by decide) rfl rfl rfl ?_
      | refine g_call hC (hB) rfl rfl (LeSs.refl _) rfl rfl rfl ?_
      | refine g_call hC (hY) rfl rfl (LeSs.refl _) rfl rfl rfl ?_
    all_goals first | exact g_fin ⟨.inl rfl, id, _, rfl, .refl _, trivial, rfl, rfl⟩ | (exfalso; clear hbel hbf hwide; simp_all; done)
  · subst hn
    repeat' first
      | refine g_go T hC true 400 rfl rfl ?_
      | (exfalso; have h2 := of_decide_eq_true h; omega)
      | (exfalso; have h2 := of_decide_eq_false h; omega)
      | (exfalso; simp at h; done)
      | refine g_cond rfl (fun h => ?_) (fun h => ?_)
      | refine g_end T hC (by kernel_rfl) ?_
      | refine g_splitD (fun h => ?_) (fun h => ?_)
      | refine g_splitG rfl rfl rfl (fun h => ?_) (fun h => ?_)
      | refine g_splitP rfl rfl (fun h => ?_) (fun h => ?_)
      | refine g_outE ?_
      | refine g_idx T hC (rows := [a, b].map intR) rfl rfl rfl (by decide) rfl rfl rfl ?_
      | refine g_call hC (hY) rfl rfl (LeSs.refl _) rfl rfl rfl ?_
    all_goals first | exact g_fin ⟨.inl rfl, id, _, rfl, .refl _, trivial, rfl, rfl⟩ | (exfalso; clear hbel hbf hwide; simp_all; done)

theorem rpts2 (R : Rws) (hR : R.length ≤ 500) (hT : TabOk 3 (ltC 2) R) (a b v : Int) (p : Nat) (hpl : p < R.length) (hv : (rowA R p)[2]? = some v) (hp : posC 2 R [a, b] = p) (hh : hasC 2 R [a, b] = true) : FnOK Tryz.prog 41 [aggS (stR 5 R), aggS [ki 2, intsP [a, b]]] [] (.tup [aggS (stR 5 (R.eraseIdx p)), aggS (rsR (okR v))]) [] := by
  have hlm : (R.map rowR).length = R.length := List.length_map _
  have hple := posC_le 2 R [a, b]
  have hsp := posC_spec hT pos_lt [a, b]
  have hwide := hT.wide
  have hbel : ∀ (i : Nat) (r : Rw), R[i]? = some r → (ltC 2 r [a, b] = true ↔ i < posC 2 R [a, b]) := fun i r hi => by
    constructor
    · intro hlt
      rcases Nat.lt_or_ge i (posC 2 R [a, b]) with h1 | h1
      · exact h1
      · have : r ∈ R.drop (posC 2 R [a, b]) := by
          refine List.mem_of_getElem? (i := i - posC 2 R [a, b]) ?_
          rw [List.getElem?_drop, show posC 2 R [a, b] + (i - posC 2 R [a, b]) = i by omega]; exact hi
        rw [hsp.2 _ this] at hlt
        exact absurd hlt (by decide)
    · intro h1
      have : r ∈ R.take (posC 2 R [a, b]) := by
        refine List.mem_of_getElem? (i := i) ?_
        rw [List.getElem?_take, if_pos h1]; exact hi
      exact hsp.1 _ this
  have hbf : ∀ r : Rw, r.length = 3 → FnOK Tryz.prog 63 [pS (intsP r), pS (intsP [a, b]), I 2] [] (.bq (ltC 2 r [a, b])) [] := fun r hr => before_ok r [a, b] 2 (by omega) (by simp) (by decide)
  have hhas : ∀ r : Rw, R[posC 2 R [a, b]]? = some r → hasC 2 R [a, b] = decide (r.take 2 = List.take 2 [a, b]) := fun r hr => hasC_at hr
  have hcase : (posC 2 R [a, b] < R.length ∧ ∃ x y w, R[posC 2 R [a, b]]? = some [x, y, w] ∧ hasC 2 R [a, b] = decide ([x, y] = [a, b])) ∨ (posC 2 R [a, b] = R.length ∧ hasC 2 R [a, b] = false) := by
    rcases Nat.lt_or_ge (posC 2 R [a, b]) R.length with h1 | h1
    · obtain ⟨r, hr⟩ := exists_at h1
      have := hhas r hr
      obtain ⟨x, y, w, rfl⟩ := len3 (hwide r (List.mem_of_getElem? hr))
      exact .inl ⟨h1, x, y, w, hr, this⟩
    · refine .inr ⟨by omega, ?_⟩
      unfold hasC
      rw [List.getElem?_eq_none h1]
  rw [hh] at hcase
  clear hsp hT hhas hh
  rw [hp] at hcase hbel hple
  clear hp
  have hY := yield_ok 5 (R.eraseIdx p) v
  have hX := cut_ok R (by omega) p hpl
  refine fn_ok T Tryz.func41 (by kernel_rfl) rfl rfl rfl rfl fun C hC => ?_
  repeat' first
    | refine g_go T hC true 400 rfl rfl ?_
    | (exfalso; simp at h; done)
    | refine g_cond rfl (fun h => ?_) (fun h => ?_)
    | refine g_end T hC (by kernel_rfl) ?_
    | refine g_splitD (fun h => ?_) (fun h => ?_)
    | refine g_splitG rfl rfl rfl (fun h => ?_) (fun h => ?_)
    | refine g_splitP rfl rfl (fun h => ?_) (fun h => ?_)
  rw [hlm]
  refine g_loop (fun i : Nat => i ≤ p) (fun i => ([(2, .one (.bx 1002 0)), (3, .one (.bx 1003 0)), (4, .one (.bx 1004 0)), (5, .one (.bx 1005 0)), (6, I R.length), (10, I i)], [(1002, some (.box [.p (ki 5), .p (rowsP R)])), (1003, some (.box [.p (ki 2), .p (intsP [a, b])])), (1004, some (.box [.p (ki 0), .p (.k (.slice none 0 0))])), (1005, some (.box [.p (ki 0), .p (ki 0), .p (.k (.slice none 0 0))]))])) (fun i => p - i) hC
    0 (Nat.zero_le _) id ⟨rfl, ⟨rfl, rfl, rfl, rfl, rfl, rfl, trivial⟩, ⟨rfl, rfl, rfl, rfl, trivial⟩, rfl, fun _ _ => rfl⟩ ?_
  intro i hi
  clear h
  by_cases hip : i < p
  · obtain ⟨r, hr⟩ := exists_at (l := R) (i := i) (by omega)
    have hB := hbf r (hwide r (List.mem_of_getElem? hr))
    rw [(hbel i r hr).2 hip] at hB
    repeat' first
      | refine g_go T hC true 400 rfl rfl ?_
      | (exfalso; have h2 := of_decide_eq_false h; omega)
      | (exfalso; simp at h; done)
      | refine g_cond rfl (fun h => ?_) (fun h => ?_)
      | refine g_end T hC (by kernel_rfl) ?_
      | refine g_splitD (fun h => ?_) (fun h => ?_)
      | refine g_splitG rfl rfl rfl (fun h => ?_) (fun h => ?_)
      | refine g_splitP rfl rfl (fun h => ?_) (fun h => ?_)
      | refine g_idx T hC (rows := R.map rowR) rfl rfl rfl (Int.natCast_nonneg _) (map_at hr) rfl rfl ?_
      | refine g_call hC (hB) rfl rfl (LeSs.refl _) rfl rfl rfl ?_
    rw [wrapS (by omega)]
    exact g_round (i + 1) (by omega) id (by omega) ⟨rfl, ⟨rfl, rfl, rfl, rfl, rfl, rfl, trivial⟩, ⟨rfl, rfl, rfl, rfl, trivial⟩, rfl, fun _ _ => rfl⟩
  have hpi : p = i := by omega
  subst hpi
  rcases hcase with ⟨hn, x, y, w, hr, hd⟩ | ⟨hn, hd⟩
  · have hB := hbf [x, y, w] rfl
    have hB0 : ltC 2 [x, y, w] [a, b] = false := by
      cases hq : ltC 2 [x, y, w] [a, b] with
      | false => rfl
      | true => exact absurd ((hbel p _ hr).1 hq) (by omega)
    rw [hB0] at hB
    have hrow : (R.map rowR)[(p : Int).toNat]? = some (rowR [x, y, w]) := by rw [Int.toNat_natCast]; exact map_at hr
    obtain rfl : w = v := by rw [rowA_of hr] at hv; exact Option.some.inj hv
    have hd2 : x = a ∧ y = b := by simpa using hd.symm
    repeat' first
      | refine g_go T hC true 400 rfl rfl ?_
      | (exfalso; have h2 := of_decide_eq_true h; omega)
      | (exfalso; have h2 := of_decide_eq_false h; omega)
      | (exfalso; simp at h; done)
      | refine g_cond rfl (fun h => ?_) (fun h => ?_)
      | refine g_end T hC (by kernel_rfl) ?_
      | refine g_splitD (fun h => ?_) (fun h => ?_)
      | refine g_splitG rfl rfl rfl (fun h => ?_) (fun h => ?_)
      | refine g_splitP rfl rfl (fun h => ?_) (fun h => ?_)
      | refine g_outE ?_
      | refine g_idx T hC (rows := R.map rowR) rfl rfl rfl (Int.natCast_nonneg _) hrow rfl rfl ?_
      | refine g_idx T hC (rows := [x, y, w].map intR) rfl rfl rfl (by decide) rfl rfl rfl ?_
      | refine g_idx T hC (rows := [a, b].map intR) rfl rfl rfl (by decide) rfl rfl rfl ?_
      | refine g_call hC (hB) rfl rfl (LeSs.refl _) rfl rfl rfl ?_
      | refine g_call hC (hX) rfl rfl (LeSs.refl _) rfl rfl rfl ?_
      | refine g_call hC (hY) rfl rfl (LeSs.refl _) rfl rfl rfl ?_
    all_goals first | exact g_fin ⟨.inl rfl, id, _, rfl, .refl _, trivial, rfl, rfl⟩ | (exfalso; clear hbel hbf hwide; simp_all; done)
  · cases hd
end Hw.Mz
namespace Hw.Mz
open Go Go.Proofs Go.Shelf Hw.M

/-! models: the reference's partitions -/
theorem size_ok (R : Rws) (hR : R.length ≤ 500) (hf : R.flatten.length ≤ 500) : FnOK Tryz.prog 69 [aggS (stR 4 R)] [] (I R.flatten.length) [] := by
  have hlm : (R.map rowR).length = R.length := List.length_map _
  refine fn_ok T Tryz.func69 (by kernel_rfl) rfl rfl rfl rfl fun C hC => ?_
  repeat' first
    | refine g_go T hC true 400 rfl rfl ?_
    | (exfalso; simp at h; done)
    | refine g_cond rfl (fun h => ?_) (fun h => ?_)
    | refine g_end T hC (by kernel_rfl) ?_
    | refine g_splitD (fun h => ?_) (fun h => ?_)
    | refine g_splitG rfl rfl rfl (fun h => ?_) (fun h => ?_)
    | refine g_splitP rfl rfl (fun h => ?_) (fun h => ?_)
  refine g_loop (fun i : Nat => i ≤ R.length) (fun i => ([(1, .one (.bx 1001 0)), (3, I (R.take i).flatten.length), (4, I i)], [(1001, some (.box [.p (ki 4), .p (rowsP R)]))])) (fun i => R.length - i) hC
    0 (Nat.zero_le _) id ⟨rfl, ⟨rfl, rfl, rfl, trivial⟩, ⟨rfl, trivial⟩, rfl, fun _ _ => rfl⟩ ?_
  intro i hi
  refine g_run' T hC true 200 rfl ?_
  refine g_cond rfl (fun h => ?_) (fun h => ?_)
  · have hlt : i < R.length := by simpa using h
    clear h
    obtain ⟨r, hr⟩ := exists_at hlt
    have hfl := flat_take hr
    have hle := flat_take_le R (i + 1)
    have hrl : (r.map intR).length = r.length := List.length_map _
    repeat' first
      | refine g_go T hC true 400 rfl rfl ?_
      | refine g_cond rfl (fun h => ?_) (fun h => ?_)
      | refine g_end T hC (by kernel_rfl) ?_
      | refine g_splitD (fun h => ?_) (fun h => ?_)
      | refine g_splitG rfl rfl rfl (fun h => ?_) (fun h => ?_)
      | refine g_splitP rfl rfl (fun h => ?_) (fun h => ?_)
      | refine g_idx T hC (rows := R.map rowR) rfl rfl rfl (Int.natCast_nonneg _) (map_at hr) rfl rfl ?_
    rw [hrl, wrapS (by omega), show IntKind.i64.wrap (((R.take i).flatten.length : Int) + (r.length : Int)) = (((R.take (i + 1)).flatten.length : Nat) : Int) by rw [hfl, wrap64 (by omega)]; omega]
    exact g_round (i + 1) (by omega) id (by omega) ⟨rfl, ⟨rfl, rfl, rfl, trivial⟩, ⟨rfl, trivial⟩, rfl, fun _ _ => rfl⟩
  · have hge : ¬ i < R.length := by simpa using h
    have e : R.take i = R := List.take_of_length_le (by omega)
    rw [e]
    repeat' first
      | refine g_go T hC true 400 rfl rfl ?_
      | refine g_cond rfl (fun h => ?_) (fun h => ?_)
      | refine g_end T hC (by kernel_rfl) ?_
      | refine g_splitD (fun h => ?_) (fun h => ?_)
      | refine g_splitG rfl rfl rfl (fun h => ?_) (fun h => ?_)
      | refine g_splitP rfl rfl (fun h => ?_) (fun h => ?_)
      | refine g_outE ?_
    all_goals exact g_fin ⟨.inl rfl, id, _, rfl, .refl _, trivial, rfl, rfl⟩
theorem rclass_ok (R : Rws) (hR : R.length ≤ 500) (hw : ∀ r ∈ R, r.length ≤ 500) (x : Int) : FnOK Tryz.prog 70 [aggS (stR 4 R), I x] [] (I (clsI x R 0)) [] := by
  have hlm : (R.map rowR).length = R.length := List.length_map _
  refine fn_ok T Tryz.func70 (by kernel_rfl) rfl rfl rfl rfl fun C hC => ?_
  repeat' first
    | refine g_go T hC true 400 rfl rfl ?_
    | refine g_cond rfl (fun h => ?_) (fun h => ?_)
    | refine g_end T hC (by kernel_rfl) ?_
    | refine g_splitD (fun h => ?_) (fun h => ?_)
    | refine g_splitG rfl rfl rfl (fun h => ?_) (fun h => ?_)
    | refine g_splitP rfl rfl (fun h => ?_) (fun h => ?_)
  refine g_loop (fun i : Nat => i ≤ R.length ∧ clsI x (R.drop i) i = clsI x R 0) (fun i => ([(1, I x), (2, .one (.bx 1002 0)), (5, I i)], [(1002, some (.box [.p (ki 4), .p (rowsP R)]))])) (fun i => R.length - i) hC
    0 ⟨Nat.zero_le _, rfl⟩ id ⟨rfl, ⟨rfl, rfl, rfl, trivial⟩, ⟨rfl, trivial⟩, rfl, fun _ _ => rfl⟩ ?_
  rintro i ⟨hi, hn⟩
  refine g_run' T hC true 200 rfl ?_
  refine g_cond rfl (fun h => ?_) (fun h => ?_)
  · have hlt : i < R.length := by simpa using h
    clear h
    obtain ⟨r, hr⟩ := exists_at hlt
    have hrl := hw r (List.mem_of_getElem? hr)
    have hlr : (r.map intR).length = r.length := List.length_map _
    have hd : R.drop i = r :: R.drop (i + 1) := by
      obtain ⟨h1, h2⟩ := List.getElem?_eq_some_iff.1 hr
      rw [List.drop_eq_getElem_cons h1, h2]
    rw [hd] at hn
    simp only [clsI] at hn
    repeat' first
      | refine g_go T hC true 400 rfl rfl ?_
      | refine g_cond rfl (fun h => ?_) (fun h => ?_)
      | refine g_end T hC (by kernel_rfl) ?_
      | refine g_splitD (fun h => ?_) (fun h => ?_)
      | refine g_splitG rfl rfl rfl (fun h => ?_) (fun h => ?_)
      | refine g_splitP rfl rfl (fun h => ?_) (fun h => ?_)
    refine g_loop (fun k : Nat => k ≤ r.length ∧ x ∉ r.take k) (fun k => ([(1, I x), (2, .one (.bx 1002 0)), (5, I i), (6, I k)], [(1002, some (.box [.p (ki 4), .p (rowsP R)]))])) (fun k => r.length - k) hC
      0 ⟨Nat.zero_le _, by simp⟩ id ⟨rfl, ⟨rfl, rfl, rfl, rfl, trivial⟩, ⟨rfl, trivial⟩, rfl, fun _ _ => rfl⟩ ?_
    rintro k ⟨hk, hnk⟩
    refine g_go T hC true 400 rfl rfl ?_
    refine g_idx T hC (rows := R.map rowR) rfl rfl rfl (Int.natCast_nonneg _) (map_at hr) rfl rfl ?_
    refine g_go T hC true 400 rfl rfl ?_
    refine g_cond rfl (fun h => ?_) (fun h => ?_)
    · have hkt : k < r.length := by simpa using h
      clear h
      obtain ⟨y, hy⟩ := exists_at hkt
      by_cases c1 : y = x
      · subst c1
        rw [if_pos (List.mem_of_getElem? hy)] at hn
        rw [← hn]
        repeat' first
          | refine g_go T hC true 400 rfl rfl ?_
          | (exfalso; simp at h; done)
          | refine g_cond rfl (fun h => ?_) (fun h => ?_)
          | refine g_end T hC (by kernel_rfl) ?_
          | refine g_splitD (fun h => ?_) (fun h => ?_)
          | refine g_splitG rfl rfl rfl (fun h => ?_) (fun h => ?_)
          | refine g_splitP rfl rfl (fun h => ?_) (fun h => ?_)
          | refine g_idx T hC (rows := R.map rowR) rfl rfl rfl (Int.natCast_nonneg _) (map_at hr) rfl rfl ?_
          | refine g_idx T hC (rows := r.map intR) (i := (k : Int)) rfl rfl rfl (Int.natCast_nonneg _) (map_at hy) rfl rfl ?_
          | refine g_outR ?_
          | refine g_outR ?_
        all_goals exact g_fin ⟨.inl rfl, id, _, rfl, .refl _, trivial, rfl, rfl⟩
      · repeat' first
          | refine g_go T hC true 400 rfl rfl ?_
          | (exact absurd (of_decide_eq_true h) c1)
          | refine g_cond rfl (fun h => ?_) (fun h => ?_)
          | refine g_end T hC (by kernel_rfl) ?_
          | refine g_splitD (fun h => ?_) (fun h => ?_)
          | refine g_splitG rfl rfl rfl (fun h => ?_) (fun h => ?_)
          | refine g_splitP rfl rfl (fun h => ?_) (fun h => ?_)
          | refine g_idx T hC (rows := R.map rowR) rfl rfl rfl (Int.natCast_nonneg _) (map_at hr) rfl rfl ?_
          | refine g_idx T hC (rows := r.map intR) (i := (k : Int)) rfl rfl rfl (Int.natCast_nonneg _) (map_at hy) rfl rfl ?_
          | refine g_outR ?_
          | refine g_outR ?_
        rw [wrapS (by omega)]
        exact g_round (k + 1) ⟨by omega, by rw [take_snoc hy, List.mem_append, List.mem_singleton]; exact fun e => e.elim hnk fun e => c1 e.symm⟩ id (by omega) ⟨rfl, ⟨rfl, rfl, rfl, rfl, trivial⟩, ⟨rfl, trivial⟩, rfl, fun _ _ => rfl⟩
    · have hge : ¬ k < r.length := by simpa using h
      rw [List.take_of_length_le (by omega)] at hnk
      rw [if_neg hnk] at hn
      repeat' first
        | refine g_go T hC true 400 rfl rfl ?_
        | refine g_cond rfl (fun h => ?_) (fun h => ?_)
        | refine g_end T hC (by kernel_rfl) ?_
        | refine g_splitD (fun h => ?_) (fun h => ?_)
        | refine g_splitG rfl rfl rfl (fun h => ?_) (fun h => ?_)
        | refine g_splitP rfl rfl (fun h => ?_) (fun h => ?_)
        | refine g_outE ?_
      rw [wrapS (by omega)]
      exact g_round (i + 1) ⟨by omega, hn⟩ id (by omega) ⟨rfl, ⟨rfl, rfl, rfl, trivial⟩, ⟨rfl, trivial⟩, rfl, fun _ _ => rfl⟩
  · have hge : ¬ i < R.length := by simpa using h
    rw [List.drop_of_length_le (by omega)] at hn
    simp only [clsI] at hn
    rw [← hn]
    repeat' first
      | refine g_go T hC true 400 rfl rfl ?_
      | refine g_cond rfl (fun h => ?_) (fun h => ?_)
      | refine g_end T hC (by kernel_rfl) ?_
      | refine g_splitD (fun h => ?_) (fun h => ?_)
      | refine g_splitG rfl rfl rfl (fun h => ?_) (fun h => ?_)
      | refine g_splitP rfl rfl (fun h => ?_) (fun h => ?_)
      | refine g_outE ?_
    all_goals exact g_fin ⟨.inl rfl, id, _, rfl, .refl _, trivial, rfl, rfl⟩
theorem merged_ok (a b : List Int) (ha : a.length ≤ 500) (hb : b.length ≤ 500) : FnOK Tryz.prog 71 [pS (intsP a), pS (intsP b)] [] (pS (intsP (mergeI a b))) [] := by
  have hla : (a.map intR).length = a.length := List.length_map _
  have hlb : (b.map intR).length = b.length := List.length_map _
  refine fn_ok T Tryz.func71 (by kernel_rfl) rfl rfl rfl rfl fun C hC => ?_
  repeat' first
    | refine g_go T hC true 400 rfl rfl ?_
    | refine g_cond rfl (fun h => ?_) (fun h => ?_)
    | refine g_end T hC (by kernel_rfl) ?_
    | refine g_splitD (fun h => ?_) (fun h => ?_)
    | refine g_splitG rfl rfl rfl (fun h => ?_) (fun h => ?_)
    | refine g_splitP rfl rfl (fun h => ?_) (fun h => ?_)
  refine g_adopt hC rfl 103 1 rfl [(5, .one (.ar 103))] ⟨⟨_, rfl, AdS.nil⟩, trivial⟩ [] trivial ?_
  refine g_loop (fun q : Nat × Nat × List Int => q.1 ≤ a.length ∧ q.2.1 ≤ b.length ∧ q.2.2.length = q.1 + q.2.1 ∧ q.2.2 ++ mergeI (a.drop q.1) (b.drop q.2.1) = mergeI a b) (fun q => ([(0, pS (intsP a)), (1, pS (intsP b)), (5, .one (.ar 103)), (6, I q.1), (7, I q.2.1)], [(103, some (.arr 1 (q.2.2.map intR)))])) (fun q => (a.length - q.1) + (b.length - q.2.1)) hC
    (0, 0, []) ⟨Nat.zero_le _, Nat.zero_le _, rfl, rfl⟩ id ⟨rfl, ⟨rfl, rfl, rfl, rfl, rfl, trivial⟩, ⟨rfl, trivial⟩, rfl, fun _ _ => rfl⟩ ?_
  rintro ⟨i, k, z⟩ ⟨hi, hk, hz, hn⟩
  simp only at hi hk hz hn
  have hzl : (z.map intR).length = z.length := List.length_map _
  rcases Nat.lt_or_ge i a.length with hia | hia
  · obtain ⟨x, hx⟩ := exists_at hia
    rw [dropI hx] at hn
    rcases Nat.lt_or_ge k b.length with hkb | hkb
    · obtain ⟨y, hy⟩ := exists_at hkb
      rw [dropI hy] at hn
      by_cases c1 : x < y
      · have hn2 : (z ++ [x]) ++ mergeI (a.drop (i + 1)) (b.drop k) = mergeI a b := by
          rw [← hn, dropI hy, List.append_assoc]
          conv => rhs; rw [mergeI, if_pos c1]
          rfl
        repeat' first
          | refine g_go T hC true 400 rfl rfl ?_
          | (exfalso; first | (simp only [decide_eq_true_eq, decide_eq_false_iff_not, List.length_map, Bool.not_eq_true', Bool.not_eq_false'] at *; omega) | (simp at h; done))
          | (exact absurd c1 (of_decide_eq_false h))
          | refine g_cond rfl (fun h => ?_) (fun h => ?_)
          | refine g_end T hC (by kernel_rfl) ?_
          | refine g_splitD (fun h => ?_) (fun h => ?_)
          | refine g_splitG rfl rfl rfl (fun h => ?_) (fun h => ?_)
          | refine g_splitP rfl rfl (fun h => ?_) (fun h => ?_)
          | refine g_idx T hC (rows := a.map intR) (i := (i : Int)) rfl rfl rfl (Int.natCast_nonneg _) (map_at hx) rfl rfl ?_
          | refine g_idx T hC (rows := b.map intR) (i := (k : Int)) rfl rfl rfl (Int.natCast_nonneg _) (map_at hy) rfl rfl ?_
          | refine g_lit T hC rfl rfl rfl rfl rfl rfl rfl rfl rfl ?_
          | refine g_append T 106 hC (id := 103) (rows := z.map intR) (rows2 := [intR x]) (rows3 := (z ++ [x]).map intR) (bytes := 8) rfl rfl rfl rfl (SrcS.sl (T.es_ok _ _ rfl)) (by rw [List.map_append]; rfl) rfl rfl rfl (by kernel_rfl) (by rw [hzl, List.length_singleton]; omega) (by rw [hzl, List.length_singleton]; omega) rfl rfl rfl ?_
        all_goals rw [wrapS (by omega)]
        all_goals exact g_round (i + 1, k, z ++ [x]) ⟨by simp only; omega, hk, by simp; omega, hn2⟩ (mvU 103 106) (by simp only; omega) ⟨rfl, ⟨rfl, rfl, rfl, rfl, rfl, trivial⟩, ⟨rfl, trivial⟩, rfl, fun i hi => mvU_low (by omega) hi⟩
      · have hn2 : (z ++ [y]) ++ mergeI (a.drop i) (b.drop (k + 1)) = mergeI a b := by
          rw [← hn, dropI hx, List.append_assoc]
          conv => rhs; rw [mergeI, if_neg c1]
          rfl
        repeat' first
          | refine g_go T hC true 400 rfl rfl ?_
          | (exfalso; first | (simp only [decide_eq_true_eq, decide_eq_false_iff_not, List.length_map, Bool.not_eq_true', Bool.not_eq_false'] at *; omega) | (simp at h; done))
          | (exact absurd (of_decide_eq_true h) c1)
          | refine g_cond rfl (fun h => ?_) (fun h => ?_)
          | refine g_end T hC (by kernel_rfl) ?_
          | refine g_splitD (fun h => ?_) (fun h => ?_)
          | refine g_splitG rfl rfl rfl (fun h => ?_) (fun h => ?_)
          | refine g_splitP rfl rfl (fun h => ?_) (fun h => ?_)
          | refine g_idx T hC (rows := a.map intR) (i := (i : Int)) rfl rfl rfl (Int.natCast_nonneg _) (map_at hx) rfl rfl ?_
          | refine g_idx T hC (rows := b.map intR) (i := (k : Int)) rfl rfl rfl (Int.natCast_nonneg _) (map_at hy) rfl rfl ?_
          | refine g_lit T hC rfl rfl rfl rfl rfl rfl rfl rfl rfl ?_
          | refine g_append T 106 hC (id := 103) (rows := z.map intR) (rows2 := [intR y]) (rows3 := (z ++ [y]).map intR) (bytes := 8) rfl rfl rfl rfl (SrcS.sl (T.es_ok _ _ rfl)) (by rw [List.map_append]; rfl) rfl rfl rfl (by kernel_rfl) (by rw [hzl, List.length_singleton]; omega) (by rw [hzl, List.length_singleton]; omega) rfl rfl rfl ?_
        all_goals rw [show IntKind.i64.wrap ((k : Int) + 1) = ((k + 1 : Nat) : Int) from wrapS (by omega)]
        all_goals exact g_round (i, k + 1, z ++ [y]) ⟨hi, by simp only; omega, by simp; omega, hn2⟩ (mvU 103 106) (by simp only; omega) ⟨rfl, ⟨rfl, rfl, rfl, rfl, rfl, trivial⟩, ⟨rfl, trivial⟩, rfl, fun i hi => mvU_low (by omega) hi⟩
    · have hn2 : (z ++ [x]) ++ mergeI (a.drop (i + 1)) (b.drop k) = mergeI a b := by
        rw [← hn, List.drop_of_length_le hkb, mergeI_nil, mergeI_nil, List.append_assoc]; rfl
      repeat' first
        | refine g_go T hC true 400 rfl rfl ?_
        | (exfalso; first | (simp only [decide_eq_true_eq, decide_eq_false_iff_not, List.length_map, Bool.not_eq_true', Bool.not_eq_false'] at *; omega) | (simp at h; done))
        | refine g_cond rfl (fun h => ?_) (fun h => ?_)
        | refine g_end T hC (by kernel_rfl) ?_
        | refine g_splitD (fun h => ?_) (fun h => ?_)
        | refine g_splitG rfl rfl rfl (fun h => ?_) (fun h => ?_)
        | refine g_splitP rfl rfl (fun h => ?_) (fun h => ?_)
        | refine g_idx T hC (rows := a.map intR) (i := (i : Int)) rfl rfl rfl (Int.natCast_nonneg _) (map_at hx) rfl rfl ?_
        | refine g_lit T hC rfl rfl rfl rfl rfl rfl rfl rfl rfl ?_
        | refine g_append T 106 hC (id := 103) (rows := z.map intR) (rows2 := [intR x]) (rows3 := (z ++ [x]).map intR) (bytes := 8) rfl rfl rfl rfl (SrcS.sl (T.es_ok _ _ rfl)) (by rw [List.map_append]; rfl) rfl rfl rfl (by kernel_rfl) (by rw [hzl, List.length_singleton]; omega) (by rw [hzl, List.length_singleton]; omega) rfl rfl rfl ?_
      all_goals rw [wrapS (by omega)]
      all_goals exact g_round (i + 1, k, z ++ [x]) ⟨by simp only; omega, hk, by simp; omega, hn2⟩ (mvU 103 106) (by simp only; omega) ⟨rfl, ⟨rfl, rfl, rfl, rfl, rfl, trivial⟩, ⟨rfl, trivial⟩, rfl, fun i hi => mvU_low (by omega) hi⟩
  · rw [List.drop_of_length_le hia] at hn
    rcases Nat.lt_or_ge k b.length with hkb | hkb
    · obtain ⟨y, hy⟩ := exists_at hkb
      have hn2 : (z ++ [y]) ++ mergeI (a.drop i) (b.drop (k + 1)) = mergeI a b := by
        rw [← hn, List.drop_of_length_le hia, dropI hy, List.append_assoc]
        simp [mergeI]
      repeat' first
        | refine g_go T hC true 400 rfl rfl ?_
        | (exfalso; first | (simp only [decide_eq_true_eq, decide_eq_false_iff_not, List.length_map, Bool.not_eq_true', Bool.not_eq_false'] at *; omega) | (simp at h; done))
        | refine g_cond rfl (fun h => ?_) (fun h => ?_)
        | refine g_end T hC (by kernel_rfl) ?_
        | refine g_splitD (fun h => ?_) (fun h => ?_)
        | refine g_splitG rfl rfl rfl (fun h => ?_) (fun h => ?_)
        | refine g_splitP rfl rfl (fun h => ?_) (fun h => ?_)
        | refine g_idx T hC (rows := b.map intR) (i := (k : Int)) rfl rfl rfl (Int.natCast_nonneg _) (map_at hy) rfl rfl ?_
        | refine g_lit T hC rfl rfl rfl rfl rfl rfl rfl rfl rfl ?_
        | refine g_append T 106 hC (id := 103) (rows := z.map intR) (rows2 := [intR y]) (rows3 := (z ++ [y]).map intR) (bytes := 8) rfl rfl rfl rfl (SrcS.sl (T.es_ok _ _ rfl)) (by rw [List.map_append]; rfl) rfl rfl rfl (by kernel_rfl) (by rw [hzl, List.length_singleton]; omega) (by rw [hzl, List.length_singleton]; omega) rfl rfl rfl ?_
      all_goals rw [show IntKind.i64.wrap ((k : Int) + 1) = ((k + 1 : Nat) : Int) from wrapS (by omega)]
      all_goals exact g_round (i, k + 1, z ++ [y]) ⟨hi, by simp only; omega, by simp; omega, hn2⟩ (mvU 103 106) (by simp only; omega) ⟨rfl, ⟨rfl, rfl, rfl, rfl, rfl, trivial⟩, ⟨rfl, trivial⟩, rfl, fun i hi => mvU_low (by omega) hi⟩
    · have hn2 : z = mergeI a b := by
        rw [← hn, List.drop_of_length_le hkb]; simp [mergeI]
      rw [hn2]
      repeat' first
        | refine g_go T hC true 400 rfl rfl ?_
        | (exfalso; first | (simp only [decide_eq_true_eq, decide_eq_false_iff_not, List.length_map, Bool.not_eq_true', Bool.not_eq_false'] at *; omega) | (simp at h; done))
        | refine g_cond rfl (fun h => ?_) (fun h => ?_)
        | refine g_end T hC (by kernel_rfl) ?_
        | refine g_splitD (fun h => ?_) (fun h => ?_)
        | refine g_splitG rfl rfl rfl (fun h => ?_) (fun h => ?_)
        | refine g_splitP rfl rfl (fun h => ?_) (fun h => ?_)
        | refine g_outE ?_
      refine g_freeze rfl (id := 103) (e := 1) (rows := (mergeI a b).map intR) rfl [(4, pS (intsP (mergeI a b)))] ⟨⟨_, rfl, FrS.ar⟩, trivial⟩ [] trivial ?_
      exact g_fin ⟨.inl rfl, id, _, rfl, .refl _, trivial, rfl, rfl⟩
end Hw.Mz
