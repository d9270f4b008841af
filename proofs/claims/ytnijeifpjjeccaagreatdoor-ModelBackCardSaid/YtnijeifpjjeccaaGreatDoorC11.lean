/- The engine and the contracts. -/
import Derived.Test.YtnijeifpjjeccaaGreatDoorC10
set_option linter.unusedVariables false
set_option linter.unusedSimpArgs false
namespace Hw.Mq
open Go Go.Proofs Go.Shelf Hw.M

/-! models: sets of points on rows of the run's own -/
def cntB (A : Rw) (l : Rws) : Int := (l.filter (inBox A)).length
def sumB (A : Rw) (l : Rws) : Int := ((l.filter (inBox A)).map fun r => at0 r 2).sum
theorem cntB_yes {A : Rw} {l : Rws} {r : Rw} (h : inBox A r = true) : cntB A (l ++ [r]) = cntB A l + 1 := by
  simp only [cntB, List.filter_append, List.filter_cons, h, if_pos, List.filter_nil, List.length_append, List.length_cons, List.length_nil]; omega
theorem cntB_no {A : Rw} {l : Rws} {r : Rw} (h : inBox A r = false) : cntB A (l ++ [r]) = cntB A l := by
  simp [cntB, List.filter_append, List.filter_cons, h]
theorem sumB_yes {A : Rw} {l : Rws} {r : Rw} (h : inBox A r = true) : sumB A (l ++ [r]) = sumB A l + at0 r 2 := by
  simp [sumB, List.filter_append, List.filter_cons, h]
theorem sumB_no {A : Rw} {l : Rws} {r : Rw} (h : inBox A r = false) : sumB A (l ++ [r]) = sumB A l := by
  simp [sumB, List.filter_append, List.filter_cons, h]
theorem cntB_bound {A : Rw} {l : Rws} {n : Nat} (h : l.length ≤ n) : 0 ≤ cntB A l ∧ cntB A l ≤ n := by
  have := List.length_filter_le (inBox A) l
  simp only [cntB]; omega
theorem sumB_bound {A : Rw} : ∀ {l : Rws} {n : Nat}, l.length ≤ n → (∀ r ∈ l, -1048576 ≤ at0 r 2 ∧ at0 r 2 ≤ 1048576) → -(1048576 * (n : Int)) ≤ sumB A l ∧ sumB A l ≤ 1048576 * (n : Int)
  | [], n, _, _ => by simp only [sumB, List.filter_nil, List.map_nil, List.sum_nil]; omega
  | r :: l, 0, h, _ => by simp at h
  | r :: l, n + 1, h, hb => by
    have h1 := hb r (List.mem_cons_self ..)
    have h2 := sumB_bound (A := A) (l := l) (n := n) (by simpa using h) fun x hx => hb x (List.mem_cons_of_mem _ hx)
    cases hi : inBox A r with
    | true => simp only [sumB, List.filter_cons, hi, if_pos, List.map_cons, List.sum_cons] at h2 ⊢; omega
    | false => simp only [sumB, List.filter_cons, hi, Bool.false_eq_true, if_false] at h2 ⊢; omega

theorem pts5 (R : Rws) (hR : R.length ≤ 500)  : FnOK Tryz.prog 59 [.one (.ar 0), aggS [ki 5, intsP []]] [(0, vg 1 R.length), (1, bg R)] (.tup [.one (.ar 2), aggS (rsR (okR R.length))]) [(2, vg 3 R.length), (3, bg R)] := by
  have hN := result_ok R.length
  refine fn_ok T Tryz.func59 (by kernel_rfl) rfl rfl rfl rfl fun C hC => ?_
  repeat' first
    | refine g_go T hC true 400 rfl rfl ?_
    | (exfalso; first | (simp only [decide_eq_true_eq, decide_eq_false_iff_not, List.length_map, Bool.not_eq_true', Bool.not_eq_false'] at *; omega) | (simp at h; done))
    | refine g_cond rfl (fun h => ?_) (fun h => ?_)
    | refine g_end T hC (by kernel_rfl) ?_
    | refine g_splitD (fun h => ?_) (fun h => ?_)
    | refine g_splitG rfl rfl rfl (fun h => ?_) (fun h => ?_)
    | refine g_splitP rfl rfl (fun h => ?_) (fun h => ?_)
    | refine g_lenG T hC rfl rfl rfl rfl rfl rfl ?_
    | refine g_call hC (hN) rfl rfl (LeSs.refl _) rfl rfl rfl ?_
  all_goals exact g_fin ⟨.inl rfl, nm [0, 1, 0, 1], _, rfl, .refl _, ⟨rfl, rfl, trivial⟩, rfl, rfl⟩

theorem pts3 (R : Rws) (hR : R.length ≤ 500) (a b c d : Int) (hn : ∀ r ∈ R, r.length = 3 ∧ ∀ x ∈ r, -1048576 ≤ x ∧ x ≤ 1048576) :
    FnOK Tryz.prog 59 [.one (.ar 0), aggS [ki 3, intsP [a, b, c, d]]] [(0, vg 1 R.length), (1, bg R)] (.tup [.one (.ar 2), aggS (rsR (okR (cntB [a, b, c, d] R)))]) [(2, vg 3 R.length), (3, bg R)] := by
  have hN := result_ok (cntB [a, b, c, d] R)
  refine fn_ok T Tryz.func59 (by kernel_rfl) rfl rfl rfl rfl fun C hC => ?_
  repeat' first
    | refine g_go T hC true 400 rfl rfl ?_
    | (exfalso; first | (simp only [decide_eq_true_eq, decide_eq_false_iff_not, List.length_map, Bool.not_eq_true', Bool.not_eq_false'] at *; omega) | (simp at h; done))
    | refine g_cond rfl (fun h => ?_) (fun h => ?_)
    | refine g_end T hC (by kernel_rfl) ?_
    | refine g_splitD (fun h => ?_) (fun h => ?_)
    | refine g_splitG rfl rfl rfl (fun h => ?_) (fun h => ?_)
    | refine g_splitP rfl rfl (fun h => ?_) (fun h => ?_)
    | refine g_lenG T hC rfl rfl rfl rfl rfl rfl ?_
  refine g_loop (fun i : Nat => i ≤ R.length) (fun i => ([(0, .one (.ar 0)), (3, .one (.bx 1003 0)), (5, .one (.bx 1005 0)), (6, I (cntB [a, b, c, d] (R.take i))), (7, I (sumB [a, b, c, d] (R.take i))), (24, .one (.ar 0)), (25, I R.length), (26, I i)], [(0, some (vg 1 R.length)), (1, some (bg R)), (1003, some (.box [.p (ki 3), .p (intsP [a, b, c, d])])), (1005, some (.box [.p (ki 0), .p (ki 0), .p (.k (.slice none 0 0))]))])) (fun i => R.length - i) hC
    0 (Nat.zero_le _) id ⟨rfl, ⟨rfl, rfl, rfl, rfl, rfl, rfl, rfl, rfl, trivial⟩, ⟨rfl, rfl, rfl, rfl, trivial⟩, rfl, fun _ _ => rfl⟩ ?_
  intro i hi
  refine g_run' T hC true 200 rfl ?_
  refine g_cond rfl (fun h => ?_) (fun h => ?_)
  · have hlt : i < R.length := by simpa using h
    clear h
    obtain ⟨r, hq⟩ := exists_at hlt
    obtain ⟨h0, h1⟩ := hn r (List.mem_of_getElem? hq)
    have hb1 := cntB_bound (A := [a, b, c, d]) (l := R.take i) (n := 500) (by rw [List.length_take]; omega)
    have hb2 := sumB_bound (A := [a, b, c, d]) (l := R.take i) (n := 500) (by rw [List.length_take]; omega) fun x hx => by
      have hx' := hn x (List.mem_of_mem_take hx)
      exact hx'.2 _ (List.mem_of_getElem? (at0_lt (l := x) (i := 2) (by omega)))
    have hsn := take_snoc hq
    obtain ⟨x, y, w, rfl⟩ := len3 h0
    have hw2 := h1 w (by simp)
    have hyes : ∀ p1 p2 : Prop, a ≤ x ∧ x ≤ b ∧ c ≤ y ∧ y ≤ d → inBox [a, b, c, d] [x, y, w] = true := fun _ _ hh => by simp [inBox, at0]; omega
    have hno : ¬ (a ≤ x ∧ x ≤ b ∧ c ≤ y ∧ y ≤ d) → inBox [a, b, c, d] [x, y, w] = false := fun hh => by
      cases hi : inBox [a, b, c, d] [x, y, w] with
      | false => rfl
      | true => simp [inBox, at0] at hi; omega
    repeat' first
      | refine g_go T hC true 400 rfl rfl ?_
      | (exfalso; simp at h; done)
      | refine g_cond rfl (fun h => ?_) (fun h => ?_)
      | refine g_end T hC (by kernel_rfl) ?_
      | refine g_splitD (fun h => ?_) (fun h => ?_)
      | refine g_splitG rfl rfl rfl (fun h => ?_) (fun h => ?_)
      | refine g_splitP rfl rfl (fun h => ?_) (fun h => ?_)
      | refine g_idxR T hC i rfl rfl rfl rfl rfl hlt rfl rfl ?_
      | refine g_loadR T hC rfl rfl rfl hlt rfl rfl ?_
      | refine g_idx T hC rfl rfl rfl (by decide) rfl rfl rfl ?_
      | (refine g_idxC T hC 0 hq (by simp) rfl rfl rfl rfl rfl rfl ?_; refine g_loadC T hC hq rfl rfl rfl rfl rfl rfl ?_)
      | (refine g_idxC T hC 1 hq (by simp) rfl rfl rfl rfl rfl rfl ?_; refine g_loadC T hC hq rfl rfl rfl rfl rfl rfl ?_)
      | (refine g_idxC T hC 2 hq (by simp) rfl rfl rfl rfl rfl rfl ?_; refine g_loadC T hC hq rfl rfl rfl rfl rfl rfl ?_)
    all_goals simp only [decide_eq_true_eq, decide_eq_false_iff_not] at *
    all_goals first
      | (have hb := hyes True True (by omega)
         rw [wrapS (by omega), wrap64 (n := cntB [a, b, c, d] (R.take i) + 1) (by omega), wrap64 (n := sumB [a, b, c, d] (R.take i) + w) (by omega)]
         refine g_round (i + 1) (by omega) id (by omega) ?_
         rw [hsn, cntB_yes hb, sumB_yes hb]
         exact ⟨rfl, ⟨rfl, rfl, rfl, rfl, rfl, rfl, rfl, rfl, trivial⟩, ⟨rfl, rfl, rfl, rfl, trivial⟩, rfl, fun _ _ => rfl⟩)
      | (have hb := hno (by omega)
         rw [wrapS (by omega)]
         refine g_round (i + 1) (by omega) id (by omega) ?_
         rw [hsn, cntB_no hb, sumB_no hb]
         exact ⟨rfl, ⟨rfl, rfl, rfl, rfl, rfl, rfl, rfl, rfl, trivial⟩, ⟨rfl, rfl, rfl, rfl, trivial⟩, rfl, fun _ _ => rfl⟩)
  · have hge : ¬ i < R.length := by simpa using h
    have e : R.take i = R := List.take_of_length_le (by omega)
    rw [e]
    repeat' first
      | refine g_go T hC true 400 rfl rfl ?_
      | (exfalso; first | (simp only [decide_eq_true_eq, decide_eq_false_iff_not, List.length_map, Bool.not_eq_true', Bool.not_eq_false'] at *; omega) | (simp at h; done))
      | refine g_cond rfl (fun h => ?_) (fun h => ?_)
      | refine g_end T hC (by kernel_rfl) ?_
      | refine g_splitD (fun h => ?_) (fun h => ?_)
      | refine g_splitG rfl rfl rfl (fun h => ?_) (fun h => ?_)
      | refine g_splitP rfl rfl (fun h => ?_) (fun h => ?_)
      | refine g_outE ?_
      | refine g_call hC (hN) rfl rfl (LeSs.refl _) rfl rfl rfl ?_
    all_goals exact g_fin ⟨.inl rfl, nm [0, 1, 0, 1], _, rfl, .refl _, ⟨rfl, rfl, trivial⟩, rfl, rfl⟩

theorem pts4 (R : Rws) (hR : R.length ≤ 500) (a b c d : Int) (hn : ∀ r ∈ R, r.length = 3 ∧ ∀ x ∈ r, -1048576 ≤ x ∧ x ≤ 1048576) :
    FnOK Tryz.prog 59 [.one (.ar 0), aggS [ki 4, intsP [a, b, c, d]]] [(0, vg 1 R.length), (1, bg R)] (.tup [.one (.ar 2), aggS (rsR (okR (sumB [a, b, c, d] R)))]) [(2, vg 3 R.length), (3, bg R)] := by
  have hN := result_ok (sumB [a, b, c, d] R)
  refine fn_ok T Tryz.func59 (by kernel_rfl) rfl rfl rfl rfl fun C hC => ?_
  repeat' first
    | refine g_go T hC true 400 rfl rfl ?_
    | (exfalso; first | (simp only [decide_eq_true_eq, decide_eq_false_iff_not, List.length_map, Bool.not_eq_true', Bool.not_eq_false'] at *; omega) | (simp at h; done))
    | refine g_cond rfl (fun h => ?_) (fun h => ?_)
    | refine g_end T hC (by kernel_rfl) ?_
    | refine g_splitD (fun h => ?_) (fun h => ?_)
    | refine g_splitG rfl rfl rfl (fun h => ?_) (fun h => ?_)
    | refine g_splitP rfl rfl (fun h => ?_) (fun h => ?_)
    | refine g_lenG T hC rfl rfl rfl rfl rfl rfl ?_
  refine g_loop (fun i : Nat => i ≤ R.length) (fun i => ([(0, .one (.ar 0)), (3, .one (.bx 1003 0)), (5, .one (.bx 1005 0)), (6, I (cntB [a, b, c, d] (R.take i))), (7, I (sumB [a, b, c, d] (R.take i))), (24, .one (.ar 0)), (25, I R.length), (26, I i)], [(0, some (vg 1 R.length)), (1, some (bg R)), (1003, some (.box [.p (ki 4), .p (intsP [a, b, c, d])])), (1005, some (.box [.p (ki 0), .p (ki 0), .p (.k (.slice none 0 0))]))])) (fun i => R.length - i) hC
    0 (Nat.zero_le _) id ⟨rfl, ⟨rfl, rfl, rfl, rfl, rfl, rfl, rfl, rfl, trivial⟩, ⟨rfl, rfl, rfl, rfl, trivial⟩, rfl, fun _ _ => rfl⟩ ?_
  intro i hi
  refine g_run' T hC true 200 rfl ?_
  refine g_cond rfl (fun h => ?_) (fun h => ?_)
  · have hlt : i < R.length := by simpa using h
    clear h
    obtain ⟨r, hq⟩ := exists_at hlt
    obtain ⟨h0, h1⟩ := hn r (List.mem_of_getElem? hq)
    have hb1 := cntB_bound (A := [a, b, c, d]) (l := R.take i) (n := 500) (by rw [List.length_take]; omega)
    have hb2 := sumB_bound (A := [a, b, c, d]) (l := R.take i) (n := 500) (by rw [List.length_take]; omega) fun x hx => by
      have hx' := hn x (List.mem_of_mem_take hx)
      exact hx'.2 _ (List.mem_of_getElem? (at0_lt (l := x) (i := 2) (by omega)))
    have hsn := take_snoc hq
    obtain ⟨x, y, w, rfl⟩ := len3 h0
    have hw2 := h1 w (by simp)
    have hyes : ∀ p1 p2 : Prop, a ≤ x ∧ x ≤ b ∧ c ≤ y ∧ y ≤ d → inBox [a, b, c, d] [x, y, w] = true := fun _ _ hh => by simp [inBox, at0]; omega
    have hno : ¬ (a ≤ x ∧ x ≤ b ∧ c ≤ y ∧ y ≤ d) → inBox [a, b, c, d] [x, y, w] = false := fun hh => by
      cases hi : inBox [a, b, c, d] [x, y, w] with
      | false => rfl
      | true => simp [inBox, at0] at hi; omega
    repeat' first
      | refine g_go T hC true 400 rfl rfl ?_
      | (exfalso; simp at h; done)
      | refine g_cond rfl (fun h => ?_) (fun h => ?_)
      | refine g_end T hC (by kernel_rfl) ?_
      | refine g_splitD (fun h => ?_) (fun h => ?_)
      | refine g_splitG rfl rfl rfl (fun h => ?_) (fun h => ?_)
      | refine g_splitP rfl rfl (fun h => ?_) (fun h => ?_)
      | refine g_idxR T hC i rfl rfl rfl rfl rfl hlt rfl rfl ?_
      | refine g_loadR T hC rfl rfl rfl hlt rfl rfl ?_
      | refine g_idx T hC rfl rfl rfl (by decide) rfl rfl rfl ?_
      | (refine g_idxC T hC 0 hq (by simp) rfl rfl rfl rfl rfl rfl ?_; refine g_loadC T hC hq rfl rfl rfl rfl rfl rfl ?_)
      | (refine g_idxC T hC 1 hq (by simp) rfl rfl rfl rfl rfl rfl ?_; refine g_loadC T hC hq rfl rfl rfl rfl rfl rfl ?_)
      | (refine g_idxC T hC 2 hq (by simp) rfl rfl rfl rfl rfl rfl ?_; refine g_loadC T hC hq rfl rfl rfl rfl rfl rfl ?_)
    all_goals simp only [decide_eq_true_eq, decide_eq_false_iff_not] at *
    all_goals first
      | (have hb := hyes True True (by omega)
         rw [wrapS (by omega), wrap64 (n := cntB [a, b, c, d] (R.take i) + 1) (by omega), wrap64 (n := sumB [a, b, c, d] (R.take i) + w) (by omega)]
         refine g_round (i + 1) (by omega) id (by omega) ?_
         rw [hsn, cntB_yes hb, sumB_yes hb]
         exact ⟨rfl, ⟨rfl, rfl, rfl, rfl, rfl, rfl, rfl, rfl, trivial⟩, ⟨rfl, rfl, rfl, rfl, trivial⟩, rfl, fun _ _ => rfl⟩)
      | (have hb := hno (by omega)
         rw [wrapS (by omega)]
         refine g_round (i + 1) (by omega) id (by omega) ?_
         rw [hsn, cntB_no hb, sumB_no hb]
         exact ⟨rfl, ⟨rfl, rfl, rfl, rfl, rfl, rfl, rfl, rfl, trivial⟩, ⟨rfl, rfl, rfl, rfl, trivial⟩, rfl, fun _ _ => rfl⟩)
  · have hge : ¬ i < R.length := by simpa using h
    have e : R.take i = R := List.take_of_length_le (by omega)
    rw [e]
    repeat' first
      | refine g_go T hC true 400 rfl rfl ?_
      | (exfalso; first | (simp only [decide_eq_true_eq, decide_eq_false_iff_not, List.length_map, Bool.not_eq_true', Bool.not_eq_false'] at *; omega) | (simp at h; done))
      | refine g_cond rfl (fun h => ?_) (fun h => ?_)
      | refine g_end T hC (by kernel_rfl) ?_
      | refine g_splitD (fun h => ?_) (fun h => ?_)
      | refine g_splitG rfl rfl rfl (fun h => ?_) (fun h => ?_)
      | refine g_splitP rfl rfl (fun h => ?_) (fun h => ?_)
      | refine g_outE ?_
      | refine g_call hC (hN) rfl rfl (LeSs.refl _) rfl rfl rfl ?_
    all_goals exact g_fin ⟨.inl rfl, nm [0, 1, 0, 1], _, rfl, .refl _, ⟨rfl, rfl, trivial⟩, rfl, rfl⟩

theorem pts1y (R : Rws) (hR : R.length ≤ 500) (a b w : Int) (i : Nat) (hX : FnOK Tryz.prog 77 [pS (rowsP R), pS (intsP [a, b])] [] (.tup [I i, .bq true]) []) : FnOK Tryz.prog 59 [.one (.ar 0), aggS [ki 1, intsP [a, b, w]]] [(0, vg 1 R.length), (1, bg R)] (.tup [.one (.ar 2), aggS (rsR (erR 15))]) [(2, vg 3 R.length), (3, bg R)] := by
  have hN := failed_ok 15
  refine fn_ok T Tryz.func59 (by kernel_rfl) rfl rfl rfl rfl fun C hC => ?_
  repeat' first
    | refine g_go T hC true 400 rfl rfl ?_
    | (exfalso; first | (simp only [decide_eq_true_eq, decide_eq_false_iff_not, List.length_map, Bool.not_eq_true', Bool.not_eq_false'] at *; omega) | (simp at h; done))
    | refine g_cond rfl (fun h => ?_) (fun h => ?_)
    | refine g_end T hC (by kernel_rfl) ?_
    | refine g_splitD (fun h => ?_) (fun h => ?_)
    | refine g_splitG rfl rfl rfl (fun h => ?_) (fun h => ?_)
    | refine g_splitP rfl rfl (fun h => ?_) (fun h => ?_)
    | refine g_partH T hC ([a, b].map intR) rfl rfl rfl (by decide) (by simp) rfl rfl rfl ?_
    | refine g_lenG T hC rfl rfl rfl rfl rfl rfl ?_
    | refine g_callN hC hX [(0, vg 1 R.length), (1, bg R)] rfl rfl (LnSs.cons (LnS.one (lend2 0 1 R)) (LnSs.refl _)) rfl rfl rfl rfl ?_
    | refine g_call hC (hN) rfl rfl (LeSs.refl _) rfl rfl rfl ?_
  all_goals exact g_fin ⟨.inl rfl, nm [0, 1, 0, 1], _, rfl, .refl _, ⟨rfl, rfl, trivial⟩, rfl, rfl⟩

theorem pts1f (R : Rws) (hR : R.length ≤ 500) (a b w : Int) (i : Nat) (hX : FnOK Tryz.prog 77 [pS (rowsP R), pS (intsP [a, b])] [] (.tup [I i, .bq false]) []) (h5 : R.length = 500) : FnOK Tryz.prog 59 [.one (.ar 0), aggS [ki 1, intsP [a, b, w]]] [(0, vg 1 R.length), (1, bg R)] (.tup [.one (.ar 2), aggS (rsR (erR 4))]) [(2, vg 3 R.length), (3, bg R)] := by
  have hN := failed_ok 4
  refine fn_ok T Tryz.func59 (by kernel_rfl) rfl rfl rfl rfl fun C hC => ?_
  repeat' first
    | refine g_go T hC true 400 rfl rfl ?_
    | (exfalso; first | (simp only [decide_eq_true_eq, decide_eq_false_iff_not, List.length_map, Bool.not_eq_true', Bool.not_eq_false'] at *; omega) | (simp at h; done))
    | refine g_cond rfl (fun h => ?_) (fun h => ?_)
    | refine g_end T hC (by kernel_rfl) ?_
    | refine g_splitD (fun h => ?_) (fun h => ?_)
    | refine g_splitG rfl rfl rfl (fun h => ?_) (fun h => ?_)
    | refine g_splitP rfl rfl (fun h => ?_) (fun h => ?_)
    | refine g_partH T hC ([a, b].map intR) rfl rfl rfl (by decide) (by simp) rfl rfl rfl ?_
    | refine g_lenG T hC rfl rfl rfl rfl rfl rfl ?_
    | refine g_callN hC hX [(0, vg 1 R.length), (1, bg R)] rfl rfl (LnSs.cons (LnS.one (lend2 0 1 R)) (LnSs.refl _)) rfl rfl rfl rfl ?_
    | refine g_call hC (hN) rfl rfl (LeSs.refl _) rfl rfl rfl ?_
  all_goals exact g_fin ⟨.inl rfl, nm [0, 1, 0, 1], _, rfl, .refl _, ⟨rfl, rfl, trivial⟩, rfl, rfl⟩

theorem pts1 (R : Rws) (hR : R.length ≤ 500) (a b w : Int) (i : Nat) (hX : FnOK Tryz.prog 77 [pS (rowsP R), pS (intsP [a, b])] [] (.tup [I i, .bq false]) []) (hil : i ≤ R.length) (h5 : R.length < 500) : FnOK Tryz.prog 59 [.one (.ar 0), aggS [ki 1, intsP [a, b, w]]] [(0, vg 1 R.length), (1, bg R)] (.tup [.one (.ar 2), aggS (rsR (okR 0))]) [(2, vg 3 (R.length + 1)), (3, bg (insR R i [a, b, w]))] := by
  have hN := result_ok 0
  have hCl := clone_ok [a, b, w] (by simp)
  have hD := ins_ok R i [a, b, w] hil (by omega)
  refine fn_ok T Tryz.func59 (by kernel_rfl) rfl rfl rfl rfl fun C hC => ?_
  repeat' first
    | refine g_go T hC true 400 rfl rfl ?_
    | (exfalso; first | (simp only [decide_eq_true_eq, decide_eq_false_iff_not, List.length_map, Bool.not_eq_true', Bool.not_eq_false'] at *; omega) | (simp at h; done))
    | refine g_cond rfl (fun h => ?_) (fun h => ?_)
    | refine g_end T hC (by kernel_rfl) ?_
    | refine g_splitD (fun h => ?_) (fun h => ?_)
    | refine g_splitG rfl rfl rfl (fun h => ?_) (fun h => ?_)
    | refine g_splitP rfl rfl (fun h => ?_) (fun h => ?_)
    | refine g_partH T hC ([a, b].map intR) rfl rfl rfl (by decide) (by simp) rfl rfl rfl ?_
    | refine g_lenG T hC rfl rfl rfl rfl rfl rfl ?_
    | refine g_callN hC hX [(0, vg 1 R.length), (1, bg R)] rfl rfl (LnSs.cons (LnS.one (lend2 0 1 R)) (LnSs.refl _)) rfl rfl rfl rfl ?_
    | (refine g_callR hC hCl (nm [104]) rfl rfl (LeSs.refl _) rfl rfl rfl rfl rfl rfl rfl rfl ?_)
    | (refine g_litB T hC rfl rfl rfl rfl rfl rfl rfl rfl rfl rfl rfl ?_)
    | (refine g_callR hC hD (nm [0, 1, 102, 103, 1111, 104]) rfl rfl (LeSs.refl _) rfl rfl rfl rfl rfl rfl rfl rfl ?_)
    | refine g_call hC (hN) rfl rfl (LeSs.refl _) rfl rfl rfl ?_
  all_goals exact g_fin ⟨.inl rfl, nm [0, 1, 102, 103], _, rfl, .refl _, ⟨rfl, rfl, trivial⟩, rfl, rfl⟩

theorem pts2n (R : Rws) (hR : R.length ≤ 500) (a b : Int) (i : Nat) (hX : FnOK Tryz.prog 77 [pS (rowsP R), pS (intsP [a, b])] [] (.tup [I i, .bq false]) []) : FnOK Tryz.prog 59 [.one (.ar 0), aggS [ki 2, intsP [a, b]]] [(0, vg 1 R.length), (1, bg R)] (.tup [.one (.ar 2), aggS (rsR (erR 12))]) [(2, vg 3 R.length), (3, bg R)] := by
  have hN := failed_ok 12
  refine fn_ok T Tryz.func59 (by kernel_rfl) rfl rfl rfl rfl fun C hC => ?_
  repeat' first
    | refine g_go T hC true 400 rfl rfl ?_
    | (exfalso; first | (simp only [decide_eq_true_eq, decide_eq_false_iff_not, List.length_map, Bool.not_eq_true', Bool.not_eq_false'] at *; omega) | (simp at h; done))
    | refine g_cond rfl (fun h => ?_) (fun h => ?_)
    | refine g_end T hC (by kernel_rfl) ?_
    | refine g_splitD (fun h => ?_) (fun h => ?_)
    | refine g_splitG rfl rfl rfl (fun h => ?_) (fun h => ?_)
    | refine g_splitP rfl rfl (fun h => ?_) (fun h => ?_)
    | refine g_partH T hC ([a, b].map intR) rfl rfl rfl (by decide) (by simp) rfl rfl rfl ?_
    | refine g_lenG T hC rfl rfl rfl rfl rfl rfl ?_
    | refine g_callN hC hX [(0, vg 1 R.length), (1, bg R)] rfl rfl (LnSs.cons (LnS.one (lend2 0 1 R)) (LnSs.refl _)) rfl rfl rfl rfl ?_
    | refine g_call hC (hN) rfl rfl (LeSs.refl _) rfl rfl rfl ?_
  all_goals exact g_fin ⟨.inl rfl, nm [0, 1, 0, 1], _, rfl, .refl _, ⟨rfl, rfl, trivial⟩, rfl, rfl⟩

theorem pts2 (R : Rws) (hR : R.length ≤ 500) (a b : Int) (i : Nat) (hX : FnOK Tryz.prog 77 [pS (rowsP R), pS (intsP [a, b])] [] (.tup [I i, .bq true]) []) (r : Rw) (v : Int) (hq : R[i]? = some r) (hil : i < R.length) (hrl : 2 < r.length) (hv : r[2]? = some v) : FnOK Tryz.prog 59 [.one (.ar 0), aggS [ki 2, intsP [a, b]]] [(0, vg 1 R.length), (1, bg R)] (.tup [.one (.ar 2), aggS (rsR (okR v))]) [(2, vg 3 (R.length - 1)), (3, bg (R.eraseIdx i))] := by
  have hN := result_ok v
  have hD := del_ok R i hil (by omega)
  refine fn_ok T Tryz.func59 (by kernel_rfl) rfl rfl rfl rfl fun C hC => ?_
  repeat' first
    | refine g_go T hC true 400 rfl rfl ?_
    | (exfalso; first | (simp only [decide_eq_true_eq, decide_eq_false_iff_not, List.length_map, Bool.not_eq_true', Bool.not_eq_false'] at *; omega) | (simp at h; done))
    | refine g_cond rfl (fun h => ?_) (fun h => ?_)
    | refine g_end T hC (by kernel_rfl) ?_
    | refine g_splitD (fun h => ?_) (fun h => ?_)
    | refine g_splitG rfl rfl rfl (fun h => ?_) (fun h => ?_)
    | refine g_splitP rfl rfl (fun h => ?_) (fun h => ?_)
    | refine g_partH T hC ([a, b].map intR) rfl rfl rfl (by decide) (by simp) rfl rfl rfl ?_
    | refine g_lenG T hC rfl rfl rfl rfl rfl rfl ?_
    | refine g_callN hC hX [(0, vg 1 R.length), (1, bg R)] rfl rfl (LnSs.cons (LnS.one (lend2 0 1 R)) (LnSs.refl _)) rfl rfl rfl rfl ?_
    | (refine g_idxR T hC (i) rfl rfl rfl rfl rfl (by omega) rfl rfl ?_; refine g_loadR T hC rfl rfl rfl (by omega) rfl rfl ?_)
    | (refine g_idxC T hC 2 hq (by omega) rfl rfl rfl rfl rfl rfl ?_; refine g_loadC T hC hq hv rfl rfl rfl rfl rfl ?_)
    | (rw [wrapS (by omega)]; refine g_callR hC hD (nm [0, 1, 102, 103]) rfl rfl (LeSs.refl _) rfl rfl rfl rfl rfl rfl rfl rfl ?_)
    | refine g_call hC (hN) rfl rfl (LeSs.refl _) rfl rfl rfl ?_
  all_goals exact g_fin ⟨.inl rfl, nm [0, 1, 102, 103], _, rfl, .refl _, ⟨rfl, rfl, trivial⟩, rfl, rfl⟩

end Hw.Mq
namespace Hw.Mq
open Go Go.Proofs Go.Shelf Hw.M

/-! models: priority queues, sequences, sets of points, joined -/
theorem num_bd {x : Int} (h : numB x = true) : -1048576 ≤ x ∧ x ≤ 1048576 := numB_iff.1 h
theorem op2 {o : OpT} (h : okOp 2 o = true) : (∃ a, o = ⟨1, [a]⟩ ∧ numB a = true) ∨ o = ⟨2, []⟩ ∨ o = ⟨3, []⟩ ∨ o = ⟨4, []⟩ := by
  obtain ⟨w, h1, h2, hw, h3, -⟩ := okOp_word h
  obtain ⟨c, l⟩ := o
  have hc : c = 1 ∨ c = 2 ∨ c = 3 ∨ c = 4 := by
    have : (wordsL 2).length = 4 := rfl
    simp only at h1 h2; omega
  rcases hc with rfl | rfl | rfl | rfl <;> (obtain rfl := Option.some.inj hw; obtain ⟨hl, hn⟩ := h3 (by decide); simp only at hl hn)
  · obtain ⟨a, rfl⟩ := len1 (l := l) (by omega)
    exact .inl ⟨a, rfl, hn a (by simp)⟩
  all_goals (obtain rfl := len0 (l := l) (by omega); simp)
theorem op3 {o : OpT} (h : okOp 3 o = true) : (∃ a b, (o = ⟨1, [a, b]⟩ ∨ o = ⟨4, [a, b]⟩ ∨ o = ⟨5, [a, b]⟩ ∨ o = ⟨6, [a, b]⟩) ∧ numB a = true ∧ numB b = true) ∨ (∃ a, (o = ⟨2, [a]⟩ ∨ o = ⟨3, [a]⟩) ∧ numB a = true) ∨ o = ⟨7, []⟩ := by
  obtain ⟨w, h1, h2, hw, h3, -⟩ := okOp_word h
  obtain ⟨c, l⟩ := o
  have hc : c = 1 ∨ c = 4 ∨ c = 5 ∨ c = 6 ∨ c = 2 ∨ c = 3 ∨ c = 7 := by
    have : (wordsL 3).length = 7 := rfl
    simp only at h1 h2; omega
  rcases hc with rfl | rfl | rfl | rfl | rfl | rfl | rfl <;> (obtain rfl := Option.some.inj hw; obtain ⟨hl, hn⟩ := h3 (by decide); simp only at hl hn)
  iterate 4
    · obtain ⟨a, b, rfl⟩ := len2 (l := l) (by omega)
      exact .inl ⟨a, b, by simp, hn a (by simp), hn b (by simp)⟩
  iterate 2
    · obtain ⟨a, rfl⟩ := len1 (l := l) (by omega)
      exact .inr (.inl ⟨a, by simp, hn a (by simp)⟩)
  · obtain rfl := len0 (l := l) (by omega)
    exact .inr (.inr rfl)
theorem op5 {o : OpT} (h : okOp 5 o = true) : (∃ a b w, o = ⟨1, [a, b, w]⟩ ∧ numB a = true ∧ numB b = true ∧ numB w = true) ∨ (∃ a b, o = ⟨2, [a, b]⟩ ∧ numB a = true ∧ numB b = true) ∨ (∃ a b c d, (o = ⟨3, [a, b, c, d]⟩ ∨ o = ⟨4, [a, b, c, d]⟩) ∧ numB a = true ∧ numB b = true ∧ numB c = true ∧ numB d = true) ∨ o = ⟨5, []⟩ := by
  obtain ⟨w, h1, h2, hw, h3, -⟩ := okOp_word h
  obtain ⟨c, l⟩ := o
  have hc : c = 1 ∨ c = 2 ∨ c = 3 ∨ c = 4 ∨ c = 5 := by
    have : (wordsL 5).length = 5 := rfl
    simp only at h1 h2; omega
  rcases hc with rfl | rfl | rfl | rfl | rfl <;> (obtain rfl := Option.some.inj hw; obtain ⟨hl, hn⟩ := h3 (by decide); simp only at hl hn)
  · obtain ⟨a, b, w, rfl⟩ := len3 (l := l) (by omega)
    exact .inl ⟨a, b, w, rfl, hn a (by simp), hn b (by simp), hn w (by simp)⟩
  · obtain ⟨a, b, rfl⟩ := len2 (l := l) (by omega)
    exact .inr (.inl ⟨a, b, rfl, hn a (by simp), hn b (by simp)⟩)
  iterate 2
    · obtain ⟨a, b, c, d, rfl⟩ := len4 (l := l) (by omega)
      exact .inr (.inr (.inl ⟨a, b, c, d, by simp, hn a (by simp), hn b (by simp), hn c (by simp), hn d (by simp)⟩))
  · obtain rfl := len0 (l := l) (by omega)
    exact .inr (.inr (.inr rfl))
theorem heap_ok (R : Rws) (o : OpT) (hv : validS 2 R = true) (ho : okOp 2 o = true) :
    FnOK Tryz.prog 56 [.one (.ar 0), aggS (opR o)] [(0, vg 1 R.length), (1, bg R)] (.tup [.one (.ar 2), aggS (rsR (heapS R o).2)]) [(2, vg 3 (heapS R o).1.length), (3, bg (heapS R o).1)] := by
  obtain ⟨hR, hT⟩ := valid2 hv
  have hrow : ∀ (i : Nat), i < R.length → R[i]? = some (rowA R i) ∧ (rowA R i).length = 1 := fun i hi => ⟨rowA_lt hi, hT.wide _ (List.mem_of_getElem? (rowA_lt hi))⟩
  have hcell : ∀ (i : Nat), i < R.length → (rowA R i)[0]? = some (at0 (rowA R i) 0) := fun i hi => at0_lt (by rw [(hrow i hi).2]; omega)
  rcases op2 ho with ⟨a, rfl, ha⟩ | rfl | rfl | rfl
  · by_cases h5 : R.length = 500
    · have e : heapS R ⟨1, [a]⟩ = (R, erR 4) := by simp [heapS, h5]
      rw [e]; exact heap1f R hR a h5
    · have e : heapS R ⟨1, [a]⟩ = (insR R (posC 1 R [a]) [a], okR 0) := by simp [heapS, h5]
      rw [e]
      simp only [insR_len (posC_le 1 R [a])]
      exact heap1 R hR a _ _ (find_ok R [a] (by simp) (by omega) (fun r hr => by rw [hT.wide r hr]; simp) (tab_mono hT pos_le [a])) (posC_le 1 R [a]) (by omega)
  · by_cases h0 : R.length = 0
    · have e : heapS R ⟨2, []⟩ = (R, erR 14) := by simp only [heapS]; rw [if_neg (by decide), if_neg (by decide)]; exact if_pos h0
      rw [e]; exact heap2e R hR h0
    · have e : heapS R ⟨2, []⟩ = (R, okR (at0 (rowA R 0) 0)) := by simp only [heapS]; rw [if_neg (by decide), if_neg (by decide)]; exact if_neg h0
      rw [e]; exact heap2 R hR _ _ (hrow 0 (by omega)).1 (by omega) (by rw [(hrow 0 (by omega)).2]; omega) (hcell 0 (by omega))
  · by_cases h0 : R.length = 0
    · have e : heapS R ⟨3, []⟩ = (R, erR 14) := by simp only [heapS]; rw [if_neg (by decide), if_neg (by decide)]; exact if_pos h0
      rw [e]; exact heap3e R hR h0
    · have e : heapS R ⟨3, []⟩ = (R.eraseIdx 0, okR (at0 (rowA R 0) 0)) := by simp only [heapS]; rw [if_neg (by decide), if_neg (by decide)]; exact if_neg h0
      rw [e]
      simp only [List.length_eraseIdx_of_lt (show 0 < R.length by omega)]
      exact heap3 R hR _ _ (hrow 0 (by omega)).1 (by omega) (by rw [(hrow 0 (by omega)).2]; omega) (hcell 0 (by omega))
  · exact heap4 R hR
theorem seq_ok (R : Rws) (o : OpT) (hv : validS 3 R = true) (ho : okOp 3 o = true) :
    FnOK Tryz.prog 57 [.one (.ar 0), aggS (opR o)] [(0, vg 1 R.length), (1, bg R)] (.tup [.one (.ar 2), aggS (rsR (seqS R o).2)]) [(2, vg 3 (seqS R o).1.length), (3, bg (seqS R o).1)] := by
  obtain ⟨hR, hT⟩ := valid3 hv
  have hrow : ∀ (i : Nat), i < R.length → R[i]? = some (rowA R i) ∧ (rowA R i).length = 1 := fun i hi => ⟨rowA_lt hi, hT.wide _ (List.mem_of_getElem? (rowA_lt hi))⟩
  have hcell : ∀ (i : Nat), i < R.length → (rowA R i)[0]? = some (at0 (rowA R i) 0) := fun i hi => at0_lt (by rw [(hrow i hi).2]; omega)
  have hn : ∀ r ∈ R, 0 < r.length ∧ -1048576 ≤ at0 r 0 ∧ at0 r 0 ≤ 1048576 := fun r hr => by
    have h1 := hT.wide r hr
    exact ⟨by omega, num_bd (hT.nums r hr _ (List.mem_of_getElem? (at0_lt (l := r) (i := 0) (by omega))))⟩
  rcases op3 ho with ⟨a, b, hc, ha, hb⟩ | ⟨a, hc, ha⟩ | rfl
  · rcases hc with rfl | rfl | rfl | rfl
    · by_cases h0 : a < 0 ∨ (R.length : Int) < a
      · have e : seqS R ⟨1, [a, b]⟩ = (R, erR 2) := by simp only [seqS]; rw [if_neg (by decide), if_neg (by decide), if_pos trivial]; exact if_pos h0
        rw [e]; exact seq1e R hR a b h0
      · obtain ⟨i, rfl⟩ : ∃ i : Nat, a = i := ⟨a.toNat, by omega⟩
        by_cases h5 : R.length = 500
        · have e : seqS R ⟨1, [(i : Int), b]⟩ = (R, erR 4) := by simp only [seqS]; rw [if_neg (by decide), if_neg (by decide), if_pos trivial]; exact (if_neg h0).trans (if_pos h5)
          rw [e]; exact seq1f R hR i b (by omega) h5
        · have e : seqS R ⟨1, [(i : Int), b]⟩ = (insR R i [b], okR 0) := by simp only [seqS]; rw [if_neg (by decide), if_neg (by decide), if_pos trivial]; exact (if_neg h0).trans (if_neg h5)
          rw [e]
          simp only [insR_len (show i ≤ R.length by omega)]
          exact seq1 R hR i b (by omega) (by omega)
    · by_cases h0 : a < 0 ∨ (R.length : Int) ≤ a
      · have e : seqS R ⟨4, [a, b]⟩ = (R, erR 2) := by simp only [seqS]; rw [if_neg (by decide), if_neg (by decide), if_neg (by decide)]; exact if_pos h0
        rw [e]; exact seq4e R hR a b h0
      · obtain ⟨i, rfl⟩ : ∃ i : Nat, a = i := ⟨a.toNat, by omega⟩
        have hlt : i < R.length := by omega
        have e : seqS R ⟨4, [(i : Int), b]⟩ = (R.set i ((rowA R i).set 0 b), okR (at0 (rowA R i) 0)) := by simp only [seqS]; rw [if_neg (by decide), if_neg (by decide), if_neg (by decide)]; exact if_neg h0
        rw [e]
        simp only [List.length_set]
        exact seq4 R hR i b _ _ (hrow i hlt).1 hlt (by rw [(hrow i hlt).2]; omega) (hcell i hlt)
    · by_cases h0 : a < 0 ∨ b < a ∨ (R.length : Int) < b
      · have e : seqS R ⟨5, [a, b]⟩ = (R, erR 2) := by simp only [seqS]; rw [if_neg (by decide), if_pos (by simp)]; exact if_pos h0
        rw [e]; exact seq5e R hR a b h0
      · obtain ⟨i, rfl⟩ : ∃ i : Nat, a = i := ⟨a.toNat, by omega⟩
        obtain ⟨m, rfl⟩ : ∃ m : Nat, b = ((i + m : Nat) : Int) := ⟨(b - i).toNat, by omega⟩
        have e : seqS R ⟨5, [(i : Int), ((i + m : Nat) : Int)]⟩ = (R, okR (sum0 ((R.take (i + m)).drop i))) := by simp only [seqS]; rw [if_neg (by decide), if_pos (by simp)]; exact (if_neg h0).trans (if_neg (by decide))
        rw [e]; exact seq5 R hR i m (by omega) hn
    · by_cases h0 : a < 0 ∨ b < a ∨ (R.length : Int) < b
      · have e : seqS R ⟨6, [a, b]⟩ = (R, erR 2) := by simp only [seqS]; rw [if_neg (by decide), if_pos (by simp)]; exact if_pos h0
        rw [e]; exact seq6e R hR a b h0
      · obtain ⟨i, rfl⟩ : ∃ i : Nat, a = i := ⟨a.toNat, by omega⟩
        obtain ⟨m, rfl⟩ : ∃ m : Nat, b = ((i + m : Nat) : Int) := ⟨(b - i).toNat, by omega⟩
        have e : seqS R ⟨6, [(i : Int), ((i + m : Nat) : Int)]⟩ = (revR R i (i + m), okR 0) := by simp only [seqS]; rw [if_neg (by decide), if_pos (by simp)]; exact (if_neg h0).trans (if_pos trivial)
        have hl : (revR R i (i + m)).length = R.length := by simp only [revR, List.length_append, List.length_reverse, List.length_take, List.length_drop]; omega
        rw [e]
        simp only [hl]
        exact seq6 R hR i m (by omega)
  · by_cases h0 : a < 0 ∨ (R.length : Int) ≤ a
    · rcases hc with rfl | rfl
      · have e : seqS R ⟨2, [a]⟩ = (R, erR 2) := by simp only [seqS]; rw [if_neg (by decide), if_neg (by decide), if_neg (by decide)]; exact if_pos h0
        rw [e]; exact seq2e R hR a h0
      · have e : seqS R ⟨3, [a]⟩ = (R, erR 2) := by simp only [seqS]; rw [if_neg (by decide), if_neg (by decide), if_neg (by decide)]; exact if_pos h0
        rw [e]; exact seq3e R hR a h0
    · obtain ⟨i, rfl⟩ : ∃ i : Nat, a = i := ⟨a.toNat, by omega⟩
      have hlt : i < R.length := by omega
      rcases hc with rfl | rfl
      · have e : seqS R ⟨2, [(i : Int)]⟩ = (R.eraseIdx i, okR (at0 (rowA R i) 0)) := by simp only [seqS]; rw [if_neg (by decide), if_neg (by decide), if_neg (by decide)]; exact if_neg h0
        rw [e]
        simp only [List.length_eraseIdx_of_lt hlt]
        exact seq2 R hR i _ _ (hrow i hlt).1 hlt (by rw [(hrow i hlt).2]; omega) (hcell i hlt)
      · have e : seqS R ⟨3, [(i : Int)]⟩ = (R, okR (at0 (rowA R i) 0)) := by simp only [seqS]; rw [if_neg (by decide), if_neg (by decide), if_neg (by decide)]; exact if_neg h0
        rw [e]
        exact seq3 R hR i _ _ (hrow i hlt).1 hlt (by rw [(hrow i hlt).2]; omega) (hcell i hlt)
  · exact seq7 R hR
theorem points_ok (R : Rws) (o : OpT) (hv : validS 5 R = true) (ho : okOp 5 o = true) :
    FnOK Tryz.prog 59 [.one (.ar 0), aggS (opR o)] [(0, vg 1 R.length), (1, bg R)] (.tup [.one (.ar 2), aggS (rsR (pointsS R o).2)]) [(2, vg 3 (pointsS R o).1.length), (3, bg (pointsS R o).1)] := by
  obtain ⟨hR, hT⟩ := valid5 hv
  have hX : ∀ a b : Int, FnOK Tryz.prog 77 [pS (rowsP R), pS (intsP [a, b])] [] (.tup [I (posC 2 R [a, b]), .bq (hasC 2 R [a, b])]) [] := fun a b =>
    find_ok R [a, b] (by simp) (by omega) (fun r hr => by rw [hT.wide r hr]; simp) (tab_mono hT pos_lt [a, b])
  have hrow : ∀ (i : Nat), i < R.length → R[i]? = some (rowA R i) ∧ (rowA R i).length = 3 := fun i hi => ⟨rowA_lt hi, hT.wide _ (List.mem_of_getElem? (rowA_lt hi))⟩
  have hcell : ∀ (i j : Nat), i < R.length → j < 3 → (rowA R i)[j]? = some (at0 (rowA R i) j) := fun i j hi hj => at0_lt (by rw [(hrow i hi).2]; exact hj)
  have hn : ∀ r ∈ R, r.length = 3 ∧ ∀ x ∈ r, -1048576 ≤ x ∧ x ≤ 1048576 := fun r hr => ⟨hT.wide r hr, fun x hx => num_bd (hT.nums r hr x hx)⟩
  rcases op5 ho with ⟨a, b, w, rfl, ha, hb, hw⟩ | ⟨a, b, rfl, ha, hb⟩ | ⟨a, b, c, d, hc, ha, hb, hc2, hd⟩ | rfl
  · have hXa := hX a b
    have hp : posC 2 R [a, b, w] = posC 2 R [a, b] := (posC_key 2 R [a, b, w]).symm
    have hh : hasC 2 R [a, b, w] = hasC 2 R [a, b] := (hasC_key 2 R [a, b, w]).symm
    have hle := posC_le 2 R [a, b]
    cases hq : hasC 2 R [a, b] with
    | true =>
      rw [hq] at hXa
      have e : pointsS R ⟨1, [a, b, w]⟩ = (R, erR 15) := by simp [pointsS, hh, hq]
      rw [e]; exact pts1y R hR a b w _ hXa
    | false =>
      rw [hq] at hXa
      by_cases h5 : R.length = 500
      · have e : pointsS R ⟨1, [a, b, w]⟩ = (R, erR 4) := by simp [pointsS, hh, hq, h5]
        rw [e]; exact pts1f R hR a b w _ hXa h5
      · have e : pointsS R ⟨1, [a, b, w]⟩ = (insR R (posC 2 R [a, b]) [a, b, w], okR 0) := by simp [pointsS, hp, hh, hq, h5]
        rw [e]
        simp only [insR_len hle]
        exact pts1 R hR a b w _ hXa hle (by omega)
  · have hXa := hX a b
    have hyes := hasC_yes (c := 2) (R := R) (a := [a, b])
    cases hq : hasC 2 R [a, b] with
    | true =>
      rw [hq] at hXa
      obtain ⟨r, hr, hlt, _⟩ := hyes hq
      have e : pointsS R ⟨2, [a, b]⟩ = (R.eraseIdx (posC 2 R [a, b]), okR (at0 (rowA R (posC 2 R [a, b])) 2)) := by simp [pointsS, hq]
      rw [e]
      simp only [List.length_eraseIdx_of_lt hlt]
      exact pts2 R hR a b _ hXa _ _ (hrow _ hlt).1 hlt (by rw [(hrow _ hlt).2]; omega) (hcell _ 2 hlt (by omega))
    | false =>
      rw [hq] at hXa
      have e : pointsS R ⟨2, [a, b]⟩ = (R, erR 12) := by simp [pointsS, hq]
      rw [e]; exact pts2n R hR a b _ hXa
  · rcases hc with rfl | rfl
    · exact pts3 R hR a b c d hn
    · exact pts4 R hR a b c d hn
  · exact pts5 R hR
end Hw.Mq
namespace Hw.Mq
open Go Go.Proofs Go.Shelf Hw.M

/-! models: slices.Index, the class of an element -/
def posI (x : Int) : List Int → Nat → Int
  | [], _ => -1
  | y :: l, k => if x = y then k else posI x l (k + 1)
theorem posI_mem (x : Int) : ∀ (l : List Int) (k : Nat), 0 ≤ posI x l k ↔ x ∈ l
  | [], k => by simp [posI]
  | y :: l, k => by
    simp only [posI, List.mem_cons]
    split
    · rename_i h; simp [h]
    · rename_i h; rw [posI_mem x l (k + 1)]; simp [h]
theorem index_ok (l : List Int) (x : Int) : FnOK Tryz.prog 129 [pS (intsP l), I x] [] (I (posI x l 0)) [] := by
  refine fn_ok T Tryz.func129 (by kernel_rfl) rfl rfl rfl rfl fun C hC => ?_
  refine g_len 0 rfl fun hl => ?_
  rw [List.length_map] at hl
  repeat' first
    | refine g_go T hC true 400 rfl rfl ?_
    | refine g_cond rfl (fun h => ?_) (fun h => ?_)
    | refine g_end T hC (by kernel_rfl) ?_
    | refine g_splitD (fun h => ?_) (fun h => ?_)
    | refine g_splitG rfl rfl rfl (fun h => ?_) (fun h => ?_)
    | refine g_splitP rfl rfl (fun h => ?_) (fun h => ?_)
  rw [List.length_map]
  refine g_loop (fun i : Nat => i ≤ l.length ∧ posI x (l.drop i) i = posI x l 0) (fun i => ([(0, pS (intsP l)), (1, I x), (7, I l.length), (8, I i)], [])) (fun i => l.length - i) hC
    0 ⟨Nat.zero_le _, rfl⟩ id ⟨rfl, ⟨rfl, rfl, rfl, rfl, trivial⟩, trivial, rfl, fun _ _ => rfl⟩ ?_
  rintro i ⟨hi, hn⟩
  refine g_run' T hC true 200 rfl ?_
  refine g_cond rfl (fun h => ?_) (fun h => ?_)
  · have hlt : i < l.length := by simpa using h
    clear h
    obtain ⟨y, hy⟩ := exists_at hlt
    rw [dropI hy] at hn
    simp only [posI] at hn
    repeat' first
      | refine g_go T hC true 400 rfl rfl ?_
      | refine g_cond rfl (fun h => ?_) (fun h => ?_)
      | refine g_end T hC (by kernel_rfl) ?_
      | refine g_splitD (fun h => ?_) (fun h => ?_)
      | refine g_splitG rfl rfl rfl (fun h => ?_) (fun h => ?_)
      | refine g_splitP rfl rfl (fun h => ?_) (fun h => ?_)
      | refine g_idx T hC rfl rfl rfl (Int.natCast_nonneg _) (map_at hy) rfl rfl ?_
      | refine g_outR ?_
    · rw [if_pos (of_decide_eq_true h)] at hn
      rw [← hn]
      exact g_fin ⟨.inl rfl, id, _, rfl, .refl _, trivial, rfl, rfl⟩
    · rw [if_neg (of_decide_eq_false h)] at hn
      rw [wrap64 (by omega)]
      exact g_round (i + 1) ⟨by omega, hn⟩ id (by omega) ⟨rfl, ⟨rfl, rfl, rfl, rfl, trivial⟩, trivial, rfl, fun _ _ => rfl⟩
  · have hge : ¬ i < l.length := by simpa using h
    rw [List.drop_of_length_le (by omega)] at hn
    simp only [posI] at hn
    repeat' first
      | refine g_go T hC true 400 rfl rfl ?_
      | refine g_cond rfl (fun h => ?_) (fun h => ?_)
      | refine g_end T hC (by kernel_rfl) ?_
      | refine g_splitD (fun h => ?_) (fun h => ?_)
      | refine g_splitG rfl rfl rfl (fun h => ?_) (fun h => ?_)
      | refine g_splitP rfl rfl (fun h => ?_) (fun h => ?_)
      | refine g_outE ?_
    rw [← hn]
    exact g_fin ⟨.inl rfl, id, _, rfl, .refl _, trivial, rfl, rfl⟩
theorem contains_ok (l : List Int) (x : Int) : FnOK Tryz.prog 104 [pS (intsP l), I x] [] (.bq (decide (x ∈ l))) [] := by
  have hX := index_ok l x
  have hm : decide (x ∈ l) = decide (0 ≤ posI x l 0) := decide_eq_decide.2 (posI_mem x l 0).symm
  rw [hm]
  refine fn_ok T Tryz.func104 (by kernel_rfl) rfl rfl rfl rfl fun C hC => ?_
  repeat' first
    | refine g_go T hC true 400 rfl rfl ?_
    | refine g_cond rfl (fun h => ?_) (fun h => ?_)
    | refine g_end T hC (by kernel_rfl) ?_
    | refine g_splitD (fun h => ?_) (fun h => ?_)
    | refine g_splitG rfl rfl rfl (fun h => ?_) (fun h => ?_)
    | refine g_splitP rfl rfl (fun h => ?_) (fun h => ?_)
    | refine g_call hC (hX) rfl rfl (LeSs.refl _) rfl rfl rfl ?_
  exact g_fin ⟨.inl rfl, id, _, rfl, .refl _, trivial, rfl, rfl⟩
theorem class1_ok (r : Rw) (x : Int) : FnOK Tryz.prog 103 [pS (intsP r), .one (.bx 0 0)] [(0, .box [.p (ki x)])] (.bq (decide (x ∈ r))) [(0, .box [.p (ki x)])] := by
  have hX := contains_ok r x
  refine fn_ok T Tryz.func103 (by kernel_rfl) rfl rfl rfl rfl fun C hC => ?_
  repeat' first
    | refine g_go T hC true 400 rfl rfl ?_
    | refine g_cond rfl (fun h => ?_) (fun h => ?_)
    | refine g_end T hC (by kernel_rfl) ?_
    | refine g_splitD (fun h => ?_) (fun h => ?_)
    | refine g_splitG rfl rfl rfl (fun h => ?_) (fun h => ?_)
    | refine g_splitP rfl rfl (fun h => ?_) (fun h => ?_)
    | refine g_call hC (hX) rfl rfl (LeSs.refl _) rfl rfl rfl ?_
  exact g_fin ⟨.inl rfl, id, _, rfl, .refl _, ⟨rfl, trivial⟩, rfl, rfl⟩
theorem clsN_idx (f : FuncId) (kx : Int) (l : List Rw) (p : Rw → Unit → Bool) (nx : Rw → Unit → Unit) (inv : Unit → Prop)
    (hf : ∀ x ∈ l, ∀ s : Unit, inv s → FnOK Tryz.prog f [pS (intsP x), .one (.bx 0 0)] [(0, .box [.p (ki kx)])] (.bq (p x s)) ((fun s : Unit => [(0, .box [.p (ki kx)])]) (nx x s)) ∧ (p x s = false → inv (nx x s))) (s : Unit) (hs : inv s) :
    FnOK Tryz.prog 102 [pS (.sl 1 (l.map rowR)), .one (.cl f [] [.bx 0 0])] [(0, .box [.p (ki kx)])] (I (idxR p nx l 0 s).1) ((fun s : Unit => [(0, .box [.p (ki kx)])]) (idxR p nx l 0 s).2) := by
  refine fn_ok T Tryz.func102 (by kernel_rfl) rfl rfl rfl rfl fun C hC => ?_
  have hs0 := hs
  refine g_len 0 rfl fun hl => ?_
  rw [List.length_map] at hl
  repeat' first
    | refine g_go T hC true 400 rfl rfl ?_
    | refine g_cond rfl (fun h => ?_) (fun h => ?_)
    | refine g_end T hC (by kernel_rfl) ?_
    | refine g_splitD (fun h => ?_) (fun h => ?_)
    | refine g_splitG rfl rfl rfl (fun h => ?_) (fun h => ?_)
    | refine g_splitP rfl rfl (fun h => ?_) (fun h => ?_)
  rw [List.length_map]
  refine g_loop (fun q : Nat × Unit => q.1 ≤ l.length ∧ inv q.2 ∧ idxR p nx (l.drop q.1) q.1 q.2 = idxR p nx l 0 s) (fun q => (fun s : Unit => ([(0, pS (.sl 1 (l.map rowR))), (1, .one (.cl f [] [.bx 0 0])), (7, I l.length), (8, I q.1)], [(0, some (.box [.p (ki kx)]))])) q.2) (fun q => l.length - q.1) hC
    (0, s) ⟨Nat.zero_le _, hs, rfl⟩ id ⟨rfl, ⟨rfl, rfl, rfl, rfl, trivial⟩, ⟨rfl, trivial⟩, rfl, fun _ _ => rfl⟩ ?_
  generalize idxR p nx l 0 s = res
  clear hs hs0
  rintro ⟨i, s⟩ ⟨hi, hv, hn⟩
  simp only at hi hv hn
  refine g_run' T hC true 200 rfl ?_
  refine g_cond rfl (fun hh => ?_) (fun hh => ?_)
  · have hlt : i < l.length := by simpa using hh
    clear hh
    obtain ⟨x, hx⟩ := exists_at hlt
    rw [drop_at hx] at hn
    simp only [idxR] at hn
    have hv2 := (hf x (List.mem_of_getElem? hx) s hv).2
    repeat' first
      | refine g_go T hC true 400 rfl rfl ?_
      | refine g_cond rfl (fun h => ?_) (fun h => ?_)
      | refine g_end T hC (by kernel_rfl) ?_
      | refine g_splitD (fun h => ?_) (fun h => ?_)
      | refine g_splitG rfl rfl rfl (fun h => ?_) (fun h => ?_)
      | refine g_splitP rfl rfl (fun h => ?_) (fun h => ?_)
      | refine g_idx T hC rfl rfl rfl (Int.natCast_nonneg _) (map_at hx) rfl rfl ?_
      | refine g_callR hC (hf x (List.mem_of_getElem? hx) s hv).1 id rfl rfl (LeSs.refl _) rfl rfl rfl rfl rfl rfl rfl rfl ?_
      | refine g_outR ?_
    · rw [if_pos (by assumption)] at hn
      subst hn
      exact g_fin ⟨.inl rfl, id, _, rfl, .refl _, ⟨rfl, trivial⟩, rfl, rfl⟩
    · have hpf : p x s = false := by assumption
      rw [hpf] at hn
      simp only [Bool.false_eq_true, if_false] at hn
      rw [wrap64 (by omega)]
      exact g_round (i + 1, nx x s) ⟨by simp only; omega, hv2 hpf, hn⟩ id (by simp only; omega) ⟨rfl, ⟨rfl, rfl, rfl, rfl, trivial⟩, ⟨rfl, trivial⟩, rfl, fun _ _ => rfl⟩
  · have hge : ¬ i < l.length := by simpa using hh
    rw [List.drop_eq_nil_of_le (by omega)] at hn
    simp only [idxR] at hn
    subst hn
    repeat' first
      | refine g_go T hC true 400 rfl rfl ?_
      | refine g_cond rfl (fun h => ?_) (fun h => ?_)
      | refine g_end T hC (by kernel_rfl) ?_
      | refine g_splitD (fun h => ?_) (fun h => ?_)
      | refine g_splitG rfl rfl rfl (fun h => ?_) (fun h => ?_)
      | refine g_splitP rfl rfl (fun h => ?_) (fun h => ?_)
      | refine g_outE ?_
    exact g_fin ⟨.inl rfl, id, _, rfl, .refl _, ⟨rfl, trivial⟩, rfl, rfl⟩
theorem idxR_cls (a : Int) : ∀ (R : Rws) (k : Nat), (idxR (fun (r : Rw) (_ : Unit) => decide (a ∈ r)) (fun _ s => s) R k ()).1 = clsI a R k
  | [], k => rfl
  | r :: R, k => by
    simp only [idxR, clsI, decide_eq_true_eq]
    split
    · rfl
    · exact idxR_cls a R (k + 1)
theorem class_ok (R : Rws) (a : Int) : FnOK Tryz.prog 81 [pS (rowsP R), I a] [] (I (clsI a R 0)) [] := by
  have hX := clsN_idx 103 a R (fun r _ => decide (a ∈ r)) (fun _ s => s) (fun _ => True) (fun r _ _ _ => ⟨class1_ok r a, fun _ => trivial⟩) () trivial
  rw [idxR_cls] at hX
  refine fn_ok T Tryz.func81 (by kernel_rfl) rfl rfl rfl rfl fun C hC => ?_
  repeat' first
    | refine g_go T hC true 400 rfl rfl ?_
    | refine g_cond rfl (fun h => ?_) (fun h => ?_)
    | refine g_end T hC (by kernel_rfl) ?_
    | refine g_splitD (fun h => ?_) (fun h => ?_)
    | refine g_splitG rfl rfl rfl (fun h => ?_) (fun h => ?_)
    | refine g_splitP rfl rfl (fun h => ?_) (fun h => ?_)
    | refine g_callR hC (hX) (nm [1003]) rfl rfl (LeSs.refl _) rfl rfl rfl rfl rfl rfl rfl rfl ?_
  exact g_fin ⟨.inl rfl, id, _, rfl, .refl _, trivial, rfl, rfl⟩
theorem truth_ok (b : Bool) : FnOK Tryz.prog 82 [.bq b] [] (I (if b = true then 1 else 0)) [] := by
  refine fn_ok T Tryz.func82 (by kernel_rfl) rfl rfl rfl rfl fun C hC => ?_
  repeat' first
    | refine g_go T hC true 400 rfl rfl ?_
    | refine g_cond rfl (fun h => ?_) (fun h => ?_)
    | refine g_end T hC (by kernel_rfl) ?_
    | refine g_splitD (fun h => ?_) (fun h => ?_)
    | refine g_splitG rfl rfl rfl (fun h => ?_) (fun h => ?_)
    | refine g_splitP rfl rfl (fun h => ?_) (fun h => ?_)
    | refine g_reti T (.inl rfl) rfl ?_
  · rw [h]; rfl
  · rw [h]; rfl
theorem clsI_spec (a : Int) : ∀ (R : Rws) (k : Nat), (clsI a R k = -1 ∧ ∀ r ∈ R, a ∉ r) ∨ ∃ (i : Nat) (r : Rw), clsI a R k = ((k + i : Nat) : Int) ∧ R[i]? = some r ∧ a ∈ r ∧ ∀ (j : Nat) s, j < i → R[j]? = some s → a ∉ s
  | [], k => .inl ⟨rfl, fun r hr => by cases hr⟩
  | r :: R, k => by
    simp only [clsI]
    split
    · rename_i h
      exact .inr ⟨0, r, rfl, rfl, h, fun j s hj => absurd hj (Nat.not_lt_zero _)⟩
    · rename_i h
      rcases clsI_spec a R (k + 1) with ⟨h1, h2⟩ | ⟨i, s, h1, h2, h3, h4⟩
      · exact .inl ⟨h1, fun x hx => (List.mem_cons.1 hx).elim (fun e => by rw [e]; exact h) (h2 x)⟩
      · refine .inr ⟨i + 1, s, by rw [h1]; congr 1; omega, h2, h3, fun j x hj hx => ?_⟩
        cases j with
        | zero => simp at hx; rw [← hx]; exact h
        | succ j => exact h4 j x (by omega) (by simpa using hx)
end Hw.Mq
namespace Hw.Mq
open Go Go.Proofs Go.Shelf Hw.M

/-! models: partitions on rows of the run's own -/
theorem set5 (R : Rws) (hR : R.length ≤ 500)  : FnOK Tryz.prog 58 [.one (.ar 0), aggS [ki 5, intsP []]] [(0, vg 1 R.length), (1, bg R)] (.tup [.one (.ar 2), aggS (rsR (okR R.length))]) [(2, vg 3 R.length), (3, bg R)] := by
  have hN := result_ok R.length
  refine fn_ok T Tryz.func58 (by kernel_rfl) rfl rfl rfl rfl fun C hC => ?_
  repeat' first
    | refine g_go T hC true 400 rfl rfl ?_
    | (exfalso; first | (simp only [decide_eq_true_eq, decide_eq_false_iff_not, List.length_map, Bool.not_eq_true', Bool.not_eq_false'] at *; omega) | (simp at h; done))
    | refine g_cond rfl (fun h => ?_) (fun h => ?_)
    | refine g_end T hC (by kernel_rfl) ?_
    | refine g_splitD (fun h => ?_) (fun h => ?_)
    | refine g_splitG rfl rfl rfl (fun h => ?_) (fun h => ?_)
    | refine g_splitP rfl rfl (fun h => ?_) (fun h => ?_)
    | refine g_lenG T hC rfl rfl rfl rfl rfl rfl ?_
    | refine g_call hC (hN) rfl rfl (LeSs.refl _) rfl rfl rfl ?_
  all_goals exact g_fin ⟨.inl rfl, nm [0, 1, 0, 1], _, rfl, .refl _, ⟨rfl, rfl, trivial⟩, rfl, rfl⟩

theorem set4n (R : Rws) (hR : R.length ≤ 500) (x za : Int) (hA : FnOK Tryz.prog 81 [pS (rowsP R), I x] [] (I za) []) (hz : za < 0) : FnOK Tryz.prog 58 [.one (.ar 0), aggS [ki 4, intsP [x]]] [(0, vg 1 R.length), (1, bg R)] (.tup [.one (.ar 2), aggS (rsR (erR 12))]) [(2, vg 3 R.length), (3, bg R)] := by
  have hN := failed_ok 12
  refine fn_ok T Tryz.func58 (by kernel_rfl) rfl rfl rfl rfl fun C hC => ?_
  repeat' first
    | refine g_go T hC true 400 rfl rfl ?_
    | (exfalso; first | (simp only [decide_eq_true_eq, decide_eq_false_iff_not, List.length_map, Bool.not_eq_true', Bool.not_eq_false'] at *; omega) | (simp at h; done))
    | refine g_cond rfl (fun h => ?_) (fun h => ?_)
    | refine g_end T hC (by kernel_rfl) ?_
    | refine g_splitD (fun h => ?_) (fun h => ?_)
    | refine g_splitG rfl rfl rfl (fun h => ?_) (fun h => ?_)
    | refine g_splitP rfl rfl (fun h => ?_) (fun h => ?_)
    | refine g_lenG T hC rfl rfl rfl rfl rfl rfl ?_
    | refine g_idx T hC rfl rfl rfl (by decide) rfl rfl rfl ?_
    | refine g_callN hC hA [(0, vg 1 R.length), (1, bg R)] rfl rfl (LnSs.cons (LnS.one (lend2 0 1 R)) (LnSs.refl _)) rfl rfl rfl rfl ?_
    | refine g_call hC (hN) rfl rfl (LeSs.refl _) rfl rfl rfl ?_
  all_goals exact g_fin ⟨.inl rfl, nm [0, 1, 0, 1], _, rfl, .refl _, ⟨rfl, rfl, trivial⟩, rfl, rfl⟩

theorem set4 (R : Rws) (hR : R.length ≤ 500) (x : Int) (i : Nat) (r : Rw) (hq : R[i]? = some r) (hil : i < R.length) (hA : FnOK Tryz.prog 81 [pS (rowsP R), I x] [] (I i) []) : FnOK Tryz.prog 58 [.one (.ar 0), aggS [ki 4, intsP [x]]] [(0, vg 1 R.length), (1, bg R)] (.tup [.one (.ar 2), aggS (rsR (okR r.length))]) [(2, vg 3 R.length), (3, bg R)] := by
  have hN := result_ok r.length
  refine fn_ok T Tryz.func58 (by kernel_rfl) rfl rfl rfl rfl fun C hC => ?_
  repeat' first
    | refine g_go T hC true 400 rfl rfl ?_
    | (exfalso; first | (simp only [decide_eq_true_eq, decide_eq_false_iff_not, List.length_map, Bool.not_eq_true', Bool.not_eq_false'] at *; omega) | (simp at h; done))
    | refine g_cond rfl (fun h => ?_) (fun h => ?_)
    | refine g_end T hC (by kernel_rfl) ?_
    | refine g_splitD (fun h => ?_) (fun h => ?_)
    | refine g_splitG rfl rfl rfl (fun h => ?_) (fun h => ?_)
    | refine g_splitP rfl rfl (fun h => ?_) (fun h => ?_)
    | refine g_lenG T hC rfl rfl rfl rfl rfl rfl ?_
    | refine g_idx T hC rfl rfl rfl (by decide) rfl rfl rfl ?_
    | refine g_callN hC hA [(0, vg 1 R.length), (1, bg R)] rfl rfl (LnSs.cons (LnS.one (lend2 0 1 R)) (LnSs.refl _)) rfl rfl rfl rfl ?_
    | (refine g_idxR T hC (i) rfl rfl rfl rfl rfl (by omega) rfl rfl ?_; refine g_loadR T hC rfl rfl rfl (by omega) rfl rfl ?_)
    | refine g_lenC T hC hq rfl rfl rfl rfl rfl ?_
    | refine g_call hC (hN) rfl rfl (LeSs.refl _) rfl rfl rfl ?_
  all_goals exact g_fin ⟨.inl rfl, nm [0, 1, 0, 1], _, rfl, .refl _, ⟨rfl, rfl, trivial⟩, rfl, rfl⟩

theorem set2n (R : Rws) (hR : R.length ≤ 500) (x y za zb : Int) (hA : FnOK Tryz.prog 81 [pS (rowsP R), I x] [] (I za) []) (hB : FnOK Tryz.prog 81 [pS (rowsP R), I y] [] (I zb) []) (hz : za < 0 ∨ zb < 0) : FnOK Tryz.prog 58 [.one (.ar 0), aggS [ki 2, intsP [x, y]]] [(0, vg 1 R.length), (1, bg R)] (.tup [.one (.ar 2), aggS (rsR (erR 12))]) [(2, vg 3 R.length), (3, bg R)] := by
  have hN := failed_ok 12
  refine fn_ok T Tryz.func58 (by kernel_rfl) rfl rfl rfl rfl fun C hC => ?_
  repeat' first
    | refine g_go T hC true 400 rfl rfl ?_
    | (exfalso; first | (simp only [decide_eq_true_eq, decide_eq_false_iff_not, List.length_map, Bool.not_eq_true', Bool.not_eq_false'] at *; omega) | (simp at h; done))
    | refine g_cond rfl (fun h => ?_) (fun h => ?_)
    | refine g_end T hC (by kernel_rfl) ?_
    | refine g_splitD (fun h => ?_) (fun h => ?_)
    | refine g_splitG rfl rfl rfl (fun h => ?_) (fun h => ?_)
    | refine g_splitP rfl rfl (fun h => ?_) (fun h => ?_)
    | refine g_lenG T hC rfl rfl rfl rfl rfl rfl ?_
    | refine g_idx T hC rfl rfl rfl (by decide) rfl rfl rfl ?_
    | refine g_callN hC hA [(0, vg 1 R.length), (1, bg R)] rfl rfl (LnSs.cons (LnS.one (lend2 0 1 R)) (LnSs.refl _)) rfl rfl rfl rfl ?_
    | refine g_callN hC hB [(0, vg 1 R.length), (1, bg R)] rfl rfl (LnSs.cons (LnS.one (lend2 0 1 R)) (LnSs.refl _)) rfl rfl rfl rfl ?_
    | refine g_call hC (hN) rfl rfl (LeSs.refl _) rfl rfl rfl ?_
  all_goals exact g_fin ⟨.inl rfl, nm [0, 1, 0, 1], _, rfl, .refl _, ⟨rfl, rfl, trivial⟩, rfl, rfl⟩

theorem set3n (R : Rws) (hR : R.length ≤ 500) (x y za zb : Int) (hA : FnOK Tryz.prog 81 [pS (rowsP R), I x] [] (I za) []) (hB : FnOK Tryz.prog 81 [pS (rowsP R), I y] [] (I zb) []) (hz : za < 0 ∨ zb < 0) : FnOK Tryz.prog 58 [.one (.ar 0), aggS [ki 3, intsP [x, y]]] [(0, vg 1 R.length), (1, bg R)] (.tup [.one (.ar 2), aggS (rsR (erR 12))]) [(2, vg 3 R.length), (3, bg R)] := by
  have hN := failed_ok 12
  refine fn_ok T Tryz.func58 (by kernel_rfl) rfl rfl rfl rfl fun C hC => ?_
  repeat' first
    | refine g_go T hC true 400 rfl rfl ?_
    | (exfalso; first | (simp only [decide_eq_true_eq, decide_eq_false_iff_not, List.length_map, Bool.not_eq_true', Bool.not_eq_false'] at *; omega) | (simp at h; done))
    | refine g_cond rfl (fun h => ?_) (fun h => ?_)
    | refine g_end T hC (by kernel_rfl) ?_
    | refine g_splitD (fun h => ?_) (fun h => ?_)
    | refine g_splitG rfl rfl rfl (fun h => ?_) (fun h => ?_)
    | refine g_splitP rfl rfl (fun h => ?_) (fun h => ?_)
    | refine g_lenG T hC rfl rfl rfl rfl rfl rfl ?_
    | refine g_idx T hC rfl rfl rfl (by decide) rfl rfl rfl ?_
    | refine g_callN hC hA [(0, vg 1 R.length), (1, bg R)] rfl rfl (LnSs.cons (LnS.one (lend2 0 1 R)) (LnSs.refl _)) rfl rfl rfl rfl ?_
    | refine g_callN hC hB [(0, vg 1 R.length), (1, bg R)] rfl rfl (LnSs.cons (LnS.one (lend2 0 1 R)) (LnSs.refl _)) rfl rfl rfl rfl ?_
    | refine g_call hC (hN) rfl rfl (LeSs.refl _) rfl rfl rfl ?_
  all_goals exact g_fin ⟨.inl rfl, nm [0, 1, 0, 1], _, rfl, .refl _, ⟨rfl, rfl, trivial⟩, rfl, rfl⟩

theorem set3 (R : Rws) (hR : R.length ≤ 500) (x y za zb : Int) (hA : FnOK Tryz.prog 81 [pS (rowsP R), I x] [] (I za) []) (hB : FnOK Tryz.prog 81 [pS (rowsP R), I y] [] (I zb) []) (hz : 0 ≤ za) (hz2 : 0 ≤ zb) : FnOK Tryz.prog 58 [.one (.ar 0), aggS [ki 3, intsP [x, y]]] [(0, vg 1 R.length), (1, bg R)] (.tup [.one (.ar 2), aggS (rsR (okR (if za = zb then 1 else 0)))]) [(2, vg 3 R.length), (3, bg R)] := by
  have hT2 := truth_ok (decide (za = zb))
  have hN := result_ok (if decide (za = zb) = true then 1 else 0)
  have he : (if decide (za = zb) = true then (1 : Int) else 0) = if za = zb then 1 else 0 := by simp
  refine fn_ok T Tryz.func58 (by kernel_rfl) rfl rfl rfl rfl fun C hC => ?_
  repeat' first
    | refine g_go T hC true 400 rfl rfl ?_
    | (exfalso; first | (simp only [decide_eq_true_eq, decide_eq_false_iff_not, List.length_map, Bool.not_eq_true', Bool.not_eq_false'] at *; omega) | (simp at h; done))
    | refine g_cond rfl (fun h => ?_) (fun h => ?_)
    | refine g_end T hC (by kernel_rfl) ?_
    | refine g_splitD (fun h => ?_) (fun h => ?_)
    | refine g_splitG rfl rfl rfl (fun h => ?_) (fun h => ?_)
    | refine g_splitP rfl rfl (fun h => ?_) (fun h => ?_)
    | refine g_lenG T hC rfl rfl rfl rfl rfl rfl ?_
    | refine g_idx T hC rfl rfl rfl (by decide) rfl rfl rfl ?_
    | refine g_callN hC hA [(0, vg 1 R.length), (1, bg R)] rfl rfl (LnSs.cons (LnS.one (lend2 0 1 R)) (LnSs.refl _)) rfl rfl rfl rfl ?_
    | refine g_callN hC hB [(0, vg 1 R.length), (1, bg R)] rfl rfl (LnSs.cons (LnS.one (lend2 0 1 R)) (LnSs.refl _)) rfl rfl rfl rfl ?_
    | refine g_call hC (hT2) rfl rfl (LeSs.refl _) rfl rfl rfl ?_
    | refine g_call hC (hN) rfl rfl (LeSs.refl _) rfl rfl rfl ?_
  rw [he]
  all_goals exact g_fin ⟨.inl rfl, nm [0, 1, 0, 1], _, rfl, .refl _, ⟨rfl, rfl, trivial⟩, rfl, rfl⟩

theorem set2s (R : Rws) (hR : R.length ≤ 500) (x y za : Int) (hA : FnOK Tryz.prog 81 [pS (rowsP R), I x] [] (I za) []) (hB : FnOK Tryz.prog 81 [pS (rowsP R), I y] [] (I za) []) (hz : 0 ≤ za) : FnOK Tryz.prog 58 [.one (.ar 0), aggS [ki 2, intsP [x, y]]] [(0, vg 1 R.length), (1, bg R)] (.tup [.one (.ar 2), aggS (rsR (okR 0))]) [(2, vg 3 R.length), (3, bg R)] := by
  have hN := result_ok 0
  refine fn_ok T Tryz.func58 (by kernel_rfl) rfl rfl rfl rfl fun C hC => ?_
  repeat' first
    | refine g_go T hC true 400 rfl rfl ?_
    | (exfalso; first | (simp only [decide_eq_true_eq, decide_eq_false_iff_not, List.length_map, Bool.not_eq_true', Bool.not_eq_false'] at *; omega) | (simp at h; done))
    | refine g_cond rfl (fun h => ?_) (fun h => ?_)
    | refine g_end T hC (by kernel_rfl) ?_
    | refine g_splitD (fun h => ?_) (fun h => ?_)
    | refine g_splitG rfl rfl rfl (fun h => ?_) (fun h => ?_)
    | refine g_splitP rfl rfl (fun h => ?_) (fun h => ?_)
    | refine g_lenG T hC rfl rfl rfl rfl rfl rfl ?_
    | refine g_idx T hC rfl rfl rfl (by decide) rfl rfl rfl ?_
    | refine g_callN hC hA [(0, vg 1 R.length), (1, bg R)] rfl rfl (LnSs.cons (LnS.one (lend2 0 1 R)) (LnSs.refl _)) rfl rfl rfl rfl ?_
    | refine g_callN hC hB [(0, vg 1 R.length), (1, bg R)] rfl rfl (LnSs.cons (LnS.one (lend2 0 1 R)) (LnSs.refl _)) rfl rfl rfl rfl ?_
    | refine g_call hC (hN) rfl rfl (LeSs.refl _) rfl rfl rfl ?_
  all_goals exact g_fin ⟨.inl rfl, nm [0, 1, 0, 1], _, rfl, .refl _, ⟨rfl, rfl, trivial⟩, rfl, rfl⟩

theorem flat_take {R : Rws} {i : Nat} {r : Rw} (h : R[i]? = some r) : (R.take (i + 1)).flatten.length = (R.take i).flatten.length + r.length := by
  rw [take_snoc h, List.flatten_append, List.length_append]; simp
theorem flat_take_le (R : Rws) (i : Nat) : (R.take i).flatten.length ≤ R.flatten.length := by
  conv => rhs; rw [← List.take_append_drop i R, List.flatten_append, List.length_append]
  omega
theorem set1f (R : Rws) (hR : R.length ≤ 500) (h5 : R.flatten.length = 500) : FnOK Tryz.prog 58 [.one (.ar 0), aggS [ki 1, intsP []]] [(0, vg 1 R.length), (1, bg R)] (.tup [.one (.ar 2), aggS (rsR (erR 4))]) [(2, vg 3 R.length), (3, bg R)] := by
  have hb : R.flatten.length ≤ 500 := by omega
  have hN := failed_ok 4
  refine fn_ok T Tryz.func58 (by kernel_rfl) rfl rfl rfl rfl fun C hC => ?_
  repeat' first
    | refine g_go T hC true 400 rfl rfl ?_
    | (exfalso; first | (simp only [decide_eq_true_eq, decide_eq_false_iff_not, List.length_map, Bool.not_eq_true', Bool.not_eq_false'] at *; omega) | (simp at h; done))
    | refine g_cond rfl (fun h => ?_) (fun h => ?_)
    | refine g_end T hC (by kernel_rfl) ?_
    | refine g_splitD (fun h => ?_) (fun h => ?_)
    | refine g_splitG rfl rfl rfl (fun h => ?_) (fun h => ?_)
    | refine g_splitP rfl rfl (fun h => ?_) (fun h => ?_)
    | refine g_lenG T hC rfl rfl rfl rfl rfl rfl ?_
  refine g_loop (fun i : Nat => i ≤ R.length) (fun i => ([(0, .one (.ar 0)), (5, .one (.bx 1005 0)), (6, I ((R.take i).flatten.length)), (21, .one (.ar 0)), (22, I R.length), (23, I i)], [(0, some (vg 1 R.length)), (1, some (bg R)), (1005, some (.box [.p (ki 0), .p (ki 0), .p (.k (.slice none 0 0))]))])) (fun i => R.length - i) hC
    0 (Nat.zero_le _) id ⟨rfl, ⟨rfl, rfl, rfl, rfl, rfl, rfl, trivial⟩, ⟨rfl, rfl, rfl, trivial⟩, rfl, fun _ _ => rfl⟩ ?_
  intro i hi
  refine g_run' T hC true 200 rfl ?_
  refine g_cond rfl (fun h => ?_) (fun h => ?_)
  · have hlt : i < R.length := by simpa using h
    clear h
    obtain ⟨r, hq⟩ := exists_at hlt
    have hft := flat_take hq
    have hle := flat_take_le R (i + 1)
    repeat' first
      | refine g_go T hC true 400 rfl rfl ?_
      | refine g_cond rfl (fun h => ?_) (fun h => ?_)
      | refine g_end T hC (by kernel_rfl) ?_
      | refine g_splitD (fun h => ?_) (fun h => ?_)
      | refine g_splitG rfl rfl rfl (fun h => ?_) (fun h => ?_)
      | refine g_splitP rfl rfl (fun h => ?_) (fun h => ?_)
      | refine g_idxR T hC i rfl rfl rfl rfl rfl hlt rfl rfl ?_
      | refine g_loadR T hC rfl rfl rfl hlt rfl rfl ?_
      | refine g_lenC T hC hq rfl rfl rfl rfl rfl ?_
    rw [wrapS (by omega), wrap64 (n := ((R.take i).flatten.length : Int) + (r.length : Int)) (by omega), show ((R.take i).flatten.length : Int) + (r.length : Int) = (((R.take (i + 1)).flatten.length : Nat) : Int) by omega]
    exact g_round (i + 1) (by omega) id (by omega) ⟨rfl, ⟨rfl, rfl, rfl, rfl, rfl, rfl, trivial⟩, ⟨rfl, rfl, rfl, trivial⟩, rfl, fun _ _ => rfl⟩
  · have hge : ¬ i < R.length := by simpa using h
    have e : R.take i = R := List.take_of_length_le (by omega)
    rw [e]
    repeat' first
      | refine g_go T hC true 400 rfl rfl ?_
      | (exfalso; first | (simp only [decide_eq_true_eq, decide_eq_false_iff_not, List.length_map, Bool.not_eq_true', Bool.not_eq_false'] at *; omega) | (simp at h; done))
      | refine g_cond rfl (fun h => ?_) (fun h => ?_)
      | refine g_end T hC (by kernel_rfl) ?_
      | refine g_splitD (fun h => ?_) (fun h => ?_)
      | refine g_splitG rfl rfl rfl (fun h => ?_) (fun h => ?_)
      | refine g_splitP rfl rfl (fun h => ?_) (fun h => ?_)
      | refine g_outE ?_
      | refine g_lenG T hC rfl rfl rfl rfl rfl rfl ?_
      | refine g_call hC (hN) rfl rfl (LeSs.refl _) rfl rfl rfl ?_
    all_goals exact g_fin ⟨.inl rfl, nm [0, 1, 0, 1], _, rfl, .refl _, ⟨rfl, rfl, trivial⟩, rfl, rfl⟩

theorem set1 (R : Rws) (hR : R.length ≤ 500) (h5 : R.flatten.length < 500) : FnOK Tryz.prog 58 [.one (.ar 0), aggS [ki 1, intsP []]] [(0, vg 1 R.length), (1, bg R)] (.tup [.one (.ar 2), aggS (rsR (okR R.flatten.length))]) [(2, vg 3 (R.length + 1)), (3, bg (R ++ [[(R.flatten.length : Int)]]))] := by
  have hb : R.flatten.length ≤ 500 := by omega
  have hN := result_ok R.flatten.length
  have hbg : bg (R ++ [[(R.flatten.length : Int)]]) = .bag 1 ((R.map fun r => r.map intR) ++ [[[ki R.flatten.length]]]) := by rw [bg, ← bg_snoc]; rfl
  refine fn_ok T Tryz.func58 (by kernel_rfl) rfl rfl rfl rfl fun C hC => ?_
  repeat' first
    | refine g_go T hC true 400 rfl rfl ?_
    | (exfalso; first | (simp only [decide_eq_true_eq, decide_eq_false_iff_not, List.length_map, Bool.not_eq_true', Bool.not_eq_false'] at *; omega) | (simp at h; done))
    | refine g_cond rfl (fun h => ?_) (fun h => ?_)
    | refine g_end T hC (by kernel_rfl) ?_
    | refine g_splitD (fun h => ?_) (fun h => ?_)
    | refine g_splitG rfl rfl rfl (fun h => ?_) (fun h => ?_)
    | refine g_splitP rfl rfl (fun h => ?_) (fun h => ?_)
    | refine g_lenG T hC rfl rfl rfl rfl rfl rfl ?_
  refine g_loop (fun i : Nat => i ≤ R.length) (fun i => ([(0, .one (.ar 0)), (5, .one (.bx 1005 0)), (6, I ((R.take i).flatten.length)), (21, .one (.ar 0)), (22, I R.length), (23, I i)], [(0, some (vg 1 R.length)), (1, some (bg R)), (1005, some (.box [.p (ki 0), .p (ki 0), .p (.k (.slice none 0 0))]))])) (fun i => R.length - i) hC
    0 (Nat.zero_le _) id ⟨rfl, ⟨rfl, rfl, rfl, rfl, rfl, rfl, trivial⟩, ⟨rfl, rfl, rfl, trivial⟩, rfl, fun _ _ => rfl⟩ ?_
  intro i hi
  refine g_run' T hC true 200 rfl ?_
  refine g_cond rfl (fun h => ?_) (fun h => ?_)
  · have hlt : i < R.length := by simpa using h
    clear h
    obtain ⟨r, hq⟩ := exists_at hlt
    have hft := flat_take hq
    have hle := flat_take_le R (i + 1)
    repeat' first
      | refine g_go T hC true 400 rfl rfl ?_
      | refine g_cond rfl (fun h => ?_) (fun h => ?_)
      | refine g_end T hC (by kernel_rfl) ?_
      | refine g_splitD (fun h => ?_) (fun h => ?_)
      | refine g_splitG rfl rfl rfl (fun h => ?_) (fun h => ?_)
      | refine g_splitP rfl rfl (fun h => ?_) (fun h => ?_)
      | refine g_idxR T hC i rfl rfl rfl rfl rfl hlt rfl rfl ?_
      | refine g_loadR T hC rfl rfl rfl hlt rfl rfl ?_
      | refine g_lenC T hC hq rfl rfl rfl rfl rfl ?_
    rw [wrapS (by omega), wrap64 (n := ((R.take i).flatten.length : Int) + (r.length : Int)) (by omega), show ((R.take i).flatten.length : Int) + (r.length : Int) = (((R.take (i + 1)).flatten.length : Nat) : Int) by omega]
    exact g_round (i + 1) (by omega) id (by omega) ⟨rfl, ⟨rfl, rfl, rfl, rfl, rfl, rfl, trivial⟩, ⟨rfl, rfl, rfl, trivial⟩, rfl, fun _ _ => rfl⟩
  · have hge : ¬ i < R.length := by simpa using h
    have e : R.take i = R := List.take_of_length_le (by omega)
    rw [e]
    have hml : (R.map fun r => r.map intR).length = R.length := List.length_map _
    repeat' first
      | refine g_go T hC true 400 rfl rfl ?_
      | (exfalso; first | (simp only [decide_eq_true_eq, decide_eq_false_iff_not, List.length_map, Bool.not_eq_true', Bool.not_eq_false'] at *; omega) | (simp at h; done))
      | refine g_cond rfl (fun h => ?_) (fun h => ?_)
      | refine g_end T hC (by kernel_rfl) ?_
      | refine g_splitD (fun h => ?_) (fun h => ?_)
      | refine g_splitG rfl rfl rfl (fun h => ?_) (fun h => ?_)
      | refine g_splitP rfl rfl (fun h => ?_) (fun h => ?_)
      | refine g_outE ?_
      | (refine g_litW T hC [PC.p (ki R.flatten.length)] [] rfl rfl rfl rfl rfl rfl rfl rfl rfl rfl rfl rfl ?_; refine g_toA rfl 1038 [[ki R.flatten.length]] rfl rfl ?_; refine g_take hC rfl 1 1038 105 (e := 1) (L := R.map fun r => r.map intR) (rs := [[ki R.flatten.length]]) rfl rfl rfl rfl [(38, .one (.nv 105 R.length))] ⟨⟨_, rfl, RwS.one (TkF.arr hml.symm)⟩, trivial⟩ [(0, vg 105 R.length)] ⟨⟨_, rfl, rfl, RwR.grid fun j _ => TkF.nv⟩, trivial⟩ ?_)
      | (refine g_litW T hC [PC.n 0 R.length] [105] rfl rfl rfl rfl rfl rfl rfl rfl rfl rfl rfl rfl ?_)
      | (refine g_appendG T 106 hC (ib := 105) (m := R.length) (bytes := 24) rfl rfl rfl rfl rfl rfl rfl rfl rfl (by kernel_rfl) (by omega) (by omega) rfl rfl rfl ?_)
      | refine g_call hC (hN) rfl rfl (LeSs.refl _) rfl rfl rfl ?_
    rw [hbg]
    exact g_fin ⟨.inl rfl, nm [0, 1, 106, 105], _, rfl, .refl _, ⟨rfl, rfl, trivial⟩, rfl, rfl⟩

end Hw.Mq
