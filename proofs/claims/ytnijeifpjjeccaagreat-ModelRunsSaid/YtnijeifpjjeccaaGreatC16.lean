/- The engine and the contracts. -/
import Derived.Test.YtnijeifpjjeccaaGreatC15
import Derived.Test.YtnijeifpjjeccaaGreatC14
set_option linter.unusedVariables false
set_option linter.unusedSimpArgs false
namespace Hw.Mz
open Go Go.Proofs Go.Shelf Hw.M

/-! models: the reference's priority queues -/
theorem rheap4 (R : Rws) (hR : R.length ≤ 500) : FnOK Tryz.prog 38 [aggS (stR 2 R), aggS [ki 4, intsP []]] [] (.tup [aggS (stR 2 R), aggS (rsR (okR R.length))]) [] := by
  have hlm : (R.map rowR).length = R.length := List.length_map _
  have hY := yield_ok 2 R R.length
  refine fn_ok T Tryz.func38 (by kernel_rfl) rfl rfl rfl rfl fun C hC => ?_
  repeat' first
    | refine g_go T hC true 400 rfl rfl ?_
    | (exfalso; simp at h; done)
    | refine g_cond rfl (fun h => ?_) (fun h => ?_)
    | refine g_end T hC (by kernel_rfl) ?_
    | refine g_splitD (fun h => ?_) (fun h => ?_)
    | refine g_splitG rfl rfl rfl (fun h => ?_) (fun h => ?_)
    | refine g_splitP rfl rfl (fun h => ?_) (fun h => ?_)
    | (rw [hlm]; refine g_call hC hY rfl rfl (LeSs.refl _) rfl rfl rfl ?_)
  all_goals exact g_fin ⟨.inl rfl, id, _, rfl, .refl _, trivial, rfl, rfl⟩
theorem rheap1f (R : Rws) (h5 : R.length = 500) (a : Int) : FnOK Tryz.prog 38 [aggS (stR 2 R), aggS [ki 1, intsP [a]]] [] (.tup [aggS (stR 2 R), aggS (rsR (erR 4))]) [] := by
  have hlm : (R.map rowR).length = R.length := List.length_map _
  have hY := fail_ok 2 R 4
  refine fn_ok T Tryz.func38 (by kernel_rfl) rfl rfl rfl rfl fun C hC => ?_
  repeat' first
    | refine g_go T hC true 400 rfl rfl ?_
    | (exfalso; first | (simp only [decide_eq_true_eq, decide_eq_false_iff_not, List.length_map, Bool.not_eq_true', Bool.not_eq_false'] at *; omega) | (simp at h; done))
    | (exfalso; simp at h; done)
    | refine g_cond rfl (fun h => ?_) (fun h => ?_)
    | refine g_end T hC (by kernel_rfl) ?_
    | refine g_splitD (fun h => ?_) (fun h => ?_)
    | refine g_splitG rfl rfl rfl (fun h => ?_) (fun h => ?_)
    | refine g_splitP rfl rfl (fun h => ?_) (fun h => ?_)
    | refine g_call hC (hY) rfl rfl (LeSs.refl _) rfl rfl rfl ?_
  all_goals exact g_fin ⟨.inl rfl, id, _, rfl, .refl _, trivial, rfl, rfl⟩
theorem rheapE (R : Rws) (h0 : R.length = 0) (c : Int) (hc : c = 2 ∨ c = 3) : FnOK Tryz.prog 38 [aggS (stR 2 R), aggS [ki c, intsP []]] [] (.tup [aggS (stR 2 R), aggS (rsR (erR 14))]) [] := by
  have hlm : (R.map rowR).length = R.length := List.length_map _
  have hY := fail_ok 2 R 14
  rcases hc with rfl | rfl
  · refine fn_ok T Tryz.func38 (by kernel_rfl) rfl rfl rfl rfl fun C hC => ?_
    repeat' first
      | refine g_go T hC true 400 rfl rfl ?_
      | (exfalso; first | (simp only [decide_eq_true_eq, decide_eq_false_iff_not, List.length_map, Bool.not_eq_true', Bool.not_eq_false'] at *; omega) | (simp at h; done))
      | (exfalso; simp at h; done)
      | refine g_cond rfl (fun h => ?_) (fun h => ?_)
      | refine g_end T hC (by kernel_rfl) ?_
      | refine g_splitD (fun h => ?_) (fun h => ?_)
      | refine g_splitG rfl rfl rfl (fun h => ?_) (fun h => ?_)
      | refine g_splitP rfl rfl (fun h => ?_) (fun h => ?_)
      | refine g_call hC (hY) rfl rfl (LeSs.refl _) rfl rfl rfl ?_
    all_goals exact g_fin ⟨.inl rfl, id, _, rfl, .refl _, trivial, rfl, rfl⟩
  · refine fn_ok T Tryz.func38 (by kernel_rfl) rfl rfl rfl rfl fun C hC => ?_
    repeat' first
      | refine g_go T hC true 400 rfl rfl ?_
      | (exfalso; first | (simp only [decide_eq_true_eq, decide_eq_false_iff_not, List.length_map, Bool.not_eq_true', Bool.not_eq_false'] at *; omega) | (simp at h; done))
      | (exfalso; simp at h; done)
      | refine g_cond rfl (fun h => ?_) (fun h => ?_)
      | refine g_end T hC (by kernel_rfl) ?_
      | refine g_splitD (fun h => ?_) (fun h => ?_)
      | refine g_splitG rfl rfl rfl (fun h => ?_) (fun h => ?_)
      | refine g_splitP rfl rfl (fun h => ?_) (fun h => ?_)
      | refine g_call hC (hY) rfl rfl (LeSs.refl _) rfl rfl rfl ?_
    all_goals exact g_fin ⟨.inl rfl, id, _, rfl, .refl _, trivial, rfl, rfl⟩
theorem rheap2 (R : Rws) (hR : R.length ≤ 500) (r : Rw) (v : Int) (hq : R[0]? = some r) (hv : r[0]? = some v) : FnOK Tryz.prog 38 [aggS (stR 2 R), aggS [ki 2, intsP []]] [] (.tup [aggS (stR 2 R), aggS (rsR (okR v))]) [] := by
  have hlm : (R.map rowR).length = R.length := List.length_map _
  have hpos := (List.getElem?_eq_some_iff.1 hq).1
  have hY := yield_ok 2 R v
  refine fn_ok T Tryz.func38 (by kernel_rfl) rfl rfl rfl rfl fun C hC => ?_
  repeat' first
    | refine g_go T hC true 400 rfl rfl ?_
    | (exfalso; first | (simp only [decide_eq_true_eq, decide_eq_false_iff_not, List.length_map, Bool.not_eq_true', Bool.not_eq_false'] at *; omega) | (simp at h; done))
    | (exfalso; simp at h; done)
    | refine g_cond rfl (fun h => ?_) (fun h => ?_)
    | refine g_end T hC (by kernel_rfl) ?_
    | refine g_splitD (fun h => ?_) (fun h => ?_)
    | refine g_splitG rfl rfl rfl (fun h => ?_) (fun h => ?_)
    | refine g_splitP rfl rfl (fun h => ?_) (fun h => ?_)
    | refine g_idx T hC (rows := R.map rowR) rfl rfl rfl (by decide) (map_atI hq) rfl rfl ?_
    | refine g_idx T hC (rows := r.map intR) rfl rfl rfl (by decide) (map_atI hv) rfl rfl ?_
    | refine g_call hC (hY) rfl rfl (LeSs.refl _) rfl rfl rfl ?_
  all_goals exact g_fin ⟨.inl rfl, id, _, rfl, .refl _, trivial, rfl, rfl⟩
theorem rheap3 (R : Rws) (hR : R.length ≤ 500) (r : Rw) (v : Int) (hq : R[0]? = some r) (hv : r[0]? = some v) : FnOK Tryz.prog 38 [aggS (stR 2 R), aggS [ki 3, intsP []]] [] (.tup [aggS (stR 2 (R.eraseIdx 0)), aggS (rsR (okR v))]) [] := by
  have hlm : (R.map rowR).length = R.length := List.length_map _
  have hpos := (List.getElem?_eq_some_iff.1 hq).1
  have hY := yield_ok 2 (R.eraseIdx 0) v
  have hX := cut_ok R (by omega) 0 hpos
  refine fn_ok T Tryz.func38 (by kernel_rfl) rfl rfl rfl rfl fun C hC => ?_
  repeat' first
    | refine g_go T hC true 400 rfl rfl ?_
    | (exfalso; first | (simp only [decide_eq_true_eq, decide_eq_false_iff_not, List.length_map, Bool.not_eq_true', Bool.not_eq_false'] at *; omega) | (simp at h; done))
    | (exfalso; simp at h; done)
    | refine g_cond rfl (fun h => ?_) (fun h => ?_)
    | refine g_end T hC (by kernel_rfl) ?_
    | refine g_splitD (fun h => ?_) (fun h => ?_)
    | refine g_splitG rfl rfl rfl (fun h => ?_) (fun h => ?_)
    | refine g_splitP rfl rfl (fun h => ?_) (fun h => ?_)
    | refine g_idx T hC (rows := R.map rowR) rfl rfl rfl (by decide) (map_atI hq) rfl rfl ?_
    | refine g_idx T hC (rows := r.map intR) rfl rfl rfl (by decide) (map_atI hv) rfl rfl ?_
    | refine g_call hC (hX) rfl rfl (LeSs.refl _) rfl rfl rfl ?_
    | refine g_call hC (hY) rfl rfl (LeSs.refl _) rfl rfl rfl ?_
  all_goals exact g_fin ⟨.inl rfl, id, _, rfl, .refl _, trivial, rfl, rfl⟩
theorem rheap1 (R : Rws) (h5 : R.length < 500) (hT : TabOk 1 (fun a b => !ltC 1 b a) R) (a : Int) : FnOK Tryz.prog 38 [aggS (stR 2 R), aggS [ki 1, intsP [a]]] [] (.tup [aggS (stR 2 (insR R (posC 1 R [a]) [a])), aggS (rsR (okR 0))]) [] := by
  have hlm : (R.map rowR).length = R.length := List.length_map _
  have hple := posC_le 1 R [a]
  have hsp := posC_spec hT pos_le [a]
  have hbel : ∀ (i : Nat) (x : Int), R[i]? = some [x] → (x < a ↔ i < posC 1 R [a]) := fun i x hi => by
    have hk : ltC 1 [x] [a] = decide (x < a) := by rw [ltC_one (by simp) (by simp)]; rfl
    constructor
    · intro hlt
      rcases Nat.lt_or_ge i (posC 1 R [a]) with h1 | h1
      · exact h1
      · have : [x] ∈ R.drop (posC 1 R [a]) := by
          refine List.mem_of_getElem? (i := i - posC 1 R [a]) ?_
          rw [List.getElem?_drop, show posC 1 R [a] + (i - posC 1 R [a]) = i by omega]; exact hi
        have := hsp.2 _ this
        rw [hk, decide_eq_false_iff_not] at this
        exact absurd hlt this
    · intro h1
      have : [x] ∈ R.take (posC 1 R [a]) := by
        refine List.mem_of_getElem? (i := i) ?_
        rw [List.getElem?_take, if_pos h1]; exact hi
      have := hsp.1 _ this
      rw [hk, decide_eq_true_eq] at this
      exact this
  have hwide := hT.wide
  clear hsp hT
  generalize posC 1 R [a] = p at *
  have hX := put_ok R (by omega) p hple [a]
  have hY := yield_ok 2 (insR R p [a]) 0
  refine fn_ok T Tryz.func38 (by kernel_rfl) rfl rfl rfl rfl fun C hC => ?_
  repeat' first
    | refine g_go T hC true 400 rfl rfl ?_
    | (exfalso; first | (simp only [decide_eq_true_eq, decide_eq_false_iff_not, List.length_map, Bool.not_eq_true', Bool.not_eq_false'] at *; omega) | (simp at h; done))
    | (exfalso; simp at h; done)
    | refine g_cond rfl (fun h => ?_) (fun h => ?_)
    | refine g_end T hC (by kernel_rfl) ?_
    | refine g_splitD (fun h => ?_) (fun h => ?_)
    | refine g_splitG rfl rfl rfl (fun h => ?_) (fun h => ?_)
    | refine g_splitP rfl rfl (fun h => ?_) (fun h => ?_)
  rw [hlm]
  refine g_loop (fun i : Nat => i ≤ p) (fun i => ([(2, .one (.bx 1002 0)), (3, .one (.bx 1003 0)), (4, .one (.bx 1004 0)), (5, .one (.bx 1005 0)), (6, I R.length), (7, I i)], [(1002, some (.box [.p (ki 2), .p (rowsP R)])), (1003, some (.box [.p (ki 1), .p (intsP [a])])), (1004, some (.box [.p (ki 0), .p (.k (.slice none 0 0))])), (1005, some (.box [.p (ki 0), .p (ki 0), .p (.k (.slice none 0 0))]))])) (fun i => p - i) hC
    0 (Nat.zero_le _) id ⟨rfl, ⟨rfl, rfl, rfl, rfl, rfl, rfl, trivial⟩, ⟨rfl, rfl, rfl, rfl, trivial⟩, rfl, fun _ _ => rfl⟩ ?_
  intro i hi
  clear h
  by_cases hip : i < p
  · obtain ⟨r, hr⟩ := exists_at (l := R) (i := i) (by omega)
    obtain ⟨x, rfl⟩ := len1 (hwide r (List.mem_of_getElem? hr))
    have c1 := (hbel i x hr).2 hip
    repeat' first
      | refine g_go T hC true 400 rfl rfl ?_
      | (exfalso; have h2 := of_decide_eq_false h; omega)
      | (exact absurd c1 (of_decide_eq_false h))
      | refine g_cond rfl (fun h => ?_) (fun h => ?_)
      | refine g_end T hC (by kernel_rfl) ?_
      | refine g_splitD (fun h => ?_) (fun h => ?_)
      | refine g_splitG rfl rfl rfl (fun h => ?_) (fun h => ?_)
      | refine g_splitP rfl rfl (fun h => ?_) (fun h => ?_)
      | refine g_idx T hC (rows := R.map rowR) rfl rfl rfl (Int.natCast_nonneg _) (map_at hr) rfl rfl ?_
      | refine g_idx T hC (rows := [x].map intR) rfl rfl rfl (by decide) rfl rfl rfl ?_
      | refine g_idx T hC (rows := [a].map intR) rfl rfl rfl (by decide) rfl rfl rfl ?_
    rw [wrapS (by omega)]
    exact g_round (i + 1) (by omega) id (by omega) ⟨rfl, ⟨rfl, rfl, rfl, rfl, rfl, rfl, trivial⟩, ⟨rfl, rfl, rfl, rfl, trivial⟩, rfl, fun _ _ => rfl⟩
  · have hpi : p = i := by omega
    subst hpi
    by_cases hn : p < R.length
    · obtain ⟨r, hr⟩ := exists_at (l := R) (i := p) (by omega)
      obtain ⟨x, rfl⟩ := len1 (hwide r (List.mem_of_getElem? hr))
      have c1 : ¬ x < a := fun e => hip ((hbel p x hr).1 e)
      repeat' first
        | refine g_go T hC true 400 rfl rfl ?_
        | (exfalso; have h2 := of_decide_eq_false h; omega)
        | (exact absurd (of_decide_eq_true h) c1)
        | refine g_cond rfl (fun h => ?_) (fun h => ?_)
        | refine g_end T hC (by kernel_rfl) ?_
        | refine g_splitD (fun h => ?_) (fun h => ?_)
        | refine g_splitG rfl rfl rfl (fun h => ?_) (fun h => ?_)
        | refine g_splitP rfl rfl (fun h => ?_) (fun h => ?_)
        | refine g_outE ?_
        | refine g_idx T hC (rows := R.map rowR) rfl rfl rfl (Int.natCast_nonneg _) (map_at hr) rfl rfl ?_
        | refine g_idx T hC (rows := [x].map intR) rfl rfl rfl (by decide) rfl rfl rfl ?_
        | refine g_idx T hC (rows := [a].map intR) rfl rfl rfl (by decide) rfl rfl rfl ?_
        | refine g_lit T hC rfl rfl rfl rfl rfl rfl rfl rfl rfl ?_
        | refine g_call hC (hX) rfl rfl (LeSs.refl _) rfl rfl rfl ?_
        | refine g_call hC (hY) rfl rfl (LeSs.refl _) rfl rfl rfl ?_
      all_goals exact g_fin ⟨.inl rfl, id, _, rfl, .refl _, trivial, rfl, rfl⟩
    · repeat' first
        | refine g_go T hC true 400 rfl rfl ?_
        | (exfalso; simp at h; done)
        | (exfalso; have h2 := of_decide_eq_true h; omega)
        | refine g_cond rfl (fun h => ?_) (fun h => ?_)
        | refine g_end T hC (by kernel_rfl) ?_
        | refine g_splitD (fun h => ?_) (fun h => ?_)
        | refine g_splitG rfl rfl rfl (fun h => ?_) (fun h => ?_)
        | refine g_splitP rfl rfl (fun h => ?_) (fun h => ?_)
        | refine g_outE ?_
        | refine g_idx T hC (rows := [a].map intR) rfl rfl rfl (by decide) rfl rfl rfl ?_
        | refine g_lit T hC rfl rfl rfl rfl rfl rfl rfl rfl rfl ?_
        | refine g_call hC (hX) rfl rfl (LeSs.refl _) rfl rfl rfl ?_
        | refine g_call hC (hY) rfl rfl (LeSs.refl _) rfl rfl rfl ?_
      all_goals exact g_fin ⟨.inl rfl, id, _, rfl, .refl _, trivial, rfl, rfl⟩
theorem rheap_ok (R : Rws) (o : OpT) (hv : validS 2 R = true) (ho : okOp 2 o = true) :
    FnOK Tryz.prog 38 [aggS (stR 2 R), aggS (opR o)] [] (.tup [aggS (stR 2 (heapS R o).1), aggS (rsR (heapS R o).2)]) [] := by
  obtain ⟨hR, hT⟩ := valid2 hv
  have hrow : ∀ (i : Nat), i < R.length → R[i]? = some (rowA R i) ∧ (rowA R i).length = 1 := fun i hi => ⟨rowA_lt hi, hT.wide _ (List.mem_of_getElem? (rowA_lt hi))⟩
  have hcell : ∀ (i : Nat), i < R.length → (rowA R i)[0]? = some (at0 (rowA R i) 0) := fun i hi => at0_lt (by rw [(hrow i hi).2]; omega)
  rcases op2 ho with ⟨a, rfl, ha⟩ | rfl | rfl | rfl
  · by_cases h5 : R.length = 500
    · have e : heapS R ⟨1, [a]⟩ = (R, erR 4) := by simp [heapS, h5]
      rw [e]; exact rheap1f R h5 a
    · have e : heapS R ⟨1, [a]⟩ = (insR R (posC 1 R [a]) [a], okR 0) := by simp [heapS, h5]
      rw [e]; exact rheap1 R (by omega) hT a
  · by_cases h0 : R.length = 0
    · have e : heapS R ⟨2, []⟩ = (R, erR 14) := by simp only [heapS]; rw [if_neg (by decide), if_neg (by decide)]; exact if_pos h0
      rw [e]; exact rheapE R h0 2 (.inl rfl)
    · have e : heapS R ⟨2, []⟩ = (R, okR (at0 (rowA R 0) 0)) := by simp only [heapS]; rw [if_neg (by decide), if_neg (by decide)]; exact if_neg h0
      rw [e]; exact rheap2 R hR _ _ (hrow 0 (by omega)).1 (hcell 0 (by omega))
  · by_cases h0 : R.length = 0
    · have e : heapS R ⟨3, []⟩ = (R, erR 14) := by simp only [heapS]; rw [if_neg (by decide), if_neg (by decide)]; exact if_pos h0
      rw [e]; exact rheapE R h0 3 (.inr rfl)
    · have e : heapS R ⟨3, []⟩ = (R.eraseIdx 0, okR (at0 (rowA R 0) 0)) := by simp only [heapS]; rw [if_neg (by decide), if_neg (by decide)]; exact if_neg h0
      rw [e]; exact rheap3 R hR _ _ (hrow 0 (by omega)).1 (hcell 0 (by omega))
  · exact rheap4 R hR
end Hw.Mz
namespace Hw.Mz
open Go Go.Proofs Go.Shelf Hw.M

/-! models: the reference's sequences -/
/-- The first j places from both ends of a part have changed places. -/
def swN (a b j p : Nat) : Nat := if (a ≤ p ∧ p < a + j) ∨ (b - j ≤ p ∧ p < b) then a + b - 1 - p else p
def swapL (R : Rws) (a b j : Nat) : Rws := (List.range R.length).map fun p => rowA R (swN a b j p)
theorem swapL_len (R : Rws) (a b j : Nat) : (swapL R a b j).length = R.length := by simp [swapL]
theorem swapL_at {R : Rws} {a b j p : Nat} (h : p < R.length) : (swapL R a b j)[p]? = some (rowA R (swN a b j p)) := by
  unfold swapL; rw [List.getElem?_map, List.getElem?_range h]; rfl
theorem swapL_zero (R : Rws) {a b : Nat} : swapL R a b 0 = R := by
  refine List.ext_getElem? fun p => ?_
  rcases Nat.lt_or_ge p R.length with h | h
  · rw [swapL_at h, rowA_lt (R := R) (i := p) h]
    congr 2
    unfold swN; rw [if_neg (by omega)]
  · rw [List.getElem?_eq_none (by rw [swapL_len]; exact h), List.getElem?_eq_none h]
theorem swapL_step {R : Rws} {a b j : Nat} (hb : b ≤ R.length) (hj : a + j < b - 1 - j) : ((swapL R a b j).set (a + j) (rowA R (b - 1 - j))).set (b - 1 - j) (rowA R (a + j)) = swapL R a b (j + 1) := by
  refine List.ext_getElem? fun p => ?_
  rw [List.getElem?_set, List.length_set, swapL_len, List.getElem?_set, swapL_len]
  rcases Nat.lt_or_ge p R.length with h | h
  · rw [swapL_at h, swapL_at h]
    by_cases e1 : b - 1 - j = p
    · rw [if_pos e1, if_pos (by omega)]
      congr 2
      unfold swN; rw [if_pos (by omega)]; omega
    · rw [if_neg e1]
      by_cases e2 : a + j = p
      · rw [if_pos e2, if_pos (by omega)]
        congr 2
        unfold swN; rw [if_pos (by omega)]; omega
      · rw [if_neg e2]
        congr 2
        unfold swN
        by_cases e3 : (a ≤ p ∧ p < a + j) ∨ (b - j ≤ p ∧ p < b)
        · rw [if_pos e3, if_pos (by omega)]
        · rw [if_neg e3, if_neg (by omega)]
  · rw [if_neg (by omega), if_neg (by omega), List.getElem?_eq_none (by rw [swapL_len]; exact h), List.getElem?_eq_none (by rw [swapL_len]; exact h)]
theorem swapL_end {R : Rws} {a b j : Nat} (hab : a ≤ b) (hb : b ≤ R.length) (hj : j = (b - a) / 2) : swapL R a b j = revR R a b := by
  have hl1 : (R.take a).length = a := by rw [List.length_take]; omega
  have hl2 : ((R.take b).drop a).reverse.length = b - a := by rw [List.length_reverse, List.length_drop, List.length_take]; omega
  refine List.ext_getElem? fun p => ?_
  unfold revR
  rcases Nat.lt_or_ge p R.length with h | h
  · rw [swapL_at h]
    rcases Nat.lt_or_ge p a with h1 | h1
    · rw [List.append_assoc, List.getElem?_append_left (by omega), List.getElem?_take, if_pos h1, rowA_lt h]
      congr 2
      unfold swN; rw [if_neg (by omega)]
    · rcases Nat.lt_or_ge p b with h2 | h2
      · rw [List.append_assoc, List.getElem?_append_right (by omega), hl1, List.getElem?_append_left (by omega), List.getElem?_reverse (by rw [List.length_reverse] at hl2; omega), List.getElem?_drop, List.getElem?_take]
        rw [List.length_reverse] at hl2
        rw [if_pos (by omega), rowA_lt (R := R) (i := a + (((R.take b).drop a).length - 1 - (p - a))) (by omega)]
        congr 2
        unfold swN
        by_cases e3 : (a ≤ p ∧ p < a + j) ∨ (b - j ≤ p ∧ p < b)
        · rw [if_pos e3]; omega
        · rw [if_neg e3]; omega
      · rw [List.getElem?_append_right (by rw [List.length_append]; omega), List.length_append, hl1, hl2, List.getElem?_drop, show b + (p - (a + (b - a))) = p by omega, rowA_lt h]
        congr 2
        unfold swN; rw [if_neg (by omega)]
  · rw [List.getElem?_eq_none (by rw [swapL_len]; exact h), List.getElem?_eq_none (by rw [List.length_append, List.length_append, hl1, hl2, List.length_drop]; omega)]

theorem rseq7 (R : Rws) (hR : R.length ≤ 500)  : FnOK Tryz.prog 39 [aggS (stR 3 R), aggS [ki 7, intsP []]] [] (.tup [aggS (stR 3 R), aggS (rsR (okR R.length))]) [] := by
  have hlm : (R.map rowR).length = R.length := List.length_map _
  have hY := yield_ok 3 R R.length
  refine fn_ok T Tryz.func39 (by kernel_rfl) rfl rfl rfl rfl fun C hC => ?_
  repeat' first
    | refine g_go T hC true 400 rfl rfl ?_
    | (exfalso; first | (simp only [decide_eq_true_eq, decide_eq_false_iff_not, List.length_map, Bool.not_eq_true', Bool.not_eq_false'] at *; omega) | (simp at h; done))
    | (exfalso; simp at h; done)
    | refine g_cond rfl (fun h => ?_) (fun h => ?_)
    | refine g_end T hC (by kernel_rfl) ?_
    | refine g_splitD (fun h => ?_) (fun h => ?_)
    | refine g_splitG rfl rfl rfl (fun h => ?_) (fun h => ?_)
    | refine g_splitP rfl rfl (fun h => ?_) (fun h => ?_)
    | (rw [hlm]; refine g_call hC hY rfl rfl (LeSs.refl _) rfl rfl rfl ?_)
  all_goals exact g_fin ⟨.inl rfl, id, _, rfl, .refl _, trivial, rfl, rfl⟩

theorem rseq1e (R : Rws) (hR : R.length ≤ 500) (a b : Int) (h0 : a < 0 ∨ (R.length : Int) < a) : FnOK Tryz.prog 39 [aggS (stR 3 R), aggS [ki 1, intsP [a, b]]] [] (.tup [aggS (stR 3 R), aggS (rsR (erR 2))]) [] := by
  have hlm : (R.map rowR).length = R.length := List.length_map _
  have hY := fail_ok 3 R 2
  refine fn_ok T Tryz.func39 (by kernel_rfl) rfl rfl rfl rfl fun C hC => ?_
  repeat' first
    | refine g_go T hC true 400 rfl rfl ?_
    | (exfalso; first | (simp only [decide_eq_true_eq, decide_eq_false_iff_not, List.length_map, Bool.not_eq_true', Bool.not_eq_false'] at *; omega) | (simp at h; done))
    | (exfalso; simp at h; done)
    | refine g_cond rfl (fun h => ?_) (fun h => ?_)
    | refine g_end T hC (by kernel_rfl) ?_
    | refine g_splitD (fun h => ?_) (fun h => ?_)
    | refine g_splitG rfl rfl rfl (fun h => ?_) (fun h => ?_)
    | refine g_splitP rfl rfl (fun h => ?_) (fun h => ?_)
    | refine g_idx T hC (rows := [a, b].map intR) rfl rfl rfl (by decide) rfl rfl rfl ?_
    | refine g_call hC (hY) rfl rfl (LeSs.refl _) rfl rfl rfl ?_
  all_goals exact g_fin ⟨.inl rfl, id, _, rfl, .refl _, trivial, rfl, rfl⟩

theorem rseq1f (R : Rws) (hR : R.length ≤ 500) (a b : Int) (h0 : 0 ≤ a ∧ a ≤ R.length) (h5 : R.length = 500) : FnOK Tryz.prog 39 [aggS (stR 3 R), aggS [ki 1, intsP [a, b]]] [] (.tup [aggS (stR 3 R), aggS (rsR (erR 4))]) [] := by
  have hlm : (R.map rowR).length = R.length := List.length_map _
  have hY := fail_ok 3 R 4
  refine fn_ok T Tryz.func39 (by kernel_rfl) rfl rfl rfl rfl fun C hC => ?_
  repeat' first
    | refine g_go T hC true 400 rfl rfl ?_
    | (exfalso; first | (simp only [decide_eq_true_eq, decide_eq_false_iff_not, List.length_map, Bool.not_eq_true', Bool.not_eq_false'] at *; omega) | (simp at h; done))
    | (exfalso; simp at h; done)
    | refine g_cond rfl (fun h => ?_) (fun h => ?_)
    | refine g_end T hC (by kernel_rfl) ?_
    | refine g_splitD (fun h => ?_) (fun h => ?_)
    | refine g_splitG rfl rfl rfl (fun h => ?_) (fun h => ?_)
    | refine g_splitP rfl rfl (fun h => ?_) (fun h => ?_)
    | refine g_idx T hC (rows := [a, b].map intR) rfl rfl rfl (by decide) rfl rfl rfl ?_
    | refine g_call hC (hY) rfl rfl (LeSs.refl _) rfl rfl rfl ?_
  all_goals exact g_fin ⟨.inl rfl, id, _, rfl, .refl _, trivial, rfl, rfl⟩

theorem rseq1 (R : Rws) (hR : R.length ≤ 500) (a : Nat) (b : Int) (h0 : a ≤ R.length) (h5 : R.length < 500) : FnOK Tryz.prog 39 [aggS (stR 3 R), aggS [ki 1, intsP [(a : Int), b]]] [] (.tup [aggS (stR 3 (insR R a [b])), aggS (rsR (okR 0))]) [] := by
  have hlm : (R.map rowR).length = R.length := List.length_map _
  have hY := yield_ok 3 (insR R a [b]) 0
  have hX := put_ok R (by omega) a h0 [b]
  refine fn_ok T Tryz.func39 (by kernel_rfl) rfl rfl rfl rfl fun C hC => ?_
  repeat' first
    | refine g_go T hC true 400 rfl rfl ?_
    | (exfalso; first | (simp only [decide_eq_true_eq, decide_eq_false_iff_not, List.length_map, Bool.not_eq_true', Bool.not_eq_false'] at *; omega) | (simp at h; done))
    | (exfalso; simp at h; done)
    | refine g_cond rfl (fun h => ?_) (fun h => ?_)
    | refine g_end T hC (by kernel_rfl) ?_
    | refine g_splitD (fun h => ?_) (fun h => ?_)
    | refine g_splitG rfl rfl rfl (fun h => ?_) (fun h => ?_)
    | refine g_splitP rfl rfl (fun h => ?_) (fun h => ?_)
    | refine g_idx T hC (rows := [(a : Int), b].map intR) rfl rfl rfl (by decide) rfl rfl rfl ?_
    | refine g_lit T hC rfl rfl rfl rfl rfl rfl rfl rfl rfl ?_
    | refine g_call hC (hX) rfl rfl (LeSs.refl _) rfl rfl rfl ?_
    | refine g_call hC (hY) rfl rfl (LeSs.refl _) rfl rfl rfl ?_
  all_goals exact g_fin ⟨.inl rfl, id, _, rfl, .refl _, trivial, rfl, rfl⟩

theorem rseq5e (R : Rws) (hR : R.length ≤ 500) (a b : Int) (h0 : a < 0 ∨ b < a ∨ (R.length : Int) < b) : FnOK Tryz.prog 39 [aggS (stR 3 R), aggS [ki 5, intsP [a, b]]] [] (.tup [aggS (stR 3 R), aggS (rsR (erR 2))]) [] := by
  have hlm : (R.map rowR).length = R.length := List.length_map _
  have hY := fail_ok 3 R 2
  refine fn_ok T Tryz.func39 (by kernel_rfl) rfl rfl rfl rfl fun C hC => ?_
  repeat' first
    | refine g_go T hC true 400 rfl rfl ?_
    | (exfalso; first | (simp only [decide_eq_true_eq, decide_eq_false_iff_not, List.length_map, Bool.not_eq_true', Bool.not_eq_false'] at *; omega) | (simp at h; done))
    | (exfalso; simp at h; done)
    | refine g_cond rfl (fun h => ?_) (fun h => ?_)
    | refine g_end T hC (by kernel_rfl) ?_
    | refine g_splitD (fun h => ?_) (fun h => ?_)
    | refine g_splitG rfl rfl rfl (fun h => ?_) (fun h => ?_)
    | refine g_splitP rfl rfl (fun h => ?_) (fun h => ?_)
    | refine g_idx T hC (rows := [a, b].map intR) rfl rfl rfl (by decide) rfl rfl rfl ?_
    | refine g_call hC (hY) rfl rfl (LeSs.refl _) rfl rfl rfl ?_
  all_goals exact g_fin ⟨.inl rfl, id, _, rfl, .refl _, trivial, rfl, rfl⟩

theorem rseq6e (R : Rws) (hR : R.length ≤ 500) (a b : Int) (h0 : a < 0 ∨ b < a ∨ (R.length : Int) < b) : FnOK Tryz.prog 39 [aggS (stR 3 R), aggS [ki 6, intsP [a, b]]] [] (.tup [aggS (stR 3 R), aggS (rsR (erR 2))]) [] := by
  have hlm : (R.map rowR).length = R.length := List.length_map _
  have hY := fail_ok 3 R 2
  refine fn_ok T Tryz.func39 (by kernel_rfl) rfl rfl rfl rfl fun C hC => ?_
  repeat' first
    | refine g_go T hC true 400 rfl rfl ?_
    | (exfalso; first | (simp only [decide_eq_true_eq, decide_eq_false_iff_not, List.length_map, Bool.not_eq_true', Bool.not_eq_false'] at *; omega) | (simp at h; done))
    | (exfalso; simp at h; done)
    | refine g_cond rfl (fun h => ?_) (fun h => ?_)
    | refine g_end T hC (by kernel_rfl) ?_
    | refine g_splitD (fun h => ?_) (fun h => ?_)
    | refine g_splitG rfl rfl rfl (fun h => ?_) (fun h => ?_)
    | refine g_splitP rfl rfl (fun h => ?_) (fun h => ?_)
    | refine g_idx T hC (rows := [a, b].map intR) rfl rfl rfl (by decide) rfl rfl rfl ?_
    | refine g_call hC (hY) rfl rfl (LeSs.refl _) rfl rfl rfl ?_
  all_goals exact g_fin ⟨.inl rfl, id, _, rfl, .refl _, trivial, rfl, rfl⟩

theorem rseq2e (R : Rws) (hR : R.length ≤ 500) (a : Int) (h0 : a < 0 ∨ (R.length : Int) ≤ a) : FnOK Tryz.prog 39 [aggS (stR 3 R), aggS [ki 2, intsP [a]]] [] (.tup [aggS (stR 3 R), aggS (rsR (erR 2))]) [] := by
  have hlm : (R.map rowR).length = R.length := List.length_map _
  have hY := fail_ok 3 R 2
  refine fn_ok T Tryz.func39 (by kernel_rfl) rfl rfl rfl rfl fun C hC => ?_
  repeat' first
    | refine g_go T hC true 400 rfl rfl ?_
    | (exfalso; first | (simp only [decide_eq_true_eq, decide_eq_false_iff_not, List.length_map, Bool.not_eq_true', Bool.not_eq_false'] at *; omega) | (simp at h; done))
    | (exfalso; simp at h; done)
    | refine g_cond rfl (fun h => ?_) (fun h => ?_)
    | refine g_end T hC (by kernel_rfl) ?_
    | refine g_splitD (fun h => ?_) (fun h => ?_)
    | refine g_splitG rfl rfl rfl (fun h => ?_) (fun h => ?_)
    | refine g_splitP rfl rfl (fun h => ?_) (fun h => ?_)
    | refine g_idx T hC (rows := [a].map intR) rfl rfl rfl (by decide) rfl rfl rfl ?_
    | refine g_call hC (hY) rfl rfl (LeSs.refl _) rfl rfl rfl ?_
  all_goals exact g_fin ⟨.inl rfl, id, _, rfl, .refl _, trivial, rfl, rfl⟩

theorem rseq3e (R : Rws) (hR : R.length ≤ 500) (a : Int) (h0 : a < 0 ∨ (R.length : Int) ≤ a) : FnOK Tryz.prog 39 [aggS (stR 3 R), aggS [ki 3, intsP [a]]] [] (.tup [aggS (stR 3 R), aggS (rsR (erR 2))]) [] := by
  have hlm : (R.map rowR).length = R.length := List.length_map _
  have hY := fail_ok 3 R 2
  refine fn_ok T Tryz.func39 (by kernel_rfl) rfl rfl rfl rfl fun C hC => ?_
  repeat' first
    | refine g_go T hC true 400 rfl rfl ?_
    | (exfalso; first | (simp only [decide_eq_true_eq, decide_eq_false_iff_not, List.length_map, Bool.not_eq_true', Bool.not_eq_false'] at *; omega) | (simp at h; done))
    | (exfalso; simp at h; done)
    | refine g_cond rfl (fun h => ?_) (fun h => ?_)
    | refine g_end T hC (by kernel_rfl) ?_
    | refine g_splitD (fun h => ?_) (fun h => ?_)
    | refine g_splitG rfl rfl rfl (fun h => ?_) (fun h => ?_)
    | refine g_splitP rfl rfl (fun h => ?_) (fun h => ?_)
    | refine g_idx T hC (rows := [a].map intR) rfl rfl rfl (by decide) rfl rfl rfl ?_
    | refine g_call hC (hY) rfl rfl (LeSs.refl _) rfl rfl rfl ?_
  all_goals exact g_fin ⟨.inl rfl, id, _, rfl, .refl _, trivial, rfl, rfl⟩

theorem rseq4e (R : Rws) (hR : R.length ≤ 500) (a b : Int) (h0 : a < 0 ∨ (R.length : Int) ≤ a) : FnOK Tryz.prog 39 [aggS (stR 3 R), aggS [ki 4, intsP [a, b]]] [] (.tup [aggS (stR 3 R), aggS (rsR (erR 2))]) [] := by
  have hlm : (R.map rowR).length = R.length := List.length_map _
  have hY := fail_ok 3 R 2
  refine fn_ok T Tryz.func39 (by kernel_rfl) rfl rfl rfl rfl fun C hC => ?_
  repeat' first
    | refine g_go T hC true 400 rfl rfl ?_
    | (exfalso; first | (simp only [decide_eq_true_eq, decide_eq_false_iff_not, List.length_map, Bool.not_eq_true', Bool.not_eq_false'] at *; omega) | (simp at h; done))
    | (exfalso; simp at h; done)
    | refine g_cond rfl (fun h => ?_) (fun h => ?_)
    | refine g_end T hC (by kernel_rfl) ?_
    | refine g_splitD (fun h => ?_) (fun h => ?_)
    | refine g_splitG rfl rfl rfl (fun h => ?_) (fun h => ?_)
    | refine g_splitP rfl rfl (fun h => ?_) (fun h => ?_)
    | refine g_idx T hC (rows := [a, b].map intR) rfl rfl rfl (by decide) rfl rfl rfl ?_
    | refine g_call hC (hY) rfl rfl (LeSs.refl _) rfl rfl rfl ?_
  all_goals exact g_fin ⟨.inl rfl, id, _, rfl, .refl _, trivial, rfl, rfl⟩

theorem rseq3 (R : Rws) (hR : R.length ≤ 500) (a : Nat) (r : Rw) (v : Int) (hq : R[a]? = some r) (hv : r[0]? = some v) : FnOK Tryz.prog 39 [aggS (stR 3 R), aggS [ki 3, intsP [(a : Int)]]] [] (.tup [aggS (stR 3 R), aggS (rsR (okR v))]) [] := by
  have hlm : (R.map rowR).length = R.length := List.length_map _
  have hal := (List.getElem?_eq_some_iff.1 hq).1
  have hq' : (R.map rowR)[(a : Int).toNat]? = some (rowR r) := by rw [Int.toNat_natCast]; exact map_at hq
  have hY := yield_ok 3 R v
  refine fn_ok T Tryz.func39 (by kernel_rfl) rfl rfl rfl rfl fun C hC => ?_
  repeat' first
    | refine g_go T hC true 400 rfl rfl ?_
    | (exfalso; first | (simp only [decide_eq_true_eq, decide_eq_false_iff_not, List.length_map, Bool.not_eq_true', Bool.not_eq_false'] at *; omega) | (simp at h; done))
    | (exfalso; simp at h; done)
    | refine g_cond rfl (fun h => ?_) (fun h => ?_)
    | refine g_end T hC (by kernel_rfl) ?_
    | refine g_splitD (fun h => ?_) (fun h => ?_)
    | refine g_splitG rfl rfl rfl (fun h => ?_) (fun h => ?_)
    | refine g_splitP rfl rfl (fun h => ?_) (fun h => ?_)
    | refine g_idx T hC (rows := [(a : Int)].map intR) rfl rfl rfl (by decide) rfl rfl rfl ?_
    | refine g_idx T hC (rows := R.map rowR) rfl rfl rfl (by omega) hq' rfl rfl ?_
    | refine g_idx T hC (rows := r.map intR) rfl rfl rfl (by decide) (map_atI hv) rfl rfl ?_
    | refine g_call hC (hY) rfl rfl (LeSs.refl _) rfl rfl rfl ?_
  all_goals exact g_fin ⟨.inl rfl, id, _, rfl, .refl _, trivial, rfl, rfl⟩

theorem rseq2 (R : Rws) (hR : R.length ≤ 500) (a : Nat) (r : Rw) (v : Int) (hq : R[a]? = some r) (hv : r[0]? = some v) : FnOK Tryz.prog 39 [aggS (stR 3 R), aggS [ki 2, intsP [(a : Int)]]] [] (.tup [aggS (stR 3 (R.eraseIdx a)), aggS (rsR (okR v))]) [] := by
  have hlm : (R.map rowR).length = R.length := List.length_map _
  have hal := (List.getElem?_eq_some_iff.1 hq).1
  have hq' : (R.map rowR)[(a : Int).toNat]? = some (rowR r) := by rw [Int.toNat_natCast]; exact map_at hq
  have hY := yield_ok 3 (R.eraseIdx a) v
  have hX := cut_ok R (by omega) a hal
  refine fn_ok T Tryz.func39 (by kernel_rfl) rfl rfl rfl rfl fun C hC => ?_
  repeat' first
    | refine g_go T hC true 400 rfl rfl ?_
    | (exfalso; first | (simp only [decide_eq_true_eq, decide_eq_false_iff_not, List.length_map, Bool.not_eq_true', Bool.not_eq_false'] at *; omega) | (simp at h; done))
    | (exfalso; simp at h; done)
    | refine g_cond rfl (fun h => ?_) (fun h => ?_)
    | refine g_end T hC (by kernel_rfl) ?_
    | refine g_splitD (fun h => ?_) (fun h => ?_)
    | refine g_splitG rfl rfl rfl (fun h => ?_) (fun h => ?_)
    | refine g_splitP rfl rfl (fun h => ?_) (fun h => ?_)
    | refine g_idx T hC (rows := [(a : Int)].map intR) rfl rfl rfl (by decide) rfl rfl rfl ?_
    | refine g_idx T hC (rows := R.map rowR) rfl rfl rfl (by omega) hq' rfl rfl ?_
    | refine g_idx T hC (rows := r.map intR) rfl rfl rfl (by decide) (map_atI hv) rfl rfl ?_
    | refine g_call hC (hX) rfl rfl (LeSs.refl _) rfl rfl rfl ?_
    | refine g_call hC (hY) rfl rfl (LeSs.refl _) rfl rfl rfl ?_
  all_goals exact g_fin ⟨.inl rfl, id, _, rfl, .refl _, trivial, rfl, rfl⟩

theorem rseq4 (R : Rws) (hR : R.length ≤ 500) (a : Nat) (r : Rw) (v : Int) (hq : R[a]? = some r) (hv : r[0]? = some v) (b : Int) (hrl : r.length = 1) : FnOK Tryz.prog 39 [.agg [.p (ki 3), .ar 0], aggS [ki 4, intsP [(a : Int), b]]] [(0, vg 1 R.length), (1, bg R)] (.tup [aggS (stR 3 (R.set a (r.set 0 b))), aggS (rsR (okR v))]) [] := by
  have hal := (List.getElem?_eq_some_iff.1 hq).1
  have hY := yield_ok 3 (R.set a (r.set 0 b)) v
  have hsl : (R.set a (r.set 0 b)).length = R.length := List.length_set
  refine fn_ok T Tryz.func39 (by kernel_rfl) rfl rfl rfl rfl fun C hC => ?_
  repeat' first
    | refine g_go T hC true 400 rfl rfl ?_
    | (exfalso; first | (simp only [decide_eq_true_eq, decide_eq_false_iff_not, List.length_map, Bool.not_eq_true', Bool.not_eq_false'] at *; omega) | (simp at h; done))
    | (exfalso; simp at h; done)
    | refine g_cond rfl (fun h => ?_) (fun h => ?_)
    | refine g_end T hC (by kernel_rfl) ?_
    | refine g_splitD (fun h => ?_) (fun h => ?_)
    | refine g_splitG rfl rfl rfl (fun h => ?_) (fun h => ?_)
    | refine g_splitP rfl rfl (fun h => ?_) (fun h => ?_)
    | refine g_lenG T hC rfl rfl rfl rfl rfl rfl ?_
    | refine g_idx T hC (rows := [(a : Int), b].map intR) rfl rfl rfl (by decide) rfl rfl rfl ?_
    | (refine g_idxR T hC a rfl rfl rfl rfl rfl (by omega) rfl rfl ?_; refine g_loadR T hC rfl rfl rfl (by omega) rfl rfl ?_)
    | (refine g_idxC T hC 0 hq (by omega) rfl rfl rfl rfl rfl rfl ?_)
    | (refine g_loadC T hC hq hv rfl rfl rfl rfl rfl ?_)
    | (refine g_storeC T hC hq (by omega) rfl rfl rfl rfl rfl ?_)
    | (rw [← hsl]; refine g_freezeN rfl [(0, vg 1 (R.set a (r.set 0 b)).length), (1, bg (R.set a (r.set 0 b)))] rfl [(188, aggS (stR 3 (R.set a (r.set 0 b))))] ⟨⟨_, rfl, LnS.agg (.cons (.refl _) (.cons (lend2 0 1 _) .nil))⟩, trivial⟩ [] trivial ?_; refine g_call hC hY rfl rfl (LeSs.refl _) rfl rfl rfl ?_)
  exact g_fin ⟨.inl rfl, id, _, rfl, .refl _, trivial, rfl, rfl⟩

theorem rseq5 (R : Rws) (hR : R.length ≤ 500) (a m : Nat) (ham : a + m ≤ R.length) (hn : ∀ r ∈ R, 0 < r.length ∧ -1048576 ≤ at0 r 0 ∧ at0 r 0 ≤ 1048576) : FnOK Tryz.prog 39 [aggS (stR 3 R), aggS [ki 5, intsP [(a : Int), ((a + m : Nat) : Int)]]] [] (.tup [aggS (stR 3 R), aggS (rsR (okR (sum0 ((R.take (a + m)).drop a))))]) [] := by
  have hlm : (R.map rowR).length = R.length := List.length_map _
  have hLl : ((R.take (a + m)).drop a).length = m := by rw [List.length_drop, List.length_take]; omega
  have hLa : ∀ i, i < m → ((R.take (a + m)).drop a)[i]? = R[a + i]? := fun i hi => by rw [List.getElem?_drop, List.getElem?_take, if_pos (by omega)]
  have hLb : ∀ r ∈ (R.take (a + m)).drop a, -1048576 ≤ at0 r 0 ∧ at0 r 0 ≤ 1048576 := fun r hr => (hn r (List.mem_of_mem_take (List.mem_of_mem_drop hr))).2
  generalize (R.take (a + m)).drop a = L at hLl hLa hLb
  have hY := yield_ok 3 R (sum0 L)
  refine fn_ok T Tryz.func39 (by kernel_rfl) rfl rfl rfl rfl fun C hC => ?_
  repeat' first
    | refine g_go T hC true 400 rfl rfl ?_
    | (exfalso; first | (simp only [decide_eq_true_eq, decide_eq_false_iff_not, List.length_map, Bool.not_eq_true', Bool.not_eq_false'] at *; omega) | (simp at h; done))
    | (exfalso; simp at h; done)
    | refine g_cond rfl (fun h => ?_) (fun h => ?_)
    | refine g_end T hC (by kernel_rfl) ?_
    | refine g_splitD (fun h => ?_) (fun h => ?_)
    | refine g_splitG rfl rfl rfl (fun h => ?_) (fun h => ?_)
    | refine g_splitP rfl rfl (fun h => ?_) (fun h => ?_)
    | refine g_idx T hC (rows := [(a : Int), ((a + m : Nat) : Int)].map intR) rfl rfl rfl (by decide) rfl rfl rfl ?_
  try rw [hlm]
  refine g_loop (fun i : Nat => i ≤ m) (fun i => ([(2, .one (.bx 1002 0)), (3, .one (.bx 1003 0)), (4, .one (.bx 1004 0)), (5, .one (.bx 1005 0)), (6, I R.length), (7, I a), (8, I ((a + m : Nat) : Int)), (9, I (sum0 (L.take i))), (10, I ((a + i : Nat) : Int))], [(1002, some (.box [.p (ki 3), .p (rowsP R)])), (1003, some (.box [.p (ki 5), .p (intsP [(a : Int), ((a + m : Nat) : Int)])])), (1004, some (.box [.p (ki 0), .p (.k (.slice none 0 0))])), (1005, some (.box [.p (ki 0), .p (ki 0), .p (.k (.slice none 0 0))]))])) (fun i => m - i) hC
    0 (Nat.zero_le _) id ⟨rfl, ⟨rfl, rfl, rfl, rfl, rfl, rfl, rfl, rfl, rfl, trivial⟩, ⟨rfl, rfl, rfl, rfl, trivial⟩, rfl, fun _ _ => rfl⟩ ?_
  intro i hi
  refine g_run' T hC true 200 rfl ?_
  refine g_cond rfl (fun h => ?_) (fun h => ?_)
  · have hlt : i < m := by have := of_decide_eq_true h; omega
    clear h
    have hail : a + i < R.length := by omega
    obtain ⟨r, hq⟩ := exists_at hail
    obtain ⟨h0, h1, h2⟩ := hn r (List.mem_of_getElem? hq)
    have hv : r[0]? = some (at0 r 0) := at0_lt h0
    have hb := sum0_bound (l := L.take i) (n := 500) (by rw [List.length_take]; omega) fun x hx => hLb x (List.mem_of_mem_take hx)
    have hsn := take_snoc (l := L) (i := i) (x := r) (by rw [hLa i hlt]; exact hq)
    repeat' first
      | refine g_go T hC true 400 rfl rfl ?_
      | refine g_cond rfl (fun h => ?_) (fun h => ?_)
      | refine g_end T hC (by kernel_rfl) ?_
      | refine g_splitD (fun h => ?_) (fun h => ?_)
      | refine g_splitG rfl rfl rfl (fun h => ?_) (fun h => ?_)
      | refine g_splitP rfl rfl (fun h => ?_) (fun h => ?_)
      | refine g_idx T hC (rows := R.map rowR) rfl rfl rfl (Int.natCast_nonneg _) (map_at hq) rfl rfl ?_
      | refine g_idx T hC (rows := r.map intR) rfl rfl rfl (by decide) (map_atI hv) rfl rfl ?_
    rw [wrapS (by omega), wrap64 (n := sum0 (L.take i) + at0 r 0) (by omega), ← sum0_snoc, ← hsn]
    exact g_round (i + 1) (by omega) id (by omega) ⟨rfl, ⟨rfl, rfl, rfl, rfl, rfl, rfl, rfl, rfl, rfl, trivial⟩, ⟨rfl, rfl, rfl, rfl, trivial⟩, rfl, fun _ _ => rfl⟩
  have hge : m = i := by have := of_decide_eq_false h; omega
  have e : L.take i = L := List.take_of_length_le (by omega)
  rw [e]
  clear h
  repeat' first
    | refine g_go T hC true 400 rfl rfl ?_
    | (exfalso; simp at h; done)
    | refine g_cond rfl (fun h => ?_) (fun h => ?_)
    | refine g_end T hC (by kernel_rfl) ?_
    | refine g_splitD (fun h => ?_) (fun h => ?_)
    | refine g_splitG rfl rfl rfl (fun h => ?_) (fun h => ?_)
    | refine g_splitP rfl rfl (fun h => ?_) (fun h => ?_)
    | refine g_outE ?_
    | refine g_call hC (hY) rfl rfl (LeSs.refl _) rfl rfl rfl ?_
  all_goals exact g_fin ⟨.inl rfl, id, _, rfl, .refl _, trivial, rfl, rfl⟩

set_option maxHeartbeats 400000 in
theorem rseq6 (R : Rws) (hR : R.length ≤ 500) (a m : Nat) (ham : a + m ≤ R.length) (hn : ∀ r ∈ R, 0 < r.length ∧ -1048576 ≤ at0 r 0 ∧ at0 r 0 ≤ 1048576) : FnOK Tryz.prog 39 [.agg [.p (ki 3), .ar 0], aggS [ki 6, intsP [(a : Int), ((a + m : Nat) : Int)]]] [(0, .arr 1 (R.map rowR))] (.tup [aggS (stR 3 (revR R a (a + m))), aggS (rsR (okR 0))]) [] := by
  have hlm : (R.map rowR).length = R.length := List.length_map _
  have hLl : ((R.take (a + m)).drop a).length = m := by rw [List.length_drop, List.length_take]; omega
  have hLa : ∀ i, i < m → ((R.take (a + m)).drop a)[i]? = R[a + i]? := fun i hi => by rw [List.getElem?_drop, List.getElem?_take, if_pos (by omega)]
  have hLb : ∀ r ∈ (R.take (a + m)).drop a, -1048576 ≤ at0 r 0 ∧ at0 r 0 ≤ 1048576 := fun r hr => (hn r (List.mem_of_mem_take (List.mem_of_mem_drop hr))).2
  generalize (R.take (a + m)).drop a = L at hLl hLa hLb
  have hY := yield_ok 3 (revR R a (a + m)) 0
  refine fn_ok T Tryz.func39 (by kernel_rfl) rfl rfl rfl rfl fun C hC => ?_
  repeat' first
    | refine g_go T hC true 400 rfl rfl ?_
    | (exfalso; first | (simp only [decide_eq_true_eq, decide_eq_false_iff_not, List.length_map, Bool.not_eq_true', Bool.not_eq_false'] at *; omega) | (simp at h; done))
    | (exfalso; simp at h; done)
    | refine g_cond rfl (fun h => ?_) (fun h => ?_)
    | refine g_end T hC (by kernel_rfl) ?_
    | refine g_splitD (fun h => ?_) (fun h => ?_)
    | refine g_splitG rfl rfl rfl (fun h => ?_) (fun h => ?_)
    | refine g_splitP rfl rfl (fun h => ?_) (fun h => ?_)
    | refine g_idx T hC (rows := [(a : Int), ((a + m : Nat) : Int)].map intR) rfl rfl rfl (by decide) rfl rfl rfl ?_
  try rw [hlm]
  refine g_loop (fun i : Nat => i ≤ m) (fun i => ([(2, .one (.bx 1002 0)), (3, .one (.bx 1003 0)), (4, .one (.bx 1004 0)), (5, .one (.bx 1005 0)), (6, I R.length), (7, I a), (8, I ((a + m : Nat) : Int)), (9, I (sum0 (L.take i))), (10, I ((a + i : Nat) : Int))], [(0, some (.arr 1 (R.map rowR))), (1002, some (.box [.p (ki 3), .ar 0])), (1003, some (.box [.p (ki 6), .p (intsP [(a : Int), ((a + m : Nat) : Int)])])), (1004, some (.box [.p (ki 0), .p (.k (.slice none 0 0))])), (1005, some (.box [.p (ki 0), .p (ki 0), .p (.k (.slice none 0 0))]))])) (fun i => m - i) hC
    0 (Nat.zero_le _) id ⟨rfl, ⟨rfl, rfl, rfl, rfl, rfl, rfl, rfl, rfl, rfl, trivial⟩, ⟨rfl, rfl, rfl, rfl, rfl, trivial⟩, rfl, fun _ _ => rfl⟩ ?_
  intro i hi
  refine g_run' T hC true 200 rfl ?_
  refine g_cond rfl (fun h => ?_) (fun h => ?_)
  · have hlt : i < m := by have := of_decide_eq_true h; omega
    clear h
    have hail : a + i < R.length := by omega
    obtain ⟨r, hq⟩ := exists_at hail
    obtain ⟨h0, h1, h2⟩ := hn r (List.mem_of_getElem? hq)
    have hv : r[0]? = some (at0 r 0) := at0_lt h0
    have hb := sum0_bound (l := L.take i) (n := 500) (by rw [List.length_take]; omega) fun x hx => hLb x (List.mem_of_mem_take hx)
    have hsn := take_snoc (l := L) (i := i) (x := r) (by rw [hLa i hlt]; exact hq)
    repeat' first
      | refine g_go T hC true 400 rfl rfl ?_
      | refine g_cond rfl (fun h => ?_) (fun h => ?_)
      | refine g_end T hC (by kernel_rfl) ?_
      | refine g_splitD (fun h => ?_) (fun h => ?_)
      | refine g_splitG rfl rfl rfl (fun h => ?_) (fun h => ?_)
      | refine g_splitP rfl rfl (fun h => ?_) (fun h => ?_)
      | refine g_idxA T hC (rows := R.map rowR) rfl rfl rfl rfl (Int.natCast_nonneg _) (by rw [hlm]; omega) rfl rfl ?_
      | refine g_loadE T hC (a + i) 0 (rows := R.map rowR) (row := rowR r) rfl rfl rfl (by rw [Int.toNat_natCast]; rfl) (map_at hq) rfl rfl rfl ?_
      | refine g_idx T hC (rows := r.map intR) rfl rfl rfl (by decide) (map_atI hv) rfl rfl ?_
    rw [wrapS (by omega), wrap64 (n := sum0 (L.take i) + at0 r 0) (by omega), ← sum0_snoc, ← hsn]
    exact g_round (i + 1) (by omega) id (by omega) ⟨rfl, ⟨rfl, rfl, rfl, rfl, rfl, rfl, rfl, rfl, rfl, trivial⟩, ⟨rfl, rfl, rfl, rfl, rfl, trivial⟩, rfl, fun _ _ => rfl⟩
  have hge : m = i := by have := of_decide_eq_false h; omega
  have e : L.take i = L := List.take_of_length_le (by omega)
  rw [e]
  clear h
  repeat' first
    | refine g_go T hC true 400 rfl rfl ?_
    | (exfalso; simp at h; done)
    | refine g_cond rfl (fun h => ?_) (fun h => ?_)
    | refine g_end T hC (by kernel_rfl) ?_
    | refine g_splitD (fun h => ?_) (fun h => ?_)
    | refine g_splitG rfl rfl rfl (fun h => ?_) (fun h => ?_)
    | refine g_splitP rfl rfl (fun h => ?_) (fun h => ?_)
    | refine g_outE ?_
  refine g_loop (fun j : Nat => j ≤ m / 2) (fun j => ([(2, .one (.bx 1002 0)), (3, .one (.bx 1003 0)), (4, .one (.bx 1004 0)), (5, .one (.bx 1005 0)), (6, I R.length), (7, I a), (8, I ((a + m : Nat) : Int)), (11, I j)], [(0, some (.arr 1 ((swapL R a (a + m) j).map rowR))), (1002, some (.box [.p (ki 3), .ar 0])), (1003, some (.box [.p (ki 6), .p (intsP [(a : Int), ((a + m : Nat) : Int)])])), (1004, some (.box [.p (ki 0), .p (.k (.slice none 0 0))])), (1005, some (.box [.p (ki 0), .p (ki 0), .p (.k (.slice none 0 0))]))])) (fun j => m / 2 - j) hC
    0 (Nat.zero_le _) id ⟨rfl, ⟨rfl, rfl, rfl, rfl, rfl, rfl, rfl, rfl, trivial⟩, ⟨by rw [swapL_zero]; rfl, rfl, rfl, rfl, rfl, trivial⟩, rfl, fun _ _ => rfl⟩ ?_
  clear hge e hi i hLl hLa hLb L
  intro j hj
  have w1 : IntKind.i64.wrap (((a + m : Nat) : Int) - (a : Int)) = (m : Int) := by rw [wrap64 (by omega)]; omega
  have w2 : IntKind.i64.wrap ((m : Int).tdiv 2) = ((m / 2 : Nat) : Int) := by rw [Int.tdiv_eq_ediv_of_nonneg (by omega), wrap64 (by omega)]; omega
  by_cases c : j < m / 2
  · have w3 : IntKind.i64.wrap (IntKind.i64.wrap (((a + m : Nat) : Int) - 1) - (j : Int)) = ((a + m - 1 - j : Nat) : Int) := by rw [wrap64 (n := ((a + m : Nat) : Int) - 1) (by omega), wrap64 (by omega)]; omega
    have w4 : IntKind.i64.wrap ((a : Int) + (j : Int)) = ((a + j : Nat) : Int) := by rw [wrap64 (by omega)]; omega
    have hsl : ((swapL R a (a + m) j).map rowR).length = R.length := by rw [List.length_map, swapL_len]
    have hst := swapL_step (R := R) (a := a) (b := a + m) (j := j) ham (by omega)
    have hx : ((swapL R a (a + m) j).map rowR)[a + m - 1 - j]? = some (rowR (rowA R (a + m - 1 - j))) := by
      rw [List.getElem?_map, swapL_at (by omega)]
      have : swN a (a + m) j (a + m - 1 - j) = a + m - 1 - j := by unfold swN; rw [if_neg (by omega)]
      rw [this]; rfl
    have hy : ((swapL R a (a + m) j).map rowR)[a + j]? = some (rowR (rowA R (a + j))) := by
      rw [List.getElem?_map, swapL_at (by omega)]
      have : swN a (a + m) j (a + j) = a + j := by unfold swN; rw [if_neg (by omega)]
      rw [this]; rfl
    have hs1 : ((swapL R a (a + m) j).map rowR).set (a + j) (setAt (rowR (rowA R (a + j))) 0 (rowR (rowA R (a + m - 1 - j)))) = ((swapL R a (a + m) j).set (a + j) (rowA R (a + m - 1 - j))).map rowR := by rw [List.map_set]; rfl
    have hx2 : (((swapL R a (a + m) j).set (a + j) (rowA R (a + m - 1 - j))).map rowR)[a + m - 1 - j]? = some (rowR (rowA R (a + m - 1 - j))) := by
      rw [← hs1, List.getElem?_set_ne (by omega), hx]
    have hs2 : (((swapL R a (a + m) j).set (a + j) (rowA R (a + m - 1 - j))).map rowR).set (a + m - 1 - j) (setAt (rowR (rowA R (a + m - 1 - j))) 0 (rowR (rowA R (a + j)))) = (swapL R a (a + m) (j + 1)).map rowR := by
      rw [← hst, List.map_set (l := (swapL R a (a + m) j).set (a + j) (rowA R (a + m - 1 - j)))]; rfl
    have hs1l : (((swapL R a (a + m) j).set (a + j) (rowA R (a + m - 1 - j))).map rowR).length = R.length := by rw [List.length_map, List.length_set, swapL_len]
    generalize rowA R (a + m - 1 - j) = rx at *
    generalize rowA R (a + j) = ry at *
    generalize (swapL R a (a + m) j).set (a + j) rx = S1 at *
    generalize swapL R a (a + m) j = S0 at *
    generalize hS2 : swapL R a (a + m) (j + 1) = S2 at *
    clear hn hst
    repeat' first
      | refine g_go T hC true 400 rfl rfl ?_
      | (exfalso; rw [w1, w2] at h; have h2 := of_decide_eq_false h; omega)
      | refine g_cond rfl (fun h => ?_) (fun h => ?_)
      | refine g_end T hC (by kernel_rfl) ?_
      | refine g_splitD (fun h => ?_) (fun h => ?_)
      | refine g_splitG rfl rfl rfl (fun h => ?_) (fun h => ?_)
      | refine g_splitP rfl rfl (fun h => ?_) (fun h => ?_)
      | (refine g_quo hC rfl rfl (by decide) rfl rfl ?_)
      | (refine g_idxA T hC (rows := S0.map rowR) rfl rfl rfl rfl (by first | (rw [w3]; omega) | (rw [w4]; omega)) (by rw [hsl]; first | (rw [w3]; omega) | (rw [w4]; omega)) rfl rfl ?_)
      | (refine g_idxA T hC (rows := S1.map rowR) rfl rfl rfl rfl (by rw [w3]; omega) (by rw [hs1l, w3]; omega) rfl rfl ?_)
      | refine g_loadE T hC (a + m - 1 - j) 0 (rows := S0.map rowR) (row := rowR rx) rfl rfl rfl (by rw [w3, Int.toNat_natCast]; rfl) hx rfl rfl rfl ?_
      | refine g_loadE T hC (a + j) 0 (rows := S0.map rowR) (row := rowR ry) rfl rfl rfl (by rw [w4, Int.toNat_natCast]; rfl) hy rfl rfl rfl ?_
      | refine g_storeE T hC (a + j) 0 (rows := S0.map rowR) (row := rowR ry) (us := rowR rx) (rows' := S1.map rowR) rfl rfl rfl rfl rfl rfl (by rw [w4, Int.toNat_natCast]; rfl) hy (Nat.le_refl 1) hs1 rfl ?_
      | refine g_storeE T hC (a + m - 1 - j) 0 (rows := S1.map rowR) (row := rowR rx) (us := rowR ry) (rows' := S2.map rowR) rfl rfl rfl rfl rfl rfl (by rw [w3, Int.toNat_natCast]; rfl) hx2 (Nat.le_refl 1) hs2 rfl ?_
    rw [wrapS (by omega), ← hS2]
    exact g_round (j + 1) (by omega) id (by omega) ⟨rfl, ⟨rfl, rfl, rfl, rfl, rfl, rfl, rfl, rfl, trivial⟩, ⟨rfl, rfl, rfl, rfl, rfl, trivial⟩, rfl, fun _ _ => rfl⟩
  · have hjm : j = m / 2 := by omega
    have hend := swapL_end (R := R) (a := a) (b := a + m) (j := j) (by omega) ham (by rw [hjm]; congr 1; omega)
    rw [hend]
    repeat' first
      | refine g_go T hC true 400 rfl rfl ?_
      | (exfalso; rw [w1, w2] at h; have h2 := of_decide_eq_true h; omega)
      | refine g_cond rfl (fun h => ?_) (fun h => ?_)
      | refine g_end T hC (by kernel_rfl) ?_
      | refine g_splitD (fun h => ?_) (fun h => ?_)
      | refine g_splitG rfl rfl rfl (fun h => ?_) (fun h => ?_)
      | refine g_splitP rfl rfl (fun h => ?_) (fun h => ?_)
      | (refine g_quo hC rfl rfl (by decide) rfl rfl ?_)
      | refine g_outE ?_
      | (refine g_freeze rfl (id := 0) (e := 1) (rows := (revR R a (a + m)).map rowR) rfl [(145, aggS (stR 3 (revR R a (a + m))))] ⟨⟨_, rfl, FrS.agg (FrVs.cons (FrV.refl _) (FrVs.cons FrV.ar FrVs.nil))⟩, trivial⟩ [] trivial ?_; refine g_call hC hY rfl rfl (LeSs.refl _) rfl rfl rfl ?_)
    all_goals exact g_fin ⟨.inl rfl, id, _, rfl, .refl _, trivial, rfl, rfl⟩
end Hw.Mz
