/- The engine and the contracts. -/
import Derived.Test.YtnijeifpjjeccaaGreatDoorC5
import Derived.Test.YtnijeifpjjeccaaGreatDoorC4
import Derived.Test.YtnijeifpjjeccaaGreatDoorC3
import Derived.Shelf.Slices.In.SortNone
set_option linter.unusedVariables false
set_option linter.unusedSimpArgs false
namespace Hw.Mq
open Go Go.Proofs Hw.M

/-! models: comparing rows, finding one -/
theorem dropI {l : List Int} {i : Nat} {x : Int} (h : l[i]? = some x) : l.drop i = x :: l.drop (i + 1) := by
  obtain ⟨hi, rfl⟩ := List.getElem?_eq_some_iff.1 h
  exact List.drop_eq_getElem_cons hi
theorem compare_ok (a b : List Int) : FnOK Tryz.prog 73 [pS (intsP a), pS (intsP b)] [] (I (cmpI a b)) [] := by
  refine fn_ok T Tryz.func73 (by kernel_rfl) rfl rfl rfl rfl fun C hC => ?_
  refine g_len 0 rfl fun hlen => ?_
  rw [List.length_map] at hlen
  repeat' first
    | refine g_go T hC true 400 rfl rfl ?_
    | refine g_cond rfl (fun h => ?_) (fun h => ?_)
    | refine g_end T hC (by kernel_rfl) ?_
    | refine g_splitD (fun h => ?_) (fun h => ?_)
    | refine g_splitG rfl rfl rfl (fun h => ?_) (fun h => ?_)
    | refine g_splitP rfl rfl (fun h => ?_) (fun h => ?_)
  rw [List.length_map]
  refine g_loop (fun i : Nat => i ≤ a.length ∧ i ≤ b.length ∧ cmpI (a.drop i) (b.drop i) = cmpI a b) (fun i => ([(0, pS (intsP a)), (1, pS (intsP b)), (9, pS (intsP a)), (10, I a.length), (11, I i)], [])) (fun i => a.length - i) hC
    0 ⟨Nat.zero_le _, Nat.zero_le _, rfl⟩ id ⟨rfl, ⟨rfl, rfl, rfl, rfl, rfl, trivial⟩, trivial, rfl, fun _ _ => rfl⟩ ?_
  rintro i ⟨hi, hj, hn⟩
  refine g_run' T hC true 200 rfl ?_
  refine g_cond rfl (fun h => ?_) (fun h => ?_)
  · have hlt : i < a.length := by simpa using h
    clear h
    obtain ⟨x, hx⟩ := exists_at hlt
    rw [dropI hx] at hn
    by_cases hb : i < b.length
    · obtain ⟨y, hy⟩ := exists_at hb
      rw [dropI hy] at hn
      simp only [cmpI] at hn
      repeat' first
        | refine g_go T hC true 400 rfl rfl ?_
        | (exfalso; first | (simp only [decide_eq_true_eq, decide_eq_false_iff_not, List.length_map, Bool.not_eq_true', Bool.not_eq_false'] at *; omega) | (simp at h; done))
        | refine g_cond rfl (fun h => ?_) (fun h => ?_)
        | refine g_end T hC (by kernel_rfl) ?_
        | refine g_splitD (fun h => ?_) (fun h => ?_)
        | refine g_splitG rfl rfl rfl (fun h => ?_) (fun h => ?_)
        | refine g_splitP rfl rfl (fun h => ?_) (fun h => ?_)
        | refine g_idx T hC rfl rfl rfl (Int.natCast_nonneg _) (map_at hx) rfl rfl ?_
        | refine g_idx T hC rfl rfl rfl (Int.natCast_nonneg _) (map_at hy) rfl rfl ?_
        | refine g_call hC (cmpC_ok _ _) rfl rfl (LeSs.refl _) rfl rfl rfl ?_
        | refine g_outR ?_
        | refine g_reti T (.inl rfl) rfl ?_
      · unfold sgnI at h ⊢
        rw [← hn]
        by_cases h1 : x < y
        · rw [if_pos h1, if_pos h1]
        · rw [if_neg h1, if_neg h1]
          by_cases h2 : y < x
          · rw [if_pos h2, if_pos h2]
          · rw [if_neg h1, if_neg h2] at h; simp at h
      · have hxy : x = y := by
          unfold sgnI at h
          by_cases h1 : x < y
          · rw [if_pos h1] at h; simp at h
          · rw [if_neg h1] at h
            by_cases h2 : y < x
            · rw [if_pos h2] at h; simp at h
            · omega
        subst hxy
        rw [if_neg (by omega), if_neg (by omega)] at hn
        rw [wrapS (by omega)]
        exact g_round (i + 1) ⟨by omega, by omega, hn⟩ id (by omega) ⟨rfl, ⟨rfl, rfl, rfl, rfl, rfl, trivial⟩, trivial, rfl, fun _ _ => rfl⟩
    · rw [List.drop_of_length_le (l := b) (by omega)] at hn
      simp only [cmpI] at hn
      repeat' first
        | refine g_go T hC true 400 rfl rfl ?_
        | (exfalso; first | (simp only [decide_eq_true_eq, decide_eq_false_iff_not, List.length_map, Bool.not_eq_true', Bool.not_eq_false'] at *; omega) | (simp at h; done))
        | refine g_cond rfl (fun h => ?_) (fun h => ?_)
        | refine g_end T hC (by kernel_rfl) ?_
        | refine g_splitD (fun h => ?_) (fun h => ?_)
        | refine g_splitG rfl rfl rfl (fun h => ?_) (fun h => ?_)
        | refine g_splitP rfl rfl (fun h => ?_) (fun h => ?_)
        | refine g_idx T hC rfl rfl rfl (Int.natCast_nonneg _) (map_at hx) rfl rfl ?_
        | refine g_outR ?_
        | refine g_reti T (.inl rfl) rfl ?_
      exact hn
  · have hge : ¬ i < a.length := by simpa using h
    rw [List.drop_of_length_le (l := a) (by omega)] at hn
    by_cases hb : i < b.length
    · obtain ⟨y, hy⟩ := exists_at hb
      rw [dropI hy] at hn
      simp only [cmpI] at hn
      repeat' first
        | refine g_go T hC true 400 rfl rfl ?_
        | (exfalso; first | (simp only [decide_eq_true_eq, decide_eq_false_iff_not, List.length_map, Bool.not_eq_true', Bool.not_eq_false'] at *; omega) | (simp at h; done))
        | refine g_cond rfl (fun h => ?_) (fun h => ?_)
        | refine g_end T hC (by kernel_rfl) ?_
        | refine g_splitD (fun h => ?_) (fun h => ?_)
        | refine g_splitG rfl rfl rfl (fun h => ?_) (fun h => ?_)
        | refine g_splitP rfl rfl (fun h => ?_) (fun h => ?_)
        | refine g_outE ?_
        | refine g_reti T (.inl rfl) rfl ?_
      exact hn
    · rw [List.drop_of_length_le (by omega)] at hn
      simp only [cmpI] at hn
      repeat' first
        | refine g_go T hC true 400 rfl rfl ?_
        | (exfalso; first | (simp only [decide_eq_true_eq, decide_eq_false_iff_not, List.length_map, Bool.not_eq_true', Bool.not_eq_false'] at *; omega) | (simp at h; done))
        | refine g_cond rfl (fun h => ?_) (fun h => ?_)
        | refine g_end T hC (by kernel_rfl) ?_
        | refine g_splitD (fun h => ?_) (fun h => ?_)
        | refine g_splitG rfl rfl rfl (fun h => ?_) (fun h => ?_)
        | refine g_splitP rfl rfl (fun h => ?_) (fun h => ?_)
        | refine g_outE ?_
        | refine g_reti T (.inl rfl) rfl ?_
      exact hn
theorem ltC_zero (a b : Rw) : ltC 0 a b = false := by cases a <;> cases b <;> rfl
theorem find1_ok (r key : Rw) (h : key.length ≤ r.length) (h2 : key.length ≤ 1000) : FnOK Tryz.prog 99 [pS (intsP r), pS (intsP key)] [] (I (cmpI (r.take key.length) key)) [] := by
  have hX := compare_ok (r.take key.length) key
  refine fn_ok T Tryz.func99 (by kernel_rfl) rfl rfl rfl rfl fun C hC => ?_
  repeat' first
    | refine g_go T hC true 400 rfl rfl ?_
    | refine g_cond rfl (fun h => ?_) (fun h => ?_)
    | refine g_end T hC (by kernel_rfl) ?_
    | refine g_splitD (fun h => ?_) (fun h => ?_)
    | refine g_splitG rfl rfl rfl (fun h => ?_) (fun h => ?_)
    | refine g_splitP rfl rfl (fun h => ?_) (fun h => ?_)
    | (refine g_partH T hC ((r.take key.length).map intR) rfl rfl rfl (Int.natCast_nonneg _) (by simp only [List.length_map]; omega) (by simp only [List.length_map, Int.toNat_natCast, List.map_take]) rfl rfl ?_)
    | refine g_call hC (hX) rfl rfl (LeSs.refl _) rfl rfl rfl ?_
  exact g_fin ⟨.inl rfl, id, _, rfl, .refl _, trivial, rfl, rfl⟩
theorem hasC_at {c : Nat} {R : Rws} {a r : Rw} (h : R[posC c R a]? = some r) : hasC c R a = decide (r.take c = a.take c) := by unfold hasC; rw [h]
theorem bfind_ok (R : Rws) (key : Rw) (hk : key.length ≤ 1000) (hR : R.length ≤ 1000) (hw : ∀ r ∈ R, key.length ≤ r.length) (hm : ∀ (i j : Nat) r s, i ≤ j → R[i]? = some r → R[j]? = some s → ltC key.length s key = true → ltC key.length r key = true) :
    FnOK Tryz.prog 98 [pS (rowsP R), pS (intsP key), .one (.cl 99 [] [])] [] (.tup [I (posC key.length R key), .bq (hasC key.length R key)]) [] := by
  have key_take : key.take key.length = key := List.take_length
  have hcmp : ∀ r ∈ R, (cmpI (r.take key.length) key < 0 ↔ ltC key.length r key = true) ∧ (cmpI (r.take key.length) key = 0 ↔ r.take key.length = key) := fun r hr => by
    have := cmp_lt key.length r key (hw r hr) (Nat.le_refl _)
    rw [key_take] at this
    exact this
  refine fn_ok T Tryz.func98 (by kernel_rfl) rfl rfl rfl rfl fun C hC => ?_
  repeat' first
    | refine g_go T hC true 400 rfl rfl ?_
    | refine g_cond rfl (fun h => ?_) (fun h => ?_)
    | refine g_end T hC (by kernel_rfl) ?_
    | refine g_splitD (fun h => ?_) (fun h => ?_)
    | refine g_splitG rfl rfl rfl (fun h => ?_) (fun h => ?_)
    | refine g_splitP rfl rfl (fun h => ?_) (fun h => ?_)
  rw [List.length_map]
  refine g_loop (fun p : Nat × Nat => p.1 ≤ p.2 ∧ p.2 ≤ R.length ∧ (∀ (t : Nat) r, t < p.1 → R[t]? = some r → ltC key.length r key = true) ∧ (∀ (t : Nat) r, p.2 ≤ t → R[t]? = some r → ltC key.length r key = false)) (fun p => ([(0, pS (rowsP R)), (1, pS (intsP key)), (2, .one (.cl 99 [] [])), (8, I R.length), (9, I p.1), (10, I p.2)], [])) (fun p => p.2 - p.1) hC
    (0, R.length) ⟨Nat.zero_le _, Nat.le_refl _, fun t r h => absurd h (Nat.not_lt_zero _), fun t r h hr => absurd (List.getElem?_eq_some_iff.1 hr).1 (by omega)⟩ id ⟨rfl, ⟨rfl, rfl, rfl, rfl, rfl, rfl, trivial⟩, trivial, rfl, fun _ _ => rfl⟩ ?_
  rintro ⟨i, j⟩ ⟨hij, hj, hb, ha⟩
  simp only at hij hj hb ha
  refine g_run' T hC true 200 rfl ?_
  refine g_cond rfl (fun h => ?_) (fun h => ?_)
  · have hlt : i < j := by simpa using h
    clear h
    repeat' first
      | refine g_go T hC true 400 rfl rfl ?_
      | refine g_cond rfl (fun h => ?_) (fun h => ?_)
      | refine g_end T hC (by kernel_rfl) ?_
      | refine g_splitD (fun h => ?_) (fun h => ?_)
      | refine g_splitG rfl rfl rfl (fun h => ?_) (fun h => ?_)
      | refine g_splitP rfl rfl (fun h => ?_) (fun h => ?_)
      | refine g_shr hC rfl rfl (by decide) (by decide) rfl rfl ?_
    have hmid : IntKind.i64.wrap (IntKind.u64.wrap (IntKind.i64.wrap ((i : Int) + (j : Int))) / 2 ^ (1 : Int).toNat) = (((i + j) / 2 : Nat) : Int) := by
      have e1 : IntKind.i64.wrap ((i : Int) + (j : Int)) = (i : Int) + (j : Int) := wrap64 (by omega)
      rw [e1]
      have : IntKind.u64.wrap ((i : Int) + (j : Int)) = ((i + j : Nat) : Int) := by
        unfold IntKind.wrap
        simp [IntKind.bits, IntKind.signed]
        omega
      rw [this]
      rw [show ((i + j : Nat) : Int) / 2 ^ (1 : Int).toNat = (((i + j) / 2 : Nat) : Int) by
        rw [show (2 : Int) ^ (1 : Int).toNat = 2 by decide]; omega]
      exact wrap64 (by omega)
    simp only
    rw [hmid]
    obtain ⟨x, hx⟩ := exists_at (l := R) (i := (i + j) / 2) (by omega)
    have hxm := List.mem_of_getElem? hx
    have hF := find1_ok x key (hw x hxm) hk
    have hcx := (hcmp x hxm).1
    generalize hme : (i + j) / 2 = m at *
    repeat' first
      | refine g_go T hC true 400 rfl rfl ?_
      | refine g_cond rfl (fun h => ?_) (fun h => ?_)
      | refine g_end T hC (by kernel_rfl) ?_
      | refine g_splitD (fun h => ?_) (fun h => ?_)
      | refine g_splitG rfl rfl rfl (fun h => ?_) (fun h => ?_)
      | refine g_splitP rfl rfl (fun h => ?_) (fun h => ?_)
      | refine g_idx T hC rfl rfl rfl (Int.natCast_nonneg _) (map_at hx) rfl rfl ?_
      | refine g_call hC (hF) rfl rfl (LeSs.refl _) rfl rfl rfl ?_
    · rw [wrapS (by omega)]
      have h1 := hcx.1 (of_decide_eq_true h)
      exact g_round (m + 1, j) ⟨by simp only; omega, hj, fun t r ht hr => hm t m r x (by simp only at ht; omega) hr hx h1, ha⟩ id (by simp only; omega) ⟨rfl, ⟨rfl, rfl, rfl, rfl, rfl, rfl, trivial⟩, trivial, rfl, fun _ _ => rfl⟩
    · have h1 : ltC key.length x key = false := by
        cases h2 : ltC key.length x key with
        | false => rfl
        | true => exact absurd (hcx.2 h2) (of_decide_eq_false h)
      refine g_round (i, m) ⟨by simp only; omega, by simp only; omega, hb, fun t r ht hr => ?_⟩ id (by simp only; omega) ⟨rfl, ⟨rfl, rfl, rfl, rfl, rfl, rfl, trivial⟩, trivial, rfl, fun _ _ => rfl⟩
      cases h2 : ltC key.length r key with
      | false => rfl
      | true => rw [hm m t x r ht hx hr h2] at h1; cases h1
  · have hge : i = j := by have := of_decide_eq_false h; simp only at this; omega
    subst hge
    clear h
    have hpos : posC key.length R key = i := tw_len (p := fun r => ltC key.length r key) hj (fun t r ht hr => hb t r ht hr) fun r hr => ha i r (Nat.le_refl _) hr
    by_cases hlt : i < R.length
    · obtain ⟨x, hx⟩ := exists_at hlt
      have hxm := List.mem_of_getElem? hx
      have hF := find1_ok x key (hw x hxm) hk
      have hq : hasC key.length R key = decide (cmpI (x.take key.length) key = 0) := by
        rw [hasC_at (r := x) (by rw [hpos]; exact hx), key_take]
        exact decide_eq_decide.2 (hcmp x hxm).2.symm
      rw [hq, hpos]
      repeat' first
        | refine g_go T hC true 400 rfl rfl ?_
        | (exfalso; first | (simp only [decide_eq_true_eq, decide_eq_false_iff_not, List.length_map, Bool.not_eq_true', Bool.not_eq_false'] at *; omega) | (simp at h; done))
        | refine g_cond rfl (fun h => ?_) (fun h => ?_)
        | refine g_end T hC (by kernel_rfl) ?_
        | refine g_splitD (fun h => ?_) (fun h => ?_)
        | refine g_splitG rfl rfl rfl (fun h => ?_) (fun h => ?_)
        | refine g_splitP rfl rfl (fun h => ?_) (fun h => ?_)
        | refine g_outE ?_
        | refine g_idx T hC rfl rfl rfl (Int.natCast_nonneg _) (map_at hx) rfl rfl ?_
        | refine g_call hC (hF) rfl rfl (LeSs.refl _) rfl rfl rfl ?_
      exact g_fin ⟨.inl rfl, id, _, rfl, .refl _, trivial, rfl, rfl⟩
    · have hq : hasC key.length R key = false := by
        unfold hasC
        rw [hpos, List.getElem?_eq_none (by omega)]
      rw [hq, hpos]
      repeat' first
        | refine g_go T hC true 400 rfl rfl ?_
        | (exfalso; first | (simp only [decide_eq_true_eq, decide_eq_false_iff_not, List.length_map, Bool.not_eq_true', Bool.not_eq_false'] at *; omega) | (simp at h; done))
        | refine g_cond rfl (fun h => ?_) (fun h => ?_)
        | refine g_end T hC (by kernel_rfl) ?_
        | refine g_splitD (fun h => ?_) (fun h => ?_)
        | refine g_splitG rfl rfl rfl (fun h => ?_) (fun h => ?_)
        | refine g_splitP rfl rfl (fun h => ?_) (fun h => ?_)
        | refine g_outE ?_
      exact g_fin ⟨.inl rfl, id, _, rfl, LeS.tup (.cons (.refl _) (.cons (LeS.qb rfl) .nil)), trivial, rfl, rfl⟩
theorem find_ok (R : Rws) (key : Rw) (hk : key.length ≤ 1000) (hR : R.length ≤ 1000) (hw : ∀ r ∈ R, key.length ≤ r.length) (hm : ∀ (i j : Nat) r s, i ≤ j → R[i]? = some r → R[j]? = some s → ltC key.length s key = true → ltC key.length r key = true) :
    FnOK Tryz.prog 77 [pS (rowsP R), pS (intsP key)] [] (.tup [I (posC key.length R key), .bq (hasC key.length R key)]) [] := by
  have hX := bfind_ok R key hk hR hw hm
  refine fn_ok T Tryz.func77 (by kernel_rfl) rfl rfl rfl rfl fun C hC => ?_
  repeat' first
    | refine g_go T hC true 400 rfl rfl ?_
    | refine g_cond rfl (fun h => ?_) (fun h => ?_)
    | refine g_end T hC (by kernel_rfl) ?_
    | refine g_splitD (fun h => ?_) (fun h => ?_)
    | refine g_splitG rfl rfl rfl (fun h => ?_) (fun h => ?_)
    | refine g_splitP rfl rfl (fun h => ?_) (fun h => ?_)
    | refine g_call hC (hX) rfl rfl (LeSs.refl _) rfl rfl rfl ?_
  exact g_fin ⟨.inl rfl, id, _, rfl, .refl _, trivial, rfl, rfl⟩
end Hw.Mq
namespace Hw.Mq
open Go Go.Proofs Hw.M

/-! models: tables -/
def rowOk (w : Nat) (p : Rw → Rw → Bool) (R : Rws) (i : Nat) : Bool := match R[i]? with
  | none => true
  | some r => decide (r.length = w) && r.all numB && match i with
    | 0 => true
    | j + 1 => match R[j]? with
      | none => true
      | some q => p q r
theorem rowOk_0 {w : Nat} {p : Rw → Rw → Bool} {R : Rws} {r : Rw} (h : R[0]? = some r) : rowOk w p R 0 = (decide (r.length = w) && r.all numB) := by
  unfold rowOk; rw [h]; simp
theorem rowOk_s {w : Nat} {p : Rw → Rw → Bool} {R : Rws} {i : Nat} {q r : Rw} (hi : 0 < i) (h : R[i]? = some r) (hq : R[i - 1]? = some q) : rowOk w p R i = (decide (r.length = w) && r.all numB && p q r) := by
  cases i with
  | zero => omega
  | succ j => unfold rowOk; rw [h]; simp only [Nat.add_sub_cancel] at hq; simp only [hq]
theorem table_range (w : Nat) (p : Rw → Rw → Bool) (R : Rws) : tableB w p R = (List.range R.length).all (rowOk w p R) := by
  rw [Bool.eq_iff_iff]
  unfold tableB
  simp only [Bool.and_eq_true, List.all_eq_true, List.mem_range, asc_step]
  constructor
  · rintro ⟨h1, h2⟩ i hi
    obtain ⟨r, hr⟩ := exists_at hi
    have h3 := h1 r (List.mem_of_getElem? hr)
    rcases Nat.eq_zero_or_pos i with rfl | h0
    · rw [rowOk_0 hr]; simpa using h3
    · obtain ⟨q, hq⟩ := exists_at (l := R) (i := i - 1) (by omega)
      rw [rowOk_s h0 hr hq]
      have h4 := h2 (i - 1) q r hq (by rw [show i - 1 + 1 = i by omega]; exact hr)
      simp only [Bool.and_eq_true, List.all_eq_true]
      exact ⟨⟨h3.1, h3.2⟩, h4⟩
  · intro h
    refine ⟨fun r hr => ?_, fun i a b ha hb => ?_⟩
    · obtain ⟨i, hi⟩ := List.mem_iff_getElem?.1 hr
      have hlt := (List.getElem?_eq_some_iff.1 hi).1
      have h3 := h i hlt
      rcases Nat.eq_zero_or_pos i with rfl | h0
      · rw [rowOk_0 hi] at h3; simpa using h3
      · obtain ⟨q, hq⟩ := exists_at (l := R) (i := i - 1) (by omega)
        rw [rowOk_s h0 hi hq] at h3
        simp only [Bool.and_eq_true, List.all_eq_true] at h3
        exact h3.1
    · have hlt := (List.getElem?_eq_some_iff.1 hb).1
      have h3 := h (i + 1) hlt
      rw [rowOk_s (by omega) hb (by simpa using ha)] at h3
      simp only [Bool.and_eq_true] at h3
      exact h3.2
theorem range_at {n i : Nat} (h : i < n) : (List.range n)[i]? = some i := by rw [List.getElem?_range h]
/-- The rows behind us are wide enough. -/
theorem wide_of {w : Nat} {p : Rw → Rw → Bool} {R : Rws} {i j : Nat} {r : Rw} (h : ((List.range R.length).take i).all (rowOk w p R) = true) (hj : j < i) (hr : R[j]? = some r) : r.length = w := by
  have hlt := (List.getElem?_eq_some_iff.1 hr).1
  have h1 : rowOk w p R j = true := List.all_eq_true.1 h j (by
    rw [List.mem_iff_getElem?]
    exact ⟨j, by rw [List.getElem?_take, if_pos hj]; exact range_at hlt⟩)
  unfold rowOk at h1
  simp only [hr, Bool.and_eq_true, decide_eq_true_eq] at h1
  exact h1.1.1
theorem ltC_asym : ∀ (c : Nat) {a b : Rw}, ltC c a b = true → ltC c b a = false := fun c a b h => by
  cases h2 : ltC c b a with
  | false => rfl
  | true => have := ltC_trans c h h2; rw [ltC_irr] at this; cases this
theorem cmpI_neg : ∀ (a b : List Int), cmpI b a = - cmpI a b
  | [], [] => rfl
  | [], _ :: _ => rfl
  | _ :: _, [] => rfl
  | x :: a, y :: b => by
    simp only [cmpI]
    by_cases h1 : x < y
    · rw [if_pos h1, if_neg (by omega), if_pos h1]; rfl
    · rw [if_neg h1]
      by_cases h2 : y < x
      · rw [if_pos h2, if_neg h1, if_pos h2]
      · rw [if_neg h2, if_neg h1, if_neg h2]; exact cmpI_neg a b
def pT (c : Nat) (s : Bool) (a b : Rw) : Bool := if c = 0 then true else !((s && !ltC c a b) || ltC c b a)
theorem pT_strict {c : Nat} (h : c ≠ 0) : pT c true = ltC c := by
  funext a b
  unfold pT
  rw [if_neg h]
  cases h1 : ltC c a b with
  | true => rw [ltC_asym c h1]; rfl
  | false => simp
theorem pT_weak {c : Nat} (h : c ≠ 0) : pT c false = fun a b => !ltC c b a := by
  funext a b
  unfold pT
  rw [if_neg h]; simp
theorem pT_none (s : Bool) : pT 0 s = fun _ _ => true := by funext a b; unfold pT; rw [if_pos rfl]
end Hw.Mq
namespace Hw.Mq
open Go Go.Proofs Hw.M

/-! models: the program's tables; Valid of texts -/
def wK (k : Int) : Nat := if k = 1 then 2 else if k = 5 then 3 else 1
def cK (k : Int) : Nat := if k = 1 then 1 else if k = 5 then 2 else if k = 2 then 1 else 0
def sK (k : Int) : Bool := decide (k ≠ 2)
theorem width_ok (k : Int) : FnOK Tryz.prog 71 [I k] [] (.tup [I (wK k), I (cK k)]) [] := by
  have hcs : k = 1 ∨ k = 5 ∨ k = 2 ∨ (k ≠ 1 ∧ k ≠ 5 ∧ k ≠ 2) := by omega
  rcases hcs with rfl | rfl | rfl | ⟨h1, h5, h2⟩
  · refine fn_ok T Tryz.func71 (by kernel_rfl) rfl rfl rfl rfl fun C hC => ?_
    repeat' first
      | refine g_go T hC true 400 rfl rfl ?_
      | (exfalso; simp at h; done)
      | refine g_cond rfl (fun h => ?_) (fun h => ?_)
      | refine g_end T hC (by kernel_rfl) ?_
      | refine g_splitD (fun h => ?_) (fun h => ?_)
      | refine g_splitG rfl rfl rfl (fun h => ?_) (fun h => ?_)
      | refine g_splitP rfl rfl (fun h => ?_) (fun h => ?_)
    exact g_fin ⟨.inl rfl, id, _, rfl, .refl _, trivial, rfl, rfl⟩
  · refine fn_ok T Tryz.func71 (by kernel_rfl) rfl rfl rfl rfl fun C hC => ?_
    repeat' first
      | refine g_go T hC true 400 rfl rfl ?_
      | (exfalso; simp at h; done)
      | refine g_cond rfl (fun h => ?_) (fun h => ?_)
      | refine g_end T hC (by kernel_rfl) ?_
      | refine g_splitD (fun h => ?_) (fun h => ?_)
      | refine g_splitG rfl rfl rfl (fun h => ?_) (fun h => ?_)
      | refine g_splitP rfl rfl (fun h => ?_) (fun h => ?_)
    exact g_fin ⟨.inl rfl, id, _, rfl, .refl _, trivial, rfl, rfl⟩
  · refine fn_ok T Tryz.func71 (by kernel_rfl) rfl rfl rfl rfl fun C hC => ?_
    repeat' first
      | refine g_go T hC true 400 rfl rfl ?_
      | (exfalso; simp at h; done)
      | refine g_cond rfl (fun h => ?_) (fun h => ?_)
      | refine g_end T hC (by kernel_rfl) ?_
      | refine g_splitD (fun h => ?_) (fun h => ?_)
      | refine g_splitG rfl rfl rfl (fun h => ?_) (fun h => ?_)
      | refine g_splitP rfl rfl (fun h => ?_) (fun h => ?_)
    exact g_fin ⟨.inl rfl, id, _, rfl, .refl _, trivial, rfl, rfl⟩
  · have e1 : wK k = 1 := by unfold wK; rw [if_neg h1, if_neg h5]
    have e2 : cK k = 0 := by unfold cK; rw [if_neg h1, if_neg h5, if_neg h2]
    rw [e1, e2]
    refine fn_ok T Tryz.func71 (by kernel_rfl) rfl rfl rfl rfl fun C hC => ?_
    repeat' first
      | refine g_go T hC true 400 rfl rfl ?_
      | (exfalso; first | (simp only [decide_eq_true_eq, decide_eq_false_iff_not, List.length_map, Bool.not_eq_true', Bool.not_eq_false'] at *; omega) | (simp at h; done))
      | refine g_cond rfl (fun h => ?_) (fun h => ?_)
      | refine g_end T hC (by kernel_rfl) ?_
      | refine g_splitD (fun h => ?_) (fun h => ?_)
      | refine g_splitG rfl rfl rfl (fun h => ?_) (fun h => ?_)
      | refine g_splitP rfl rfl (fun h => ?_) (fun h => ?_)
    exact g_fin ⟨.inl rfl, id, _, rfl, .refl _, trivial, rfl, rfl⟩
theorem vrow1_ok (n : Int) : FnOK Tryz.prog 72 [I n] [] (.bq (!numB n)) [] := by
  have hX := number_ok n
  generalize numB n = q at hX ⊢
  refine fn_ok T Tryz.func72 (by kernel_rfl) rfl rfl rfl rfl fun C hC => ?_
  repeat' first
    | refine g_go T hC true 400 rfl rfl ?_
    | refine g_cond rfl (fun h => ?_) (fun h => ?_)
    | refine g_end T hC (by kernel_rfl) ?_
    | refine g_splitD (fun h => ?_) (fun h => ?_)
    | refine g_splitG rfl rfl rfl (fun h => ?_) (fun h => ?_)
    | refine g_splitP rfl rfl (fun h => ?_) (fun h => ?_)
    | refine g_call hC (hX) rfl rfl (LeSs.refl _) rfl rfl rfl ?_
    | refine g_retq T (.inl rfl) rfl ?_
    | refine g_retl T (.inl rfl) rfl ?_
  all_goals rfl
theorem vchr1_ok (n : Int) : FnOK Tryz.prog 53 [I n] [] (.bq (!chrB n)) [] := by
  have hX := character_ok n
  generalize chrB n = q at hX ⊢
  refine fn_ok T Tryz.func53 (by kernel_rfl) rfl rfl rfl rfl fun C hC => ?_
  repeat' first
    | refine g_go T hC true 400 rfl rfl ?_
    | refine g_cond rfl (fun h => ?_) (fun h => ?_)
    | refine g_end T hC (by kernel_rfl) ?_
    | refine g_splitD (fun h => ?_) (fun h => ?_)
    | refine g_splitG rfl rfl rfl (fun h => ?_) (fun h => ?_)
    | refine g_splitP rfl rfl (fun h => ?_) (fun h => ?_)
    | refine g_call hC (hX) rfl rfl (LeSs.refl _) rfl rfl rfl ?_
    | refine g_retq T (.inl rfl) rfl ?_
    | refine g_retl T (.inl rfl) rfl ?_
  all_goals rfl
theorem cK_le (k : Int) : cK k ≤ wK k := by unfold cK wK; repeat' split
                                            all_goals omega
theorem wK_le (k : Int) : wK k ≤ 3 := by unfold wK; repeat' split
                                         all_goals omega
/-- What the comparison says of two rows. -/
theorem cmp_pT {k : Int} {q r : Rw} (hq : q.length = wK k) (hr : r.length = wK k) (hc : cK k ≠ 0) (hk : k = 1 ∨ k = 5 ∨ k = 2) :
    pT (cK k) (sK k) q r = !(decide (0 < cmpI (q.take (cK k)) (r.take (cK k))) || (decide (cmpI (q.take (cK k)) (r.take (cK k)) = 0) && !decide (k = 2))) := by
  have hcw := cK_le k
  have h1 := (cmp_lt (cK k) q r (by omega) (by omega)).1
  have h2 := (cmp_lt (cK k) r q (by omega) (by omega)).1
  rw [cmpI_neg (q.take (cK k)) (r.take (cK k))] at h2
  generalize cmpI (q.take (cK k)) (r.take (cK k)) = z at h1 h2 ⊢
  unfold pT
  rw [if_neg hc]
  have hs : sK k = !decide (k = 2) := by unfold sK; by_cases h : k = 2 <;> simp [h]
  rw [hs]
  have e1 : ltC (cK k) q r = decide (z < 0) := by
    cases h : ltC (cK k) q r with
    | true => exact (decide_eq_true (h1.2 h)).symm
    | false => exact (decide_eq_false fun hz => by rw [h1.1 hz] at h; cases h).symm
  have e2 : ltC (cK k) r q = decide (0 < z) := by
    cases h : ltC (cK k) r q with
    | true => exact (decide_eq_true (by have := h2.2 h; omega)).symm
    | false => exact (decide_eq_false fun hz => by rw [h2.1 (by omega)] at h; cases h).symm
  rw [e1, e2]
  rcases Int.lt_trichotomy z 0 with hz | hz | hz
  · rw [decide_eq_true hz, decide_eq_false (by omega : ¬ 0 < z), decide_eq_false (by omega : ¬ z = 0)]; simp
  · subst hz; simp
  · rw [decide_eq_true hz, decide_eq_false (by omega : ¬ z < 0), decide_eq_false (by omega : ¬ z = 0)]; simp
theorem validRows_ok {k : Int} (R : Rws) : FnOK Tryz.prog 51 [aggS (stR k R)] [] (.bq (decide (R.length ≤ 500) && tableB (wK k) (pT (cK k) (sK k)) R)) [] := by
  by_cases hR : R.length ≤ 500
  case neg =>
    rw [decide_eq_false hR]
    refine fn_ok T Tryz.func51 (by kernel_rfl) rfl rfl rfl rfl fun C hC => ?_
    repeat' first
      | refine g_go T hC true 400 rfl rfl ?_
      | (exfalso; first | (simp only [decide_eq_true_eq, decide_eq_false_iff_not, List.length_map, Bool.not_eq_true', Bool.not_eq_false'] at *; omega) | (simp at h; done))
      | refine g_cond rfl (fun h => ?_) (fun h => ?_)
      | refine g_end T hC (by kernel_rfl) ?_
      | refine g_splitD (fun h => ?_) (fun h => ?_)
      | refine g_splitG rfl rfl rfl (fun h => ?_) (fun h => ?_)
      | refine g_splitP rfl rfl (fun h => ?_) (fun h => ?_)
      | refine g_retl T (.inl rfl) rfl ?_
    all_goals rfl
  rw [decide_eq_true hR, Bool.true_and, table_range]
  have hW := width_ok k
  have hcw := cK_le k
  have hw3 := wK_le k
  refine fn_ok T Tryz.func51 (by kernel_rfl) rfl rfl rfl rfl fun C hC => ?_
  repeat' first
    | refine g_go T hC true 400 rfl rfl ?_
    | (exfalso; first | (simp only [decide_eq_true_eq, decide_eq_false_iff_not, List.length_map, Bool.not_eq_true', Bool.not_eq_false'] at *; omega) | (simp at h; done))
    | refine g_cond rfl (fun h => ?_) (fun h => ?_)
    | refine g_end T hC (by kernel_rfl) ?_
    | refine g_splitD (fun h => ?_) (fun h => ?_)
    | refine g_splitG rfl rfl rfl (fun h => ?_) (fun h => ?_)
    | refine g_splitP rfl rfl (fun h => ?_) (fun h => ?_)
    | refine g_call hC (hW) rfl rfl (LeSs.refl _) rfl rfl rfl ?_
  rw [List.length_map]
  refine g_loop (fun i : Nat => i ≤ R.length ∧ ((List.range R.length).take i).all (rowOk (wK k) (pT (cK k) (sK k)) R) = true) (fun i => ([(1, .one (.bx 1001 0)), (3, I (wK k)), (4, I (cK k)), (19, pS (rowsP R)), (20, I R.length), (21, I i)], [(1001, some (.box ((stR k R).map V.p)))])) (fun i => R.length - i) hC
    0 ⟨Nat.zero_le _, by simp⟩ id ⟨rfl, ⟨rfl, rfl, rfl, rfl, rfl, rfl, trivial⟩, ⟨rfl, trivial⟩, rfl, fun _ _ => rfl⟩ ?_
  clear hW
  rintro i ⟨hi, hn⟩
  refine g_run' T hC true 200 rfl ?_
  refine g_cond rfl (fun h => ?_) (fun h => ?_)
  rotate_left
  · have hge : ¬ i < R.length := by simpa using h
    repeat' first
      | refine g_go T hC true 400 rfl rfl ?_
      | refine g_cond rfl (fun h => ?_) (fun h => ?_)
      | refine g_end T hC (by kernel_rfl) ?_
      | refine g_splitD (fun h => ?_) (fun h => ?_)
      | refine g_splitG rfl rfl rfl (fun h => ?_) (fun h => ?_)
      | refine g_splitP rfl rfl (fun h => ?_) (fun h => ?_)
      | refine g_outE ?_
      | refine g_retl T (.inl rfl) rfl ?_
    rw [List.take_of_length_le (by rw [List.length_range]; omega)] at hn
    exact hn.symm
  have hlt : i < R.length := by simpa using h
  clear h
  obtain ⟨r, hx⟩ := exists_at hlt
  have hN := intN_any 72 r (fun n => !numB n) (fun n _ => vrow1_ok n)
  rw [any_not] at hN
  by_cases hlen : r.length = wK k
  case neg =>
    have hbad : rowOk (wK k) (pT (cK k) (sK k)) R i = false := by unfold rowOk; simp only [hx]; rw [decide_eq_false hlen]; rfl
    repeat' first
      | refine g_go T hC true 400 rfl rfl ?_
      | (exfalso; first | (simp only [decide_eq_true_eq, decide_eq_false_iff_not, List.length_map, Bool.not_eq_true', Bool.not_eq_false'] at *; omega) | (simp at h; done))
      | refine g_cond rfl (fun h => ?_) (fun h => ?_)
      | refine g_end T hC (by kernel_rfl) ?_
      | refine g_splitD (fun h => ?_) (fun h => ?_)
      | refine g_splitG rfl rfl rfl (fun h => ?_) (fun h => ?_)
      | refine g_splitP rfl rfl (fun h => ?_) (fun h => ?_)
      | refine g_idx T hC rfl rfl rfl (Int.natCast_nonneg _) (map_at (by assumption)) rfl rfl ?_
      | refine g_outR ?_
      | refine g_retl T (.inl rfl) rfl ?_
    exact (all_no (range_at hlt) hbad).symm
  cases hall : r.all numB with
  | false =>
    have hbad : rowOk (wK k) (pT (cK k) (sK k)) R i = false := by unfold rowOk; simp only [hx]; rw [hall, Bool.and_false]; rfl
    rw [hall] at hN
    repeat' first
      | refine g_go T hC true 400 rfl rfl ?_
      | (exfalso; simp at h; done)
      | (exfalso; first | (simp only [decide_eq_true_eq, decide_eq_false_iff_not, List.length_map, Bool.not_eq_true', Bool.not_eq_false'] at *; omega) | (simp at h; done))
      | refine g_cond rfl (fun h => ?_) (fun h => ?_)
      | refine g_end T hC (by kernel_rfl) ?_
      | refine g_splitD (fun h => ?_) (fun h => ?_)
      | refine g_splitG rfl rfl rfl (fun h => ?_) (fun h => ?_)
      | refine g_splitP rfl rfl (fun h => ?_) (fun h => ?_)
      | refine g_idx T hC rfl rfl rfl (Int.natCast_nonneg _) (map_at (by assumption)) rfl rfl ?_
      | refine g_call hC (hN) rfl rfl (LeSs.refl _) rfl rfl rfl ?_
      | refine g_outR ?_
      | refine g_retl T (.inl rfl) rfl ?_
    exact (all_no (range_at hlt) hbad).symm
  | true =>
    rw [hall] at hN
    by_cases hi0 : 0 < i
    · obtain ⟨q, hq⟩ := exists_at (l := R) (i := i - 1) (by omega)
      have hok : rowOk (wK k) (pT (cK k) (sK k)) R i = pT (cK k) (sK k) q r := by rw [rowOk_s hi0 hx hq, decide_eq_true hlen, hall]; rfl
      have hql := wide_of hn (by omega) hq
      have w1 : IntKind.i64.wrap ((i : Int) - 1) = (i : Int) - 1 := wrap64 (by omega)
      have hq' : R[((i : Int) - 1).toNat]? = some q := by rw [show ((i : Int) - 1).toNat = i - 1 by omega]; exact hq
      by_cases hc0 : cK k = 0
      · have hp : rowOk (wK k) (pT (cK k) (sK k)) R i = true := by rw [hok]; unfold pT; rw [if_pos hc0]
        repeat' first
          | refine g_go T hC true 400 rfl rfl ?_
          | (exfalso; simp at h; done)
          | (exfalso; first | (simp only [decide_eq_true_eq, decide_eq_false_iff_not, List.length_map, Bool.not_eq_true', Bool.not_eq_false'] at *; omega) | (simp at h; done))
          | refine g_cond rfl (fun h => ?_) (fun h => ?_)
          | refine g_end T hC (by kernel_rfl) ?_
          | refine g_splitD (fun h => ?_) (fun h => ?_)
          | refine g_splitG rfl rfl rfl (fun h => ?_) (fun h => ?_)
          | refine g_splitP rfl rfl (fun h => ?_) (fun h => ?_)
          | refine g_idx T hC rfl rfl rfl (Int.natCast_nonneg _) (map_at (by assumption)) rfl rfl ?_
          | refine g_call hC (hN) rfl rfl (LeSs.refl _) rfl rfl rfl ?_
        all_goals
          rw [wrapS (by omega)]
          refine g_round (i + 1) ⟨by omega, ?_⟩ id (by omega) ⟨rfl, ⟨rfl, rfl, rfl, rfl, rfl, rfl, trivial⟩, ⟨rfl, trivial⟩, rfl, fun _ _ => rfl⟩
          rw [all_take (p := rowOk (wK k) (pT (cK k) (sK k)) R) (range_at hlt), hn, Bool.true_and]; exact hp
      · have hkk : k = 1 ∨ k = 5 ∨ k = 2 := by
          unfold cK at hc0
          by_cases h1 : k = 1
          · exact .inl h1
          · by_cases h5 : k = 5
            · exact .inr (.inl h5)
            · by_cases h2 : k = 2
              · exact .inr (.inr h2)
              · rw [if_neg h1, if_neg h5, if_neg h2] at hc0; exact absurd rfl hc0
        have hp : rowOk (wK k) (pT (cK k) (sK k)) R i = _ := hok.trans (cmp_pT hql hlen hc0 hkk)
        have hK := compare_ok (q.take (cK k)) (r.take (cK k))
        generalize cmpI (q.take (cK k)) (r.take (cK k)) = z at hK hp
        repeat' first
          | refine g_go T hC true 400 rfl rfl ?_
          | (exfalso; simp at h; done)
          | (exfalso; first | (simp only [decide_eq_true_eq, decide_eq_false_iff_not, List.length_map, Bool.not_eq_true', Bool.not_eq_false'] at *; omega) | (simp at h; done))
          | refine g_cond rfl (fun h => ?_) (fun h => ?_)
          | refine g_end T hC (by kernel_rfl) ?_
          | refine g_splitD (fun h => ?_) (fun h => ?_)
          | refine g_splitG rfl rfl rfl (fun h => ?_) (fun h => ?_)
          | refine g_splitP rfl rfl (fun h => ?_) (fun h => ?_)
          | (rw [w1]; refine g_idx T hC rfl rfl rfl (by omega) (map_atI hq') rfl rfl ?_)
          | refine g_idx T hC rfl rfl rfl (Int.natCast_nonneg _) (map_at hx) rfl rfl ?_
          | refine g_call hC (hN) rfl rfl (LeSs.refl _) rfl rfl rfl ?_
          | (refine g_partH T hC (rows := q.map intR) ((q.take (cK k)).map intR) rfl rfl rfl (Int.natCast_nonneg _) (by simp only [List.length_map]; omega) (by simp only [Int.toNat_natCast, List.map_take]) rfl rfl ?_)
          | (refine g_partH T hC (rows := r.map intR) ((r.take (cK k)).map intR) rfl rfl rfl (Int.natCast_nonneg _) (by simp only [List.length_map]; omega) (by simp only [Int.toNat_natCast, List.map_take]) rfl rfl ?_)
          | refine g_call hC (hK) rfl rfl (LeSs.refl _) rfl rfl rfl ?_
          | refine g_outR ?_
          | refine g_retl T (.inl rfl) rfl ?_
        all_goals first
          | (have hbad : rowOk (wK k) (pT (cK k) (sK k)) R i = false := by rw [hp]; clear hn hK hN hx hq hq' hok hp hcw hw3 hlen hql hall hkk hc0 w1; simp_all
             exact (all_no (range_at hlt) hbad).symm)
          | (have hgood : rowOk (wK k) (pT (cK k) (sK k)) R i = true := by rw [hp]; clear hn hK hN hx hq hq' hok hp hcw hw3 hlen hql hall hkk hc0 w1; simp_all
             rw [wrapS (by omega)]
             refine g_round (i + 1) ⟨by omega, ?_⟩ id (by omega) ⟨rfl, ⟨rfl, rfl, rfl, rfl, rfl, rfl, trivial⟩, ⟨rfl, trivial⟩, rfl, fun _ _ => rfl⟩
             rw [all_take (p := rowOk (wK k) (pT (cK k) (sK k)) R) (range_at hlt), hn, Bool.true_and]; exact hgood)
    · obtain rfl : i = 0 := by omega
      have hp : rowOk (wK k) (pT (cK k) (sK k)) R 0 = true := by rw [rowOk_0 hx, decide_eq_true hlen, hall]; rfl
      repeat' first
        | refine g_go T hC true 400 rfl rfl ?_
        | (exfalso; simp at h; done)
        | (exfalso; first | (simp only [decide_eq_true_eq, decide_eq_false_iff_not, List.length_map, Bool.not_eq_true', Bool.not_eq_false'] at *; omega) | (simp at h; done))
        | refine g_cond rfl (fun h => ?_) (fun h => ?_)
        | refine g_end T hC (by kernel_rfl) ?_
        | refine g_splitD (fun h => ?_) (fun h => ?_)
        | refine g_splitG rfl rfl rfl (fun h => ?_) (fun h => ?_)
        | refine g_splitP rfl rfl (fun h => ?_) (fun h => ?_)
        | refine g_idx T hC rfl rfl rfl (Int.natCast_nonneg _) (map_at (by assumption)) rfl rfl ?_
        | refine g_call hC (hN) rfl rfl (LeSs.refl _) rfl rfl rfl ?_
      all_goals
        rw [wrapS (by omega)]
        refine g_round (0 + 1) ⟨by omega, ?_⟩ id (by omega) ⟨rfl, ⟨rfl, rfl, rfl, rfl, rfl, rfl, trivial⟩, ⟨rfl, trivial⟩, rfl, fun _ _ => rfl⟩
        rw [all_take (p := rowOk (wK k) (pT (cK k) (sK k)) R) (range_at hlt), hn, Bool.true_and]; exact hp
end Hw.Mq
namespace Hw.Mq
open Go Go.Proofs Go.Shelf Hw.M

/-! slices.Sort of integers of the run's own -/
abbrev iv (x : Int) : Value := .int .i64 x
theorem rep_ints (M : Mem) (ρ : Nat → Value) : ∀ l : List Int, RepVs M ρ ((l.map intR).flatten.map V.p) (l.map iv)
  | [] => by simp only [List.map_nil, List.flatten_nil, RepVs]
  | a :: l => by
    have ih := rep_ints M ρ l
    simp only [List.map_cons, List.flatten_cons, intR, List.singleton_append, RepVs, RepV, RepPV]
    exact ⟨⟨trivial, rfl⟩, ih⟩
theorem ints_one (l : List Int) : ∀ r ∈ l.map intR, r.length = 1 := fun r hr => by obtain ⟨x, _, rfl⟩ := List.mem_map.1 hr; rfl
theorem ints_of {M : Mem} {g : Nat → Option Value} {l : List Int} {o : Nat} (h : ∀ j c, (l.map iv)[j]? = some c → g (o + j) = some c) : RowsIn M g 1 (l.map intR) o :=
  ints_rows (ints_one l) (rep_ints M _ l) h
theorem of_ints {M : Mem} {g : Nat → Option Value} {l : List Int} {o : Nat} (h : RowsIn M g 1 (l.map intR) o) : ∀ j c, (l.map iv)[j]? = some c → g (o + j) = some c := fun j c hj => by
  rw [List.getElem?_map] at hj
  simp only [Option.map_eq_some_iff] at hj
  obtain ⟨x, hx, rfl⟩ := hj
  have := (h.get (i := j) (by rw [List.getElem?_map, hx]; rfl)).2
  rw [Nat.mul_one] at this
  simp only [intR, RowIn, RepPV] at this
  obtain ⟨⟨c, h1, h2⟩, _⟩ := this
  rw [h1, h2.1]
def sortI (l : List Int) : List Int := l.mergeSort fun x y => decide (x ≤ y)
theorem sortI_perm (l : List Int) : (sortI l).Perm l := List.mergeSort_perm l _
theorem sortI_asc (l : List Int) : (sortI l).Pairwise (· ≤ ·) := by
  have := List.pairwise_mergeSort (le := fun x y : Int => decide (x ≤ y)) (fun a b c h1 h2 => by simp at *; omega) (fun a b => by simp; omega) l
  exact this.imp fun h => by simpa using h
theorem sortI_len (l : List Int) : (sortI l).length = l.length := (sortI_perm l).length_eq
theorem sort_ok (l : List Int) (hl : l.length ≤ 1000000) : FnOK Tryz.prog 74 [.one (.ar 0)] [(0, .arr 1 (l.map intR))] .un [(0, .arr 1 ((sortI l).map intR))] := by
  refine ⟨⟨_, Tryz.func74, by kernel_rfl, by kernel_rfl⟩, fun M ρ w xs hx hT hI hG => ?_⟩
  match xs, hx with
  | [x0], hx =>
    simp only [RepSs, RepS, RepV] at hx
    obtain ⟨⟨rfl, _⟩, _⟩ := hx
    obtain ⟨a, cap, e0, e1, e2, e3⟩ := hT.res 0 _ rfl
    rw [List.length_map] at e0 e1
    have one : ∀ {r : Res} i q, tg (tb [(0, r)]) i = some q → i = 0 ∧ q = r := fun {r} i q hi => by
      simp only [tb, tg_cons] at hi
      split at hi
      · rename_i e; exact ⟨e.symm, (Option.some.inj hi).symm⟩
      · cases hi
    by_cases h0 : l.length = 0
    · have hl0 : l = [] := List.length_eq_zero_iff.1 h0
      subst hl0
      rw [e0]
      refine (Any.slices_Sort_int_none laysSort a cap w).mono ?_
      rintro e w' ⟨rfl, rfl⟩
      exact ⟨_, M, ρ, rfl, ret_keep hT hI (by simp only [RepS]) (fun i r hi => by obtain ⟨rfl, _⟩ := one i r hi; exact ⟨_, rfl⟩) (fun i r hi => by obtain ⟨rfl, rfl⟩ := one i r hi; rw [show sortI [] = [] by simp [sortI]]; exact hT.res 0 _ rfl) (fun _ _ _ => rfl) (Nat.le_refl _) rfl rfl rfl⟩
    · rcases e3 with ⟨_, h⟩ | ⟨b, o, cs, el, fz, rfl, h6, h6', h7, h8⟩
      · omega
      rw [Nat.mul_one] at h7
      have hcl := of_ints h8
      have hb : b < w.heap.size := (Array.getElem?_eq_some_iff.1 h6).1
      have hH : Sort.Holds (Value.int .i64) w b o l.toArray := holds_of h6 h6' fun j x hx => hcl j _ (by rw [List.getElem?_map]; simp at hx; rw [hx]; rfl)
      rw [e0]
      refine (Any.slices_Sort_int laysSort b o cap l w hH hb (by omega)).mono ?_
      rintro e w' ⟨rfl, q, os, rfl⟩
      rw [show (l.mergeSort fun x y => decide (x ≤ y)) = sortI l from rfl]
      have hsz : (sortI l).length = l.length := sortI_len l
      have heap : ∀ k, k < w.heap.size → (Sort.grow (Sort.putRow (Value.int .i64) (Sort.ahead w q) b o (sortI l).toArray) os).heap[k]? = (Sort.putRow (Value.int .i64) (Sort.ahead w q) b o (sortI l).toArray).heap[k]? := fun k hk => by
        show ((Sort.putRow (Value.int .i64) (Sort.ahead w q) b o (sortI l).toArray).heap ++ os)[k]? = _
        rw [Array.getElem?_append_left (by rw [putRow_size]; exact hk)]
      refine ⟨_, M, ρ, rfl, ret_keep hT hI (by simp only [RepS]) (fun i r hi => by obtain ⟨rfl, _⟩ := one i r hi; exact ⟨_, rfl⟩) (fun i r hi => ?_) (fun k hk hn => ?_) ?_ rfl rfl rfl⟩
      · obtain ⟨rfl, rfl⟩ := one i r hi
        refine ⟨_, cap, by rw [List.length_map, hsz]; exact e0, by rw [List.length_map, hsz]; exact e1, e2, .inr ⟨b, o, Sort.putCells (Value.int .i64) o (sortI l).toArray cs, el, fz, rfl, ?_, ?_, ?_, ints_of fun j c hj => ?_⟩⟩
        · rw [heap b hb]
          exact putRow_at (Value.int .i64) (Sort.ahead w q) b o (sortI l).toArray h6
        · rw [putCells_size]; exact h6'
        · rw [putCells_size, Nat.mul_one]; exact h7
        · rw [List.getElem?_map, Option.map_eq_some_iff] at hj
          obtain ⟨x, hx, rfl⟩ := hj
          have hlt := (List.getElem?_eq_some_iff.1 hx).1
          exact putCells_in _ o _ cs (by simpa using hx) (by omega)
      · rw [heap k hk]
        exact putRow_off _ _ b o _ fun e => hn ⟨0, _, rfl, by rw [e0, e]; rfl⟩
      · show w.heap.size ≤ ((Sort.putRow (Value.int .i64) (Sort.ahead w q) b o (sortI l).toArray).heap ++ os).size
        rw [Array.size_append, putRow_size]
        exact Nat.le_add_right _ _
  | [], hx => simp [RepSs] at hx
  | _ :: _ :: _, hx => simp [RepSs] at hx
end Hw.Mq
