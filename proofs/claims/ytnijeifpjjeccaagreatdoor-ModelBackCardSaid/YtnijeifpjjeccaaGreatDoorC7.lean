/- The engine and the contracts. -/
import Derived.Test.YtnijeifpjjeccaaGreatDoorC6
set_option linter.unusedVariables false
set_option linter.unusedSimpArgs false
namespace Hw.Mq
open Go Go.Proofs Go.Shelf Hw.M

/-! models: partitions, what is checked -/
def mvU (a b i : Nat) : Nat := match Nat.beq i a with
  | true => b
  | false => i
theorem mvU_low {a b i : Nat} (ha : 100 ≤ a) (hi : i < 100) : mvU a b i = i := by
  unfold mvU; rw [beq_ne (by omega)]
theorem perm_sub : ∀ {l m : List Int}, l.Nodup → (∀ x ∈ l, x ∈ m) → m.length ≤ l.length → l.Perm m
  | [], m, _, _, h => by
    have : m = [] := List.length_eq_zero_iff.1 (by simpa using h)
    rw [this]
  | x :: l, m, hn, hs, h => by
    have hn' := List.nodup_cons.1 hn
    have hx := hs x (List.mem_cons_self ..)
    have hp := List.perm_cons_erase hx
    have hl : (m.erase x).length = m.length - 1 := List.length_erase_of_mem hx
    have ih := perm_sub (l := l) (m := m.erase x) hn'.2 (fun y hy => (List.mem_erase_of_ne fun e => hn'.1 (by rw [← e]; exact hy)).2 (hs y (List.mem_cons_of_mem _ hy))) (by rw [hl]; simp only [List.length_cons] at h; omega)
    exact (ih.cons x).trans hp.symm
def rangeI (n : Nat) : List Int := (List.range n).map fun i : Nat => (i : Int)
theorem rangeI_len (n : Nat) : (rangeI n).length = n := by simp [rangeI]
theorem rangeI_at {n i : Nat} (h : i < n) : (rangeI n)[i]? = some (i : Int) := by simp [rangeI, h]
theorem rangeI_mem {n : Nat} {x : Int} : x ∈ rangeI n ↔ 0 ≤ x ∧ x < (n : Int) := by
  simp only [rangeI, List.mem_map, List.mem_range]
  constructor
  · rintro ⟨i, hi, rfl⟩; omega
  · rintro ⟨h1, h2⟩; exact ⟨x.toNat, by omega, by omega⟩
theorem rangeI_asc (n : Nat) : (rangeI n).Pairwise (· < ·) := by
  rw [rangeI, List.pairwise_map]
  exact List.pairwise_lt_range.imp fun h => by omega
theorem rangeI_nodup (n : Nat) : (rangeI n).Nodup := (rangeI_asc n).imp fun h => by omega
theorem sort_range {F : List Int} : sortI F = rangeI F.length ↔ (∀ x ∈ F, 0 ≤ x ∧ x < (F.length : Int)) ∧ F.Nodup := by
  constructor
  · intro h
    have hp := (sortI_perm F).symm
    rw [h] at hp
    exact ⟨fun x hx => rangeI_mem.1 (hp.mem_iff.1 hx), hp.nodup_iff.2 (rangeI_nodup _)⟩
  · rintro ⟨h1, h2⟩
    have hp : F.Perm (rangeI F.length) := perm_sub h2 (fun x hx => rangeI_mem.2 (h1 x hx)) (by rw [rangeI_len]; exact Nat.le_refl _)
    exact asc_uniq ((sortI_perm F).trans hp) (sortI_asc F) (pw_le (rangeI_asc _))
/-- Of the rows ahead of the i-th one. -/
structure RowsA (R : Rws) (i : Nat) : Prop where
  ne : ∀ (j : Nat) r, j < i → R[j]? = some r → r ≠ []
  asc : ∀ (j : Nat) r, j < i → R[j]? = some r → r.Pairwise (· < ·)
  fst : ∀ (j : Nat) q r, j + 1 < i → R[j]? = some q → R[j + 1]? = some r → at0 q 0 < at0 r 0
theorem RowsA.zero (R : Rws) : RowsA R 0 := ⟨fun _ _ h => absurd h (Nat.not_lt_zero _), fun _ _ h => absurd h (Nat.not_lt_zero _), fun _ _ _ h => absurd h (Nat.not_lt_zero _)⟩
theorem RowsA.next {R : Rws} {i : Nat} (h : RowsA R i) {r : Rw} (hr : R[i]? = some r) (h1 : r ≠ []) (h2 : r.Pairwise (· < ·)) (h3 : ∀ q, 0 < i → R[i - 1]? = some q → at0 q 0 < at0 r 0) : RowsA R (i + 1) := by
  refine ⟨fun j s hj hs => ?_, fun j s hj hs => ?_, fun j q s hj hq hs => ?_⟩
  · rcases Nat.lt_or_ge j i with hlt | hge
    · exact h.ne j s hlt hs
    · obtain rfl : j = i := by omega
      rw [hr] at hs; rw [← Option.some.inj hs]; exact h1
  · rcases Nat.lt_or_ge j i with hlt | hge
    · exact h.asc j s hlt hs
    · obtain rfl : j = i := by omega
      rw [hr] at hs; rw [← Option.some.inj hs]; exact h2
  · rcases Nat.lt_or_ge (j + 1) i with hlt | hge
    · exact h.fst j q s hlt hq hs
    · obtain rfl : i = j + 1 := by omega
      rw [hr] at hs; rw [← Option.some.inj hs]; exact h3 q (by omega) (by simpa using hq)
theorem SetsOk.of {R : Rws} (h : RowsA R R.length) (ht : R.flatten.length ≤ 500) (hr : ∀ x ∈ R.flatten, 0 ≤ x ∧ x < (R.flatten.length : Int)) (hn : R.flatten.Nodup) : SetsOk R := by
  refine ⟨ht, fun r hr => ?_, fun r hr => ?_, ?_, hr, hn⟩
  · obtain ⟨j, hj⟩ := List.mem_iff_getElem?.1 hr
    exact h.ne j r (List.getElem?_eq_some_iff.1 hj).1 hj
  · obtain ⟨j, hj⟩ := List.mem_iff_getElem?.1 hr
    exact h.asc j r (List.getElem?_eq_some_iff.1 hj).1 hj
  · rw [List.pairwise_map]
    have := (asc_pairwise (p := fun a b => decide (at0 a 0 < at0 b 0)) (R := R) fun a b d _ _ _ h h2 => by
      have := of_decide_eq_true h; have := of_decide_eq_true h2; exact decide_eq_true (by omega)).1 (asc_step.2 fun i a b ha hb => decide_eq_true (h.fst i a b (List.getElem?_eq_some_iff.1 hb).1 ha hb))
    exact this.imp fun h => of_decide_eq_true h
theorem SetsOk.len {R : Rws} (h : SetsOk R) : R.length ≤ 500 := Nat.le_trans (ne_len h.ne) h.tot
theorem SetsOk.fstAt {R : Rws} (h : SetsOk R) {i : Nat} {q r : Rw} (hq : R[i]? = some q) (hr : R[i + 1]? = some r) : at0 q 0 < at0 r 0 := by
  have := h.fst
  rw [List.pairwise_map, List.pairwise_iff_getElem] at this
  obtain ⟨h1, rfl⟩ := List.getElem?_eq_some_iff.1 hq
  obtain ⟨h2, rfl⟩ := List.getElem?_eq_some_iff.1 hr
  exact this i (i + 1) h1 h2 (by omega)
theorem flat_le {R : Rws} (i : Nat) : (R.take i).flatten.length ≤ R.flatten.length := by
  have : R.flatten = (R.take i).flatten ++ (R.drop i).flatten := by rw [← List.flatten_append, List.take_append_drop]
  rw [this, List.length_append]; omega
theorem flat_next {R : Rws} {i : Nat} {r : Rw} (h : R[i]? = some r) : (R.take (i + 1)).flatten = (R.take i).flatten ++ r := by
  rw [List.take_add_one, h]; simp
theorem setsB_no {R : Rws} (h : ¬ SetsOk R) : setsB R = false := Bool.eq_false_iff.2 fun e => h (sets_iff.1 e)
/-- Each number is less than the next one, as far as the k-th. -/
def AscTo (r : Rw) (k : Nat) : Prop := ∀ (j : Nat) a b, j + 1 < k → r[j]? = some a → r[j + 1]? = some b → a < b
theorem AscTo.all {r : Rw} (h : AscTo r r.length) : r.Pairwise (· < ·) := by
  have : ∀ (n j : Nat) a b, r[j]? = some a → r[j + 1 + n]? = some b → a < b := fun n => by
    induction n with
    | zero => exact fun j a b ha hb => h j a b (List.getElem?_eq_some_iff.1 hb).1 ha hb
    | succ n ih =>
      intro j a b ha hb
      have hlt := (List.getElem?_eq_some_iff.1 hb).1
      obtain ⟨c, hc⟩ := exists_at (l := r) (i := j + 1 + n) (by omega)
      have h1 := ih j a c ha hc
      have h2 := h (j + 1 + n) c b (by omega) hc (by rw [show j + 1 + n + 1 = j + 1 + (n + 1) by omega]; exact hb)
      omega
  rw [List.pairwise_iff_getElem]
  intro i j hi hj hij
  exact this (j - i - 1) i _ _ (List.getElem?_eq_getElem hi) (by rw [show i + 1 + (j - i - 1) = j by omega]; exact List.getElem?_eq_getElem hj)
theorem pw_at {r : Rw} (h : r.Pairwise (· < ·)) {j : Nat} {a b : Int} (ha : r[j]? = some a) (hb : r[j + 1]? = some b) : a < b := by
  rw [List.pairwise_iff_getElem] at h
  obtain ⟨h1, rfl⟩ := List.getElem?_eq_some_iff.1 ha
  obtain ⟨h2, rfl⟩ := List.getElem?_eq_some_iff.1 hb
  exact h j (j + 1) h1 h2 (by omega)
theorem at_zero {r : Rw} {x : Int} (h : r[0]? = some x) : at0 r 0 = x := at0_of h
set_option maxHeartbeats 1000000 in
theorem validSets_ok (R : Rws) (hw : ∀ r ∈ R, r.length ≤ 1000000) : FnOK Tryz.prog 52 [pS (rowsP R)] [] (.bq (setsB R)) [] := by
  by_cases hR : R.length ≤ 500
  case neg =>
    rw [setsB_no fun h => hR h.len]
    refine fn_ok T Tryz.func52 (by kernel_rfl) rfl rfl rfl rfl fun C hC => ?_
    repeat' first
      | refine g_go T hC true 400 rfl rfl ?_
      | (exfalso; first | (simp only [decide_eq_true_eq, decide_eq_false_iff_not, List.length_map, Bool.not_eq_true', Bool.not_eq_false'] at *; omega) | (simp at h; done))
      | refine g_cond rfl (fun h => ?_) (fun h => ?_)
      | refine g_end T hC (by kernel_rfl) ?_
      | refine g_splitD (fun h => ?_) (fun h => ?_)
      | refine g_splitG rfl rfl rfl (fun h => ?_) (fun h => ?_)
      | refine g_splitP rfl rfl (fun h => ?_) (fun h => ?_)
      | refine g_retl T (.inl rfl) rfl ?_
    all_goals rfl
  refine fn_ok T Tryz.func52 (by kernel_rfl) rfl rfl rfl rfl fun C hC => ?_
  repeat' first
    | refine g_go T hC true 400 rfl rfl ?_
    | (exfalso; first | (simp only [decide_eq_true_eq, decide_eq_false_iff_not, List.length_map, Bool.not_eq_true', Bool.not_eq_false'] at *; omega) | (simp at h; done))
    | refine g_cond rfl (fun h => ?_) (fun h => ?_)
    | refine g_end T hC (by kernel_rfl) ?_
    | refine g_splitD (fun h => ?_) (fun h => ?_)
    | refine g_splitG rfl rfl rfl (fun h => ?_) (fun h => ?_)
    | refine g_splitP rfl rfl (fun h => ?_) (fun h => ?_)
  rw [List.length_map]
  refine g_adopt hC rfl 101 1 rfl [(3, .one (.ar 101))] ⟨⟨_, rfl, AdS.nil⟩, trivial⟩ [] trivial ?_
  refine g_loop (fun i : Nat => i ≤ R.length ∧ RowsA R i ∧ (R.take i).flatten.length ≤ 500) (fun i => ([(0, pS (rowsP R)), (3, .one (.ar 101)), (12, pS (rowsP R)), (13, I R.length), (14, I i)], [(101, some (Res.arr 1 ((R.take i).flatten.map intR)))])) (fun i => R.length - i) hC
    0 ⟨Nat.zero_le _, RowsA.zero R, by simp⟩ id ⟨rfl, ⟨rfl, rfl, rfl, rfl, rfl, trivial⟩, ⟨rfl, trivial⟩, rfl, fun _ _ => rfl⟩ ?_
  clear h
  rintro i ⟨hi, hA, ht⟩
  refine g_run' T hC true 200 rfl ?_
  refine g_cond rfl (fun h => ?_) (fun h => ?_)
  · have hlt : i < R.length := by simpa using h
    clear h
    obtain ⟨r, hx⟩ := exists_at hlt
    have hfl := flat_next hx
    have hrw := hw r (List.mem_of_getElem? hx)
    cases r with
    | nil =>
      have hbad : ¬ SetsOk R := fun h => h.ne [] (List.mem_of_getElem? hx) rfl
      rw [setsB_no hbad]
      repeat' first
        | refine g_go T hC true 400 rfl rfl ?_
        | (exfalso; first | (simp only [decide_eq_true_eq, decide_eq_false_iff_not, List.length_map, Bool.not_eq_true', Bool.not_eq_false'] at *; omega) | (simp at h; done))
        | (exfalso; simp at h; done)
        | refine g_cond rfl (fun h => ?_) (fun h => ?_)
        | refine g_end T hC (by kernel_rfl) ?_
        | refine g_splitD (fun h => ?_) (fun h => ?_)
        | refine g_splitG rfl rfl rfl (fun h => ?_) (fun h => ?_)
        | refine g_splitP rfl rfl (fun h => ?_) (fun h => ?_)
        | refine g_idx T hC rfl rfl rfl (Int.natCast_nonneg _) (map_at hx) rfl rfl ?_
        | refine g_outR ?_
        | refine g_retl T (.inl rfl) rfl ?_
      all_goals rfl
    | cons x0 r0 =>
      generalize hr : x0 :: r0 = r at hx hfl hrw
      have hr0 : r[0]? = some x0 := by rw [← hr]; rfl
      have hrl : 0 < r.length := by rw [← hr]; simp
      have hne : r ≠ [] := by rw [← hr]; simp
      have hlm : ((R.take i).flatten.map intR).length = (R.take i).flatten.length := List.length_map _
      have w3 : IntKind.i64.wrap (((R.take i).flatten.length : Int) + (r.length : Int)) = ((R.take i).flatten.length : Int) + (r.length : Int) := wrap64 (by omega)
      by_cases h500 : (R.take i).flatten.length + r.length ≤ 500
      case neg =>
        have hbad : ¬ SetsOk R := fun h => h500 (by
          have := flat_le (R := R) (i + 1)
          rw [hfl, List.length_append] at this
          exact Nat.le_trans this h.tot)
        rw [setsB_no hbad]
        repeat' first
          | refine g_go T hC true 400 rfl rfl ?_
          | (exfalso; have h2 := of_decide_eq_false h; rw [List.length_map, List.length_map, w3] at h2; omega)
          | (exfalso; first | (simp only [decide_eq_true_eq, decide_eq_false_iff_not, List.length_map, Bool.not_eq_true', Bool.not_eq_false'] at *; omega) | (simp at h; done))
          | refine g_cond rfl (fun h => ?_) (fun h => ?_)
          | refine g_end T hC (by kernel_rfl) ?_
          | refine g_splitD (fun h => ?_) (fun h => ?_)
          | refine g_splitG rfl rfl rfl (fun h => ?_) (fun h => ?_)
          | refine g_splitP rfl rfl (fun h => ?_) (fun h => ?_)
          | refine g_idx T hC rfl rfl rfl (Int.natCast_nonneg _) (map_at hx) rfl rfl ?_
          | refine g_outR ?_
          | refine g_retl T (.inl rfl) rfl ?_
        all_goals rfl
      have hfst : ∀ q, 0 < i → R[i - 1]? = some q → ¬ at0 q 0 < at0 r 0 → ¬ SetsOk R := fun q h0 hq hn h => hn (h.fstAt hq (by rw [show i - 1 + 1 = i by omega]; exact hx))
      have w1 : IntKind.i64.wrap ((i : Int) - 1) = (i : Int) - 1 := wrap64 (by omega)
      by_cases hi0 : 0 < i ∧ ∃ q, R[i - 1]? = some q ∧ ¬ at0 q 0 < at0 r 0
      · obtain ⟨h0, q, hq, hn⟩ := hi0
        rw [setsB_no (hfst q h0 hq hn)]
        have hq' : R[((i : Int) - 1).toNat]? = some q := by rw [show ((i : Int) - 1).toNat = i - 1 by omega]; exact hq
        have hqn : q ≠ [] := hA.ne (i - 1) q (by omega) hq
        obtain ⟨y0, hy⟩ := exists_at (l := q) (i := 0) (List.length_pos_iff.2 hqn)
        rw [at_zero hr0, at_zero hy] at hn
        repeat' first
          | refine g_go T hC true 400 rfl rfl ?_
          | (exfalso; have h2 := of_decide_eq_true h; rw [List.length_map, List.length_map, w3] at h2; omega)
          | (exfalso; first | (simp only [decide_eq_true_eq, decide_eq_false_iff_not, List.length_map, Bool.not_eq_true', Bool.not_eq_false'] at *; omega) | (simp at h; done))
          | refine g_cond rfl (fun h => ?_) (fun h => ?_)
          | refine g_end T hC (by kernel_rfl) ?_
          | refine g_splitD (fun h => ?_) (fun h => ?_)
          | refine g_splitG rfl rfl rfl (fun h => ?_) (fun h => ?_)
          | refine g_splitP rfl rfl (fun h => ?_) (fun h => ?_)
          | refine g_idx T hC rfl rfl rfl (Int.natCast_nonneg _) (map_at hx) rfl rfl ?_
          | (rw [w1]; refine g_idx T hC rfl rfl rfl (by omega) (map_atI hq') rfl rfl ?_)
          | refine g_idx T hC (rows := q.map intR) rfl rfl rfl (by decide) (map_atI hy) rfl rfl ?_
          | refine g_idx T hC (rows := r.map intR) rfl rfl rfl (by decide) (map_atI hr0) rfl rfl ?_
          | refine g_outR ?_
          | refine g_retl T (.inl rfl) rfl ?_
        all_goals rfl
      have hstep : ∀ q, 0 < i → R[i - 1]? = some q → at0 q 0 < at0 r 0 := fun q h0 hq => by
        by_cases h : at0 q 0 < at0 r 0
        · exact h
        · exact absurd ⟨h0, q, hq, h⟩ hi0
      by_cases h0 : 0 < i
      · obtain ⟨q, hq⟩ := exists_at (l := R) (i := i - 1) (by omega)
        have hlt2 := hstep q h0 hq
        have hq' : R[((i : Int) - 1).toNat]? = some q := by rw [show ((i : Int) - 1).toNat = i - 1 by omega]; exact hq
        have hqn : q ≠ [] := hA.ne (i - 1) q (by omega) hq
        obtain ⟨y0, hy⟩ := exists_at (l := q) (i := 0) (List.length_pos_iff.2 hqn)
        rw [at_zero hr0, at_zero hy] at hlt2
        repeat' first
          | refine g_go T hC true 400 rfl rfl ?_
          | (exfalso; have h2 := of_decide_eq_true h; rw [List.length_map, List.length_map, w3] at h2; omega)
          | (exfalso; first | (simp only [decide_eq_true_eq, decide_eq_false_iff_not, List.length_map, Bool.not_eq_true', Bool.not_eq_false'] at *; omega) | (simp at h; done))
          | refine g_cond rfl (fun h => ?_) (fun h => ?_)
          | refine g_end T hC (by kernel_rfl) ?_
          | refine g_splitD (fun h => ?_) (fun h => ?_)
          | refine g_splitG rfl rfl rfl (fun h => ?_) (fun h => ?_)
          | refine g_splitP rfl rfl (fun h => ?_) (fun h => ?_)
          | refine g_idx T hC rfl rfl rfl (Int.natCast_nonneg _) (map_at hx) rfl rfl ?_
          | (rw [w1]; refine g_idx T hC rfl rfl rfl (by omega) (map_atI hq') rfl rfl ?_)
          | refine g_idx T hC (rows := q.map intR) rfl rfl rfl (by decide) (map_atI hy) rfl rfl ?_
          | refine g_idx T hC (rows := r.map intR) rfl rfl rfl (by decide) (map_atI hr0) rfl rfl ?_
        refine g_loop (fun k : Nat => 1 ≤ k ∧ k ≤ r.length ∧ AscTo r k) (fun k => ([(0, pS (rowsP R)), (3, .one (.ar 101)), (5, pS (intsP r)), (6, I k), (12, pS (rowsP R)), (13, I R.length), (14, I i)], [(101, some (Res.arr 1 ((R.take i).flatten.map intR)))])) (fun k => r.length - k) hC
          1 ⟨Nat.le_refl _, hrl, fun j a b hj => absurd hj (by omega)⟩ id ⟨rfl, ⟨rfl, rfl, rfl, rfl, rfl, rfl, rfl, trivial⟩, ⟨rfl, trivial⟩, rfl, fun _ _ => rfl⟩ ?_
        clear h
        rintro k ⟨hk1, hkl, hka⟩
        refine g_run' T hC true 200 rfl ?_
        refine g_cond rfl (fun h => ?_) (fun h => ?_)
        · have hkt : k < r.length := by simpa using h
          clear h
          obtain ⟨a, ha⟩ := exists_at (l := r) (i := k - 1) (by omega)
          obtain ⟨b, hb⟩ := exists_at hkt
          have w2 : IntKind.i64.wrap ((k : Int) - 1) = (k : Int) - 1 := wrap64 (by omega)
          have ha' : r[((k : Int) - 1).toNat]? = some a := by rw [show ((k : Int) - 1).toNat = k - 1 by omega]; exact ha
          repeat' first
            | refine g_go T hC true 400 rfl rfl ?_
            | refine g_cond rfl (fun h => ?_) (fun h => ?_)
            | refine g_end T hC (by kernel_rfl) ?_
            | refine g_splitD (fun h => ?_) (fun h => ?_)
            | refine g_splitG rfl rfl rfl (fun h => ?_) (fun h => ?_)
            | refine g_splitP rfl rfl (fun h => ?_) (fun h => ?_)
            | (rw [w2]; refine g_idx T hC rfl rfl rfl (by omega) (map_atI ha') rfl rfl ?_)
            | refine g_idx T hC rfl rfl rfl (Int.natCast_nonneg _) (map_at hb) rfl rfl ?_
            | refine g_outR ?_
            | refine g_outR ?_
            | refine g_retl T (.inl rfl) rfl ?_
          · have hge := of_decide_eq_true h
            rw [setsB_no fun hS => absurd (pw_at (hS.asc r (List.mem_of_getElem? hx)) ha (by rw [show k - 1 + 1 = k by omega]; exact hb)) (by omega)]
          · have hlt3 := of_decide_eq_false h
            rw [wrapS (by omega)]
            refine g_round (k + 1) ⟨by omega, by omega, fun j c d hj hc hd => ?_⟩ id (by omega) ⟨rfl, ⟨rfl, rfl, rfl, rfl, rfl, rfl, rfl, trivial⟩, ⟨rfl, trivial⟩, rfl, fun _ _ => rfl⟩
            rcases Nat.lt_or_ge (j + 1) k with h1 | h1
            · exact hka j c d h1 hc hd
            · obtain rfl : k = j + 1 := by omega
              rw [show j + 1 - 1 = j by omega, hc] at ha
              rw [hd] at hb
              obtain rfl := Option.some.inj ha
              obtain rfl := Option.some.inj hb
              omega
        · have hge : ¬ k < r.length := by simpa using h
          have hkr : k = r.length := by omega
          subst hkr
          clear h
          repeat' first
            | refine g_go T hC true 400 rfl rfl ?_
            | refine g_cond rfl (fun h => ?_) (fun h => ?_)
            | refine g_end T hC (by kernel_rfl) ?_
            | refine g_splitD (fun h => ?_) (fun h => ?_)
            | refine g_splitG rfl rfl rfl (fun h => ?_) (fun h => ?_)
            | refine g_splitP rfl rfl (fun h => ?_) (fun h => ?_)
            | refine g_outE ?_
            | (refine g_append T 102 hC (rows := (R.take i).flatten.map intR) (rows2 := r.map intR) (rows3 := (R.take (i + 1)).flatten.map intR) (bytes := 8) rfl rfl rfl rfl (SrcS.sl (T.es_ok _ _ rfl)) (by rw [hfl, List.map_append]) rfl rfl rfl (by kernel_rfl) (by simp only [List.length_map]; omega) (by simp only [List.length_map]; omega) rfl rfl rfl ?_)
          rw [wrapS (by omega)]
          exact g_round (i + 1) ⟨by omega, hA.next hx hne hka.all hstep, by rw [hfl, List.length_append]; exact h500⟩ (mvU 101 102) (by omega) ⟨rfl, ⟨rfl, rfl, rfl, rfl, rfl, trivial⟩, ⟨rfl, trivial⟩, rfl, fun i hi => mvU_low (by omega) hi⟩
      · repeat' first
          | refine g_go T hC true 400 rfl rfl ?_
          | (exfalso; have h2 := of_decide_eq_true h; rw [List.length_map, List.length_map, w3] at h2; omega)
          | (exfalso; first | (simp only [decide_eq_true_eq, decide_eq_false_iff_not, List.length_map, Bool.not_eq_true', Bool.not_eq_false'] at *; omega) | (simp at h; done))
          | refine g_cond rfl (fun h => ?_) (fun h => ?_)
          | refine g_end T hC (by kernel_rfl) ?_
          | refine g_splitD (fun h => ?_) (fun h => ?_)
          | refine g_splitG rfl rfl rfl (fun h => ?_) (fun h => ?_)
          | refine g_splitP rfl rfl (fun h => ?_) (fun h => ?_)
          | refine g_idx T hC rfl rfl rfl (Int.natCast_nonneg _) (map_at hx) rfl rfl ?_
        refine g_loop (fun k : Nat => 1 ≤ k ∧ k ≤ r.length ∧ AscTo r k) (fun k => ([(0, pS (rowsP R)), (3, .one (.ar 101)), (5, pS (intsP r)), (6, I k), (12, pS (rowsP R)), (13, I R.length), (14, I i)], [(101, some (Res.arr 1 ((R.take i).flatten.map intR)))])) (fun k => r.length - k) hC
          1 ⟨Nat.le_refl _, hrl, fun j a b hj => absurd hj (by omega)⟩ id ⟨rfl, ⟨rfl, rfl, rfl, rfl, rfl, rfl, rfl, trivial⟩, ⟨rfl, trivial⟩, rfl, fun _ _ => rfl⟩ ?_
        clear h
        rintro k ⟨hk1, hkl, hka⟩
        refine g_run' T hC true 200 rfl ?_
        refine g_cond rfl (fun h => ?_) (fun h => ?_)
        · have hkt : k < r.length := by simpa using h
          clear h
          obtain ⟨a, ha⟩ := exists_at (l := r) (i := k - 1) (by omega)
          obtain ⟨b, hb⟩ := exists_at hkt
          have w2 : IntKind.i64.wrap ((k : Int) - 1) = (k : Int) - 1 := wrap64 (by omega)
          have ha' : r[((k : Int) - 1).toNat]? = some a := by rw [show ((k : Int) - 1).toNat = k - 1 by omega]; exact ha
          repeat' first
            | refine g_go T hC true 400 rfl rfl ?_
            | refine g_cond rfl (fun h => ?_) (fun h => ?_)
            | refine g_end T hC (by kernel_rfl) ?_
            | refine g_splitD (fun h => ?_) (fun h => ?_)
            | refine g_splitG rfl rfl rfl (fun h => ?_) (fun h => ?_)
            | refine g_splitP rfl rfl (fun h => ?_) (fun h => ?_)
            | (rw [w2]; refine g_idx T hC rfl rfl rfl (by omega) (map_atI ha') rfl rfl ?_)
            | refine g_idx T hC rfl rfl rfl (Int.natCast_nonneg _) (map_at hb) rfl rfl ?_
            | refine g_outR ?_
            | refine g_outR ?_
            | refine g_retl T (.inl rfl) rfl ?_
          · have hge := of_decide_eq_true h
            rw [setsB_no fun hS => absurd (pw_at (hS.asc r (List.mem_of_getElem? hx)) ha (by rw [show k - 1 + 1 = k by omega]; exact hb)) (by omega)]
          · have hlt3 := of_decide_eq_false h
            rw [wrapS (by omega)]
            refine g_round (k + 1) ⟨by omega, by omega, fun j c d hj hc hd => ?_⟩ id (by omega) ⟨rfl, ⟨rfl, rfl, rfl, rfl, rfl, rfl, rfl, trivial⟩, ⟨rfl, trivial⟩, rfl, fun _ _ => rfl⟩
            rcases Nat.lt_or_ge (j + 1) k with h1 | h1
            · exact hka j c d h1 hc hd
            · obtain rfl : k = j + 1 := by omega
              rw [show j + 1 - 1 = j by omega, hc] at ha
              rw [hd] at hb
              obtain rfl := Option.some.inj ha
              obtain rfl := Option.some.inj hb
              omega
        · have hge : ¬ k < r.length := by simpa using h
          have hkr : k = r.length := by omega
          subst hkr
          clear h
          repeat' first
            | refine g_go T hC true 400 rfl rfl ?_
            | refine g_cond rfl (fun h => ?_) (fun h => ?_)
            | refine g_end T hC (by kernel_rfl) ?_
            | refine g_splitD (fun h => ?_) (fun h => ?_)
            | refine g_splitG rfl rfl rfl (fun h => ?_) (fun h => ?_)
            | refine g_splitP rfl rfl (fun h => ?_) (fun h => ?_)
            | refine g_outE ?_
            | (refine g_append T 102 hC (rows := (R.take i).flatten.map intR) (rows2 := r.map intR) (rows3 := (R.take (i + 1)).flatten.map intR) (bytes := 8) rfl rfl rfl rfl (SrcS.sl (T.es_ok _ _ rfl)) (by rw [hfl, List.map_append]) rfl rfl rfl (by kernel_rfl) (by simp only [List.length_map]; omega) (by simp only [List.length_map]; omega) rfl rfl rfl ?_)
          rw [wrapS (by omega)]
          exact g_round (i + 1) ⟨by omega, hA.next hx hne hka.all hstep, by rw [hfl, List.length_append]; exact h500⟩ (mvU 101 102) (by omega) ⟨rfl, ⟨rfl, rfl, rfl, rfl, rfl, trivial⟩, ⟨rfl, trivial⟩, rfl, fun i hi => mvU_low (by omega) hi⟩
  · have hge : ¬ i < R.length := by simpa using h
    have hiR : i = R.length := by omega
    subst hiR
    rw [List.take_length] at ht ⊢
    clear h
    have hS := sort_ok R.flatten (by omega)
    have hsl := sortI_len R.flatten
    have hres : setsB R = decide (sortI R.flatten = rangeI R.flatten.length) := by
      rw [Bool.eq_iff_iff, sets_iff, decide_eq_true_eq, sort_range]
      exact ⟨fun h => ⟨h.rng, h.nd⟩, fun h => SetsOk.of hA ht h.1 h.2⟩
    rw [hres]
    repeat' first
      | refine g_go T hC true 400 rfl rfl ?_
      | refine g_cond rfl (fun h => ?_) (fun h => ?_)
      | refine g_end T hC (by kernel_rfl) ?_
      | refine g_splitD (fun h => ?_) (fun h => ?_)
      | refine g_splitG rfl rfl rfl (fun h => ?_) (fun h => ?_)
      | refine g_splitP rfl rfl (fun h => ?_) (fun h => ?_)
      | refine g_outE ?_
      | (refine g_callR hC hS (nm [101]) rfl rfl (LeSs.refl _) rfl rfl rfl rfl rfl rfl rfl rfl ?_; refine g_freeze rfl (id := 101) (e := 1) (rows := (sortI R.flatten).map intR) rfl [(3, pS (intsP (sortI R.flatten)))] ⟨⟨_, rfl, FrS.ar⟩, trivial⟩ [] trivial ?_)
    rw [List.length_map, hsl]
    refine g_loop (fun i : Nat => i ≤ R.flatten.length ∧ (sortI R.flatten).take i = (rangeI R.flatten.length).take i) (fun i => ([(69, pS (intsP (sortI R.flatten))), (70, I R.flatten.length), (71, I i)], [])) (fun i => R.flatten.length - i) hC
      0 ⟨Nat.zero_le _, by simp⟩ id ⟨rfl, ⟨rfl, rfl, rfl, trivial⟩, trivial, rfl, fun _ _ => rfl⟩ ?_
    clear hS hA hi hge
    rintro i ⟨hi, hn⟩
    refine g_run' T hC true 200 rfl ?_
    refine g_cond rfl (fun h => ?_) (fun h => ?_)
    · have hlt : i < R.flatten.length := by simpa using h
      clear h
      obtain ⟨x, hx⟩ := exists_at (l := sortI R.flatten) (i := i) (by omega)
      have hy := rangeI_at hlt
      repeat' first
        | refine g_go T hC true 400 rfl rfl ?_
        | refine g_cond rfl (fun h => ?_) (fun h => ?_)
        | refine g_end T hC (by kernel_rfl) ?_
        | refine g_splitD (fun h => ?_) (fun h => ?_)
        | refine g_splitG rfl rfl rfl (fun h => ?_) (fun h => ?_)
        | refine g_splitP rfl rfl (fun h => ?_) (fun h => ?_)
        | refine g_idx T hC rfl rfl rfl (Int.natCast_nonneg _) (map_at hx) rfl rfl ?_
        | refine g_outR ?_
        | refine g_retl T (.inl rfl) rfl ?_
      · have hxy : ¬ x = (i : Int) := by simpa using h
        exact (decide_eq_false fun e => hxy (by rw [e, hy] at hx; exact (Option.some.inj hx).symm)).symm
      · have hxy : x = (i : Int) := by simpa using h
        subst hxy
        rw [wrapS (by omega)]
        exact g_round (i + 1) ⟨by omega, take_eqT hx hy hn⟩ id (by omega) ⟨rfl, ⟨rfl, rfl, rfl, trivial⟩, trivial, rfl, fun _ _ => rfl⟩
    · have hge : ¬ i < R.flatten.length := by simpa using h
      repeat' first
        | refine g_go T hC true 400 rfl rfl ?_
        | refine g_cond rfl (fun h => ?_) (fun h => ?_)
        | refine g_end T hC (by kernel_rfl) ?_
        | refine g_splitD (fun h => ?_) (fun h => ?_)
        | refine g_splitG rfl rfl rfl (fun h => ?_) (fun h => ?_)
        | refine g_splitP rfl rfl (fun h => ?_) (fun h => ?_)
        | refine g_outE ?_
        | refine g_retl T (.inl rfl) rfl ?_
      rw [List.take_of_length_le (by omega), List.take_of_length_le (by rw [rangeI_len]; omega)] at hn
      exact (decide_eq_true hn).symm
end Hw.Mq
namespace Hw.Mq
open Go Go.Proofs Go.Shelf Hw.M

/-! models: the reference's partitions; Valid -/
def boR (b : Bool) : List PV := [.k (.bool b)]
def seenL (n : Nat) (Pd : List Int) : List (List PV) := (List.range n).map fun v : Nat => boR (decide ((v : Int) ∈ Pd))
theorem seenL_len (n : Nat) (Pd : List Int) : (seenL n Pd).length = n := by simp [seenL]
theorem seenL_at {n : Nat} {Pd : List Int} {x : Int} (h0 : 0 ≤ x) (h1 : x < (n : Int)) : (seenL n Pd)[x.toNat]? = some (boR (decide (x ∈ Pd))) := by
  have : x.toNat < n := by omega
  simp only [seenL, List.getElem?_map, List.getElem?_range this, Option.map_some]
  rw [show ((x.toNat : Nat) : Int) = x by omega]
theorem seenL_nil (n : Nat) : seenL n [] = List.replicate n (boR false) := by
  rw [seenL, List.eq_replicate_iff]
  refine ⟨by simp, fun b hb => ?_⟩
  obtain ⟨v, _, rfl⟩ := List.mem_map.1 hb
  simp
theorem seenL_set {n : Nat} {Pd : List Int} {x : Int} (h0 : 0 ≤ x) (h1 : x < (n : Int)) : (seenL n Pd).set x.toNat (boR true) = seenL n (Pd ++ [x]) := by
  refine List.ext_getElem? fun j => ?_
  rcases Nat.lt_or_ge j n with hj | hj
  · by_cases hx : x.toNat = j
    · subst hx
      rw [List.getElem?_set_self (by rw [seenL_len]; exact hj)]
      simp only [seenL, List.getElem?_map, List.getElem?_range hj, Option.map_some]
      rw [show ((x.toNat : Nat) : Int) = x by omega, decide_eq_true (by simp)]
    · rw [List.getElem?_set_ne hx]
      simp only [seenL, List.getElem?_map, List.getElem?_range hj, Option.map_some]
      have : ((j : Int) ∈ Pd ++ [x]) ↔ (j : Int) ∈ Pd := by
        simp only [List.mem_append, List.mem_singleton]
        constructor
        · rintro (h | h)
          · exact h
          · omega
        · exact .inl
      rw [decide_eq_decide.2 this]
  · rw [List.getElem?_eq_none (by rw [List.length_set, seenL_len]; exact hj), List.getElem?_eq_none (by rw [seenL_len]; exact hj)]
theorem take_flat_sub {R : Rws} {i k : Nat} {r : Rw} (h : R[i]? = some r) : ((R.take i).flatten ++ r.take k).Sublist R.flatten := by
  have e : R.flatten = (R.take i).flatten ++ (r ++ (R.drop (i + 1)).flatten) := by
    have e1 : R = R.take i ++ r :: R.drop (i + 1) := by
      obtain ⟨hi, rfl⟩ := List.getElem?_eq_some_iff.1 h
      rw [← List.drop_eq_getElem_cons hi, List.take_append_drop]
    conv => lhs; rw [e1]
    rw [List.flatten_append, List.flatten_cons]
  rw [e]
  exact (List.Sublist.refl _).append ((List.take_sublist k r).trans (List.sublist_append_left _ _))
theorem takeS {r : Rw} {k : Nat} {x : Int} (h : r[k]? = some x) : r.take (k + 1) = r.take k ++ [x] := by rw [List.take_add_one, h]; rfl
end Hw.Mq
