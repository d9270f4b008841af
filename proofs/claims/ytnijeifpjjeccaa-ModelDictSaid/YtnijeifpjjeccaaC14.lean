/- The engine and the contracts. -/
import Derived.Test.YtnijeifpjjeccaaC13
set_option linter.unusedVariables false
set_option linter.unusedSimpArgs false
namespace Hw.Mo
open Go Go.Proofs Go.Shelf Hw.M

/-! models: the chapter's example; queries -/
def awkL : List OpT := [⟨1, [3, 10]⟩, ⟨1, [1, 7]⟩, ⟨1, [3, 11]⟩, ⟨7, [1]⟩, ⟨6, [3]⟩, ⟨4, [2]⟩, ⟨4, [0]⟩]
def awkR : List RsT := [⟨0, 0⟩, ⟨0, 0⟩, ⟨0, 1⟩, ⟨0, 3⟩, ⟨0, 1⟩, ⟨0, 1⟩, ⟨12, 0⟩]
theorem awake_ok : FnOK Try.prog 11 [] [] (.bq true) [] := by
  have hN := new_ok (k := 1) (by decide)
  have hRun := mRun_yes 1 [] awkL (by decide) (by decide) (by decide)
  have e : runS 1 [] awkL = ([[1, 7], [3, 11]], awkR) := by decide
  rw [e] at hRun
  have hS := rSame_ok 1 1 [[1, 7], [3, 11]] [[1, 7], [3, 11]]
  have e2 : (decide ((1 : Int) = 1) && decide (([[1, 7], [3, 11]] : Rws) = [[1, 7], [3, 11]])) = true := by decide
  rw [e2] at hS
  have hQ := sameResults_ok awkR awkR
  rw [decide_eq_true (rfl : awkR = awkR)] at hQ
  refine fn_ok T Try.func11 (by kernel_rfl) rfl rfl rfl rfl fun C hC => ?_
  repeat' first
    | refine g_go T hC true 400 rfl rfl ?_
    | (exfalso; simp at h; done)
    | refine g_cond rfl (fun h => ?_) (fun h => ?_)
    | refine g_end T hC (by kernel_rfl) ?_
    | refine g_splitD (fun h => ?_) (fun h => ?_)
    | refine g_splitG rfl rfl rfl (fun h => ?_) (fun h => ?_)
    | refine g_splitP rfl rfl (fun h => ?_) (fun h => ?_)
    | refine g_call hC (hN) rfl rfl (LeSs.refl _) rfl rfl rfl ?_
    | refine g_lit T hC rfl rfl rfl rfl rfl rfl rfl rfl rfl ?_
    | refine g_call hC (op_ok 1 [3, 10]) rfl rfl (LeSs.refl _) rfl rfl rfl ?_
    | refine g_call hC (op_ok 1 [1, 7]) rfl rfl (LeSs.refl _) rfl rfl rfl ?_
    | refine g_call hC (op_ok 1 [3, 11]) rfl rfl (LeSs.refl _) rfl rfl rfl ?_
    | refine g_call hC (op_ok 7 [1]) rfl rfl (LeSs.refl _) rfl rfl rfl ?_
    | refine g_call hC (op_ok 6 [3]) rfl rfl (LeSs.refl _) rfl rfl rfl ?_
    | refine g_call hC (op_ok 4 [2]) rfl rfl (LeSs.refl _) rfl rfl rfl ?_
    | refine g_call hC (op_ok 4 [0]) rfl rfl (LeSs.refl _) rfl rfl rfl ?_
    | refine g_call hC (hRun) rfl rfl (LeSs.refl _) rfl rfl rfl ?_
    | refine g_call hC (hS) rfl rfl (LeSs.refl _) rfl rfl rfl ?_
    | refine g_call hC (hQ) rfl rfl (LeSs.refl _) rfl rfl rfl ?_
  all_goals exact g_fin ⟨.inl rfl, id, _, rfl, by first | exact .refl _ | exact LeS.qb rfl, trivial, rfl, rfl⟩
theorem ask_ok (k : Int) (R : Rws) (c : Int) (l : List Int) (x : RsT) (hv : validS k R = true) (ho : okOp k ⟨c, l⟩ = true) (he : stepS k R ⟨c, l⟩ = (R, x)) :
    FnOK Try.prog 16 [aggS (stR k R), I c, pS (intsP l)] [] (.tup [aggS (rsR x), .bq true]) [] := by
  have hA := mApply_yes k R ⟨c, l⟩ hv ho
  rw [he] at hA
  have hS := mSame_ok k k R R
  rw [show (decide (k = k) && decide (R = R)) = true by simp] at hS
  have hO := op_ok c l
  refine fn_ok T Try.func16 (by kernel_rfl) rfl rfl rfl rfl fun C hC => ?_
  repeat' first
    | refine g_go T hC true 400 rfl rfl ?_
    | (exfalso; simp at h; done)
    | refine g_cond rfl (fun h => ?_) (fun h => ?_)
    | refine g_end T hC (by kernel_rfl) ?_
    | refine g_splitD (fun h => ?_) (fun h => ?_)
    | refine g_splitG rfl rfl rfl (fun h => ?_) (fun h => ?_)
    | refine g_splitP rfl rfl (fun h => ?_) (fun h => ?_)
    | refine g_call hC (hO) rfl rfl (LeSs.refl _) rfl rfl rfl ?_
    | refine g_call hC (hA) rfl rfl (LeSs.refl _) rfl rfl rfl ?_
    | refine g_call hC (hS) rfl rfl (LeSs.refl _) rfl rfl rfl ?_
  all_goals exact g_fin ⟨.inl rfl, id, _, rfl, by first | exact .refl _ | exact LeS.tup (.cons (.refl _) (.cons (LeS.qb rfl) .nil)), trivial, rfl, rfl⟩
end Hw.Mo
namespace Hw.Mo
open Go Go.Proofs Go.Shelf Hw.M

/-! models: keys of a dictionary, plain -/
def keyI (R : Rws) (i : Nat) : Int := at0 (rowA R i) 0
theorem key_below {R : Rws} (h : TabOk 2 (ltC 1) R) (k : Int) {i : Nat} (hi : i < R.length) : keyI R i < k ↔ i < posC 1 R [k] := by
  have hr := rowA_lt hi
  have hm := List.mem_of_getElem? hr
  have hne : rowA R i ≠ [] := fun e => by have := h.wide _ hm; rw [e] at this; simp at this
  have hk : ltC 1 (rowA R i) [k] = decide (keyI R i < k) := by rw [ltC_one hne (by simp)]; rfl
  have hsp := posC_spec h pos_lt [k]
  constructor
  · intro hlt
    rcases Nat.lt_or_ge i (posC 1 R [k]) with h1 | h1
    · exact h1
    · have : rowA R i ∈ R.drop (posC 1 R [k]) := by
        refine List.mem_of_getElem? (i := i - posC 1 R [k]) ?_
        rw [List.getElem?_drop, show posC 1 R [k] + (i - posC 1 R [k]) = i by omega]; exact hr
      have := hsp.2 _ this
      rw [hk, decide_eq_false_iff_not] at this
      exact absurd hlt this
  · intro h1
    have : rowA R i ∈ R.take (posC 1 R [k]) := by
      refine List.mem_of_getElem? (i := i) ?_
      rw [List.getElem?_take, if_pos h1]; exact hr
    have := hsp.1 _ this
    rw [hk, decide_eq_true_eq] at this
    exact this
theorem key_has {R : Rws} (h : TabOk 2 (ltC 1) R) (k : Int) : hasC 1 R [k] = true ↔ posC 1 R [k] < R.length ∧ keyI R (posC 1 R [k]) = k := by
  constructor
  · intro hq
    obtain ⟨r, hr, hlt, hk⟩ := hasC_yes hq
    refine ⟨hlt, ?_⟩
    unfold keyI
    rw [rowA_of hr]
    obtain ⟨x, y, rfl⟩ := len2 (h.wide r (List.mem_of_getElem? hr))
    simpa [at0] using hk
  · rintro ⟨hlt, hk⟩
    have hr := rowA_lt hlt
    unfold hasC
    rw [hr]
    obtain ⟨x, y, e⟩ := len2 (h.wide _ (List.mem_of_getElem? hr))
    unfold keyI at hk
    rw [e] at hk ⊢
    simpa [at0] using hk
theorem key_asc {R : Rws} (h : TabOk 2 (ltC 1) R) {i j : Nat} (hij : i < j) (hj : j < R.length) : keyI R i < keyI R j := by
  rw [key_below h _ (by omega : i < R.length)]
  rcases Nat.lt_or_ge i (posC 1 R [keyI R j]) with h1 | h1
  · exact h1
  · exfalso
    have hi := rowA_lt (by omega : i < R.length)
    have hjr := rowA_lt hj
    have := h.asc
    rw [List.pairwise_iff_getElem] at this
    obtain ⟨g1, g2⟩ := List.getElem?_eq_some_iff.1 hi
    obtain ⟨g3, g4⟩ := List.getElem?_eq_some_iff.1 hjr
    have h2 := this i j g1 g3 hij
    rw [g2, g4] at h2
    have hni : rowA R i ≠ [] := fun e => by have := h.wide _ (List.mem_of_getElem? hi); rw [e] at this; simp at this
    have hnj : rowA R j ≠ [] := fun e => by have := h.wide _ (List.mem_of_getElem? hjr); rw [e] at this; simp at this
    rw [ltC_one hni hnj, decide_eq_true_eq] at h2
    have := (key_below h (keyI R j) (by omega : i < R.length)).1 h2
    omega
theorem key_rank {R : Rws} (h : TabOk 2 (ltC 1) R) {i : Nat} (hi : i < R.length) : posC 1 R [keyI R i] = i ∧ hasC 1 R [keyI R i] = true := by
  have h1 : posC 1 R [keyI R i] = i := by
    rcases Nat.lt_trichotomy (posC 1 R [keyI R i]) i with h2 | h2 | h2
    · exfalso
      have := key_asc h h2 hi
      rw [key_below h _ (by omega)] at this
      omega
    · exact h2
    · exfalso
      have := (key_below h (keyI R i) hi).2 h2
      omega
  refine ⟨h1, (key_has h _).2 ?_⟩
  rw [h1]
  exact ⟨hi, rfl⟩
end Hw.Mo
namespace Hw.Mo
open Go Go.Proofs Go.Shelf Hw.M

/-! models: what the queries of a dictionary answer -/
theorem step1 (R : Rws) (o : OpT) : stepS 1 R o = dictS R o := rfl
theorem dict_size (R : Rws) : stepS 1 R ⟨8, []⟩ = (R, okR R.length) := rfl
theorem dict_sel {R : Rws} {i : Nat} (hi : i < R.length) : stepS 1 R ⟨7, [(i : Int)]⟩ = (R, okR (keyI R i)) := by
  rw [step1]
  simp only [dictS]
  rw [if_neg (by decide), if_pos trivial]
  exact if_pos (show 0 ≤ (i : Int) ∧ (i : Int) < R.length by omega)
theorem dict_rank (R : Rws) (k : Int) : stepS 1 R ⟨6, [k]⟩ = (R, okR (posC 1 R [k])) := by
  rw [step1]; simp [dictS]
theorem dict_get {R : Rws} {k : Int} (h : hasC 1 R [k] = true) : stepS 1 R ⟨2, [k]⟩ = (R, okR (at0 (rowA R (posC 1 R [k])) 1)) := by
  rw [step1]; simp [dictS, h]
theorem dict_floor (R : Rws) (k : Int) : stepS 1 R ⟨4, [k]⟩ = (R, if hasC 1 R [k] = true then okR k else if posC 1 R [k] = 0 then erR 12 else okR (keyI R (posC 1 R [k] - 1))) := by
  rw [step1]
  simp only [dictS]
  rw [if_neg (by decide), if_neg (by decide), if_neg (by decide), if_neg (by decide), if_pos trivial]
  split
  · rfl
  · split <;> rfl
theorem dict_ceil (R : Rws) (k : Int) : stepS 1 R ⟨5, [k]⟩ = (R, if posC 1 R [k] = R.length then erR 12 else okR (keyI R (posC 1 R [k]))) := by
  rw [step1]
  simp only [dictS]
  rw [if_neg (by decide), if_neg (by decide), if_neg (by decide), if_neg (by decide), if_neg (by decide), if_pos trivial]
  split <;> rfl
theorem dict_len {R : Rws} {o : OpT} : (dictS R o).1.length ≤ R.length + 1 := by
  unfold dictS
  simp only
  repeat' first | (simp only; omega) | (simp only [List.length_set]; omega) | (simp only [insR_len (posC_le _ _ _)]; omega) | (have := erase_le' R (posC 1 R o.args); simp only; omega) | split
theorem run_le1 : ∀ (l : List OpT) (R : Rws), (runS 1 R l).1.length ≤ R.length + l.length
  | [], R => by simp [runS]
  | o :: l, R => by
    have h1 := run_le1 l (stepS 1 R o).1
    have h2 : (stepS 1 R o).1.length ≤ R.length + 1 := dict_len
    simp only [runS, List.length_cons]
    omega
theorem ins_row' {R : Rws} {j : Nat} (x : Rw) (h : j ≤ R.length) : (insR R j x)[j]? = some x := by
  unfold insR
  rw [List.getElem?_append_right (by rw [List.length_take]; omega), List.length_take, Nat.min_eq_left h, Nat.sub_self]; rfl
/-- What was put is found. -/
theorem put_get {R : Rws} (h : TabOk 2 (ltC 1) R) (k v : Int) (hR : R.length < 500) : ∃ R' x, stepS 1 R ⟨1, [k, v]⟩ = (R', x) ∧ R'[posC 1 R [k]]? = some [k, v] := by
  have hp : posC 1 R [k, v] = posC 1 R [k] := (posC_key 1 R [k, v]).symm
  have hh : hasC 1 R [k, v] = hasC 1 R [k] := (hasC_key 1 R [k, v]).symm
  have h5 : ¬ R.length = 500 := by omega
  cases hq : hasC 1 R [k] with
  | true =>
    obtain ⟨hlt, hk⟩ := (key_has h k).1 hq
    have hr := rowA_lt hlt
    obtain ⟨x, y, e⟩ := len2 (h.wide _ (List.mem_of_getElem? hr))
    have hx : x = k := by unfold keyI at hk; rw [e] at hk; simpa [at0] using hk
    refine ⟨R.set (posC 1 R [k]) ((rowA R (posC 1 R [k])).set 1 v), okR 1, by rw [step1]; simp [dictS, hp, hh, hq, at0], ?_⟩
    rw [List.getElem?_set_self hlt, e, hx]; rfl
  | false =>
    exact ⟨insR R (posC 1 R [k]) [k, v], okR 0, by rw [step1]; simp [dictS, hp, hh, hq, h5], ins_row' [k, v] (posC_le _ _ _)⟩
end Hw.Mo
namespace Hw.Mo
open Go Go.Proofs Go.Shelf Hw.M

/-! models: the law of dictionaries -/
abbrev U16 := {n : Int // 0 ≤ n ∧ n ≤ 65535}
theorem dictL_out (l : List OpT) (a v : Int) (h0 : shortB l = false ∨ l.all (okOp 1) = false) : FnOK Try.prog 3 [pS (opsP l), .one (.p (.k (.int .u16 a))), .one (.p (.k (.int .i16 v)))] [] (.bq true) [] := by
  have hL := short_ok l
  have hA := rValidAll_ok 1 l
  cases hs : shortB l with
  | false =>
    rw [hs] at hL
    refine fn_ok T Try.func3 (by kernel_rfl) rfl rfl rfl rfl fun C hC => ?_
    repeat' first
      | refine g_go T hC true 400 rfl rfl ?_
      | (exfalso; simp at h; done)
      | refine g_cond rfl (fun h => ?_) (fun h => ?_)
      | refine g_end T hC (by kernel_rfl) ?_
      | refine g_splitD (fun h => ?_) (fun h => ?_)
      | refine g_splitG rfl rfl rfl (fun h => ?_) (fun h => ?_)
      | refine g_splitP rfl rfl (fun h => ?_) (fun h => ?_)
      | refine g_call hC (awake_ok) rfl rfl (LeSs.refl _) rfl rfl rfl ?_
      | refine g_call hC (hL) rfl rfl (LeSs.refl _) rfl rfl rfl ?_
      | refine g_call hC (hA) rfl rfl (LeSs.refl _) rfl rfl rfl ?_
    all_goals exact g_fin ⟨.inl rfl, id, _, rfl, .refl _, trivial, rfl, rfl⟩
  | true =>
    rw [hs] at hL
    rw [h0.resolve_left (by rw [hs]; decide)] at hA
    refine fn_ok T Try.func3 (by kernel_rfl) rfl rfl rfl rfl fun C hC => ?_
    repeat' first
      | refine g_go T hC true 400 rfl rfl ?_
      | (exfalso; simp at h; done)
      | refine g_cond rfl (fun h => ?_) (fun h => ?_)
      | refine g_end T hC (by kernel_rfl) ?_
      | refine g_splitD (fun h => ?_) (fun h => ?_)
      | refine g_splitG rfl rfl rfl (fun h => ?_) (fun h => ?_)
      | refine g_splitP rfl rfl (fun h => ?_) (fun h => ?_)
      | refine g_call hC (awake_ok) rfl rfl (LeSs.refl _) rfl rfl rfl ?_
      | refine g_call hC (hL) rfl rfl (LeSs.refl _) rfl rfl rfl ?_
      | refine g_call hC (hA) rfl rfl (LeSs.refl _) rfl rfl rfl ?_
    all_goals exact g_fin ⟨.inl rfl, id, _, rfl, .refl _, trivial, rfl, rfl⟩
/-- The loop's variables: the last key, how many are less, the nearest from below and above among the first i keys (P keys are less than k, Q no greater). -/
def lastK (R : Rws) (i : Nat) : Int := if i = 0 then -1048577 else keyI R (i - 1)
def floorK (R : Rws) (Q i : Nat) : RsT := if min i Q = 0 then erR 12 else okR (keyI R (min i Q - 1))
def ceilK (R : Rws) (Q i : Nat) : RsT := if i ≤ Q then erR 12 else okR (keyI R Q)
theorem floorK_le {R : Rws} {Q i : Nat} (h : i < Q) : floorK R Q (i + 1) = okR (keyI R i) := by
  unfold floorK; rw [if_neg (by omega), show min (i + 1) Q - 1 = i by omega]
theorem floorK_gt {R : Rws} {Q i : Nat} (h : Q ≤ i) : floorK R Q (i + 1) = floorK R Q i := by
  unfold floorK; rw [Nat.min_eq_right (by omega), Nat.min_eq_right h]
theorem ceilK_le {R : Rws} {Q i : Nat} (h : i < Q) : ceilK R Q (i + 1) = ceilK R Q i := by
  unfold ceilK; rw [if_pos (by omega), if_pos (by omega)]
theorem ceilK_at {R : Rws} {Q : Nat} : ceilK R Q (Q + 1) = okR (keyI R Q) := by unfold ceilK; rw [if_neg (by omega)]
theorem ceilK_gt {R : Rws} {Q i : Nat} (h : Q < i) : ceilK R Q (i + 1) = ceilK R Q i := by
  unfold ceilK; rw [if_neg (by omega), if_neg (by omega)]
theorem last_lt {R : Rws} (h : TabOk 2 (ltC 1) R) {i : Nat} (hi : i < R.length) (hb : -1048576 ≤ keyI R i) : ¬ keyI R i ≤ lastK R i := by
  unfold lastK
  split
  · omega
  · have := key_asc h (show i - 1 < i by omega) hi
    omega
theorem key_upto {R : Rws} (h : TabOk 2 (ltC 1) R) (k : Int) {i : Nat} (hi : i < R.length) : keyI R i ≤ k ↔ i < posC 1 R [k] + (if hasC 1 R [k] = true then 1 else 0) := by
  have hb := key_below h k hi
  have hh := key_has h k
  rcases Nat.lt_trichotomy i (posC 1 R [k]) with h1 | h1 | h1
  · have := hb.2 h1
    constructor
    · intro _; omega
    · intro _; omega
  · rw [← h1] at hh hb ⊢
    by_cases hq : hasC 1 R [k] = true
    · rw [if_pos hq]
      have := (hh.1 hq).2
      constructor <;> intro _ <;> omega
    · rw [if_neg hq]
      constructor
      · intro h3
        by_cases h4 : keyI R i < k
        · exact absurd (hb.1 h4) (by omega)
        · exact absurd (hh.2 ⟨hi, by omega⟩) hq
      · intro _; omega
  · have h5 := key_asc h h1 hi
    have h6 := key_below h k (show posC 1 R [k] < R.length by omega)
    constructor
    · intro h3
      exact absurd (h6.1 (by omega)) (by omega)
    · intro h3
      split at h3 <;> omega
theorem dict_round {R : Rws} (h : TabOk 2 (ltC 1) R) (k : Int) {i P Q : Nat} (hi : i < R.length) (hP : posC 1 R [k] = P) (hQ : Q = P + (if hasC 1 R [k] = true then 1 else 0)) :
    (keyI R i < k ∧ keyI R i ≤ k ∧ min (i + 1) P = min i P + 1 ∧ floorK R Q (i + 1) = okR (keyI R i) ∧ ceilK R Q (i + 1) = ceilK R Q i) ∨
    (¬ keyI R i < k ∧ keyI R i ≤ k ∧ min (i + 1) P = min i P ∧ floorK R Q (i + 1) = okR (keyI R i) ∧ ceilK R Q (i + 1) = ceilK R Q i) ∨
    (¬ keyI R i < k ∧ ¬ keyI R i ≤ k ∧ min (i + 1) P = min i P ∧ floorK R Q (i + 1) = floorK R Q i ∧ ceilK R Q (i + 1) = okR (keyI R i) ∧ (ceilK R Q i).e = 12) ∨
    (¬ keyI R i < k ∧ ¬ keyI R i ≤ k ∧ min (i + 1) P = min i P ∧ floorK R Q (i + 1) = floorK R Q i ∧ ceilK R Q (i + 1) = ceilK R Q i ∧ (ceilK R Q i).e = 0) := by
  have hb1 := key_below h k hi
  have hb2 := key_upto h k hi
  rw [hP] at hb1 hb2
  rw [← hQ] at hb2
  have hPQ : P ≤ Q ∧ Q ≤ P + 1 := by rw [hQ]; split <;> omega
  clear hQ
  by_cases c1 : i < P
  · exact .inl ⟨hb1.2 c1, hb2.2 (by omega), by omega, floorK_le (by omega), ceilK_le (by omega)⟩
  have n1 : ¬ keyI R i < k := fun e => c1 (hb1.1 e)
  by_cases c2 : i < Q
  · exact .inr (.inl ⟨n1, hb2.2 c2, by omega, floorK_le c2, ceilK_le c2⟩)
  have n2 : ¬ keyI R i ≤ k := fun e => c2 (hb2.1 e)
  by_cases c3 : i = Q
  · subst c3
    exact .inr (.inr (.inl ⟨n1, n2, by omega, floorK_gt (by omega), ceilK_at, by unfold ceilK; rw [if_pos (by omega)]; rfl⟩))
  · exact .inr (.inr (.inr ⟨n1, n2, by omega, floorK_gt (by omega), ceilK_gt (by omega), by unfold ceilK; rw [if_neg (by omega)]; rfl⟩))
theorem dict_after {R : Rws} (h : TabOk 2 (ltC 1) R) (k : Int) {P Q : Nat} (hP : posC 1 R [k] = P) (hQ : Q = P + (if hasC 1 R [k] = true then 1 else 0)) :
    stepS 1 R ⟨4, [k]⟩ = (R, floorK R Q R.length) ∧ ((floorK R Q R.length = okR k ∧ stepS 1 R ⟨5, [k]⟩ = (R, okR k)) ∨ (stepS 1 R ⟨5, [k]⟩ = (R, ceilK R Q R.length) ∧ (((floorK R Q R.length).e = 12) ∨ ((floorK R Q R.length).e = 0 ∧ (floorK R Q R.length).n ≠ k)))) := by
  rw [dict_floor, dict_ceil]
  have hh := key_has h k
  have hple := posC_le 1 R [k]
  rw [hP] at hh hple
  rw [hP]
  by_cases hq : hasC 1 R [k] = true
  · rw [if_pos hq] at hQ ⊢
    obtain ⟨h1, h2⟩ := hh.1 hq
    have hf : floorK R Q R.length = okR k := by
      unfold floorK
      rw [Nat.min_eq_right (by omega), if_neg (by omega), show Q - 1 = P by omega, h2]
    refine ⟨by rw [hf], .inl ⟨hf, ?_⟩⟩
    rw [if_neg (by omega), h2]
  · rw [if_neg hq] at hQ ⊢
    have hQ : Q = P := by omega
    subst hQ
    have hf : floorK R Q R.length = if Q = 0 then erR 12 else okR (keyI R (Q - 1)) := by
      unfold floorK
      rw [Nat.min_eq_right hple]
    refine ⟨by rw [hf], .inr ⟨?_, ?_⟩⟩
    · unfold ceilK
      by_cases h4 : Q = R.length
      · rw [if_pos h4, if_pos (by omega)]
      · rw [if_neg h4, if_neg (by omega)]
    · rw [hf]
      by_cases h4 : Q = 0
      · rw [if_pos h4]; exact .inl rfl
      · rw [if_neg h4]
        refine .inr ⟨rfl, ?_⟩
        have := (key_below h k (show Q - 1 < R.length by omega)).2 (by rw [hP]; omega)
        show keyI R (Q - 1) ≠ k
        omega
theorem dict_put_get {R : Rws} (hv : validS 1 R = true) (k v : Int) (hR : R.length < 500) (ho : okOp 1 ⟨1, [k, v]⟩ = true) : ∃ R' x, stepS 1 R ⟨1, [k, v]⟩ = (R', x) ∧ validS 1 R' = true ∧ stepS 1 R' ⟨2, [k]⟩ = (R', okR v) := by
  obtain ⟨_, hT⟩ := valid1 hv
  obtain ⟨R', x, h1, h2⟩ := put_get hT k v hR
  have hv' := step_valid hv ho
  rw [h1] at hv'
  refine ⟨R', x, h1, hv', ?_⟩
  obtain ⟨_, hT'⟩ := valid1 hv'
  have hr : rowA R' (posC 1 R [k]) = [k, v] := rowA_of h2
  have hlt : posC 1 R [k] < R'.length := by
    rcases Nat.lt_or_ge (posC 1 R [k]) R'.length with h3 | h3
    · exact h3
    · rw [List.getElem?_eq_none h3] at h2; cases h2
  have hk : keyI R' (posC 1 R [k]) = k := by unfold keyI; rw [hr]; rfl
  obtain ⟨h3, h4⟩ := key_rank hT' hlt
  rw [hk] at h3 h4
  rw [dict_get h4, h3, hr]; rfl
end Hw.Mo
