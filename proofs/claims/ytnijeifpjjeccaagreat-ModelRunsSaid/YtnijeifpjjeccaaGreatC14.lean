/- The engine and the contracts. -/
import Derived.Test.YtnijeifpjjeccaaGreatC13
set_option linter.unusedVariables false
set_option linter.unusedSimpArgs false
namespace Hw.Mz
open Go Go.Proofs Go.Shelf Hw.M

/-! models: the chapter's example; queries -/
def awkL : List OpT := [⟨1, [3, 10]⟩, ⟨1, [1, 7]⟩, ⟨1, [3, 11]⟩, ⟨7, [1]⟩, ⟨6, [3]⟩, ⟨4, [2]⟩, ⟨4, [0]⟩]
def awkR : List RsT := [⟨0, 0⟩, ⟨0, 0⟩, ⟨0, 1⟩, ⟨0, 3⟩, ⟨0, 1⟩, ⟨0, 1⟩, ⟨12, 0⟩]
theorem awake_ok : FnOK Tryz.prog 5 [] [] (.bq true) [] := by
  have hN := new_ok (k := 1) (by decide)
  have hRun := mRun_yes 1 [] awkL (by decide) (by decide) (by decide)
  have e : runS 1 [] awkL = ([[1, 7], [3, 11]], awkR) := by decide
  rw [e] at hRun
  have hS := rSame_ok 1 1 [[1, 7], [3, 11]] [[1, 7], [3, 11]]
  have e2 : (decide ((1 : Int) = 1) && decide (([[1, 7], [3, 11]] : Rws) = [[1, 7], [3, 11]])) = true := by decide
  rw [e2] at hS
  have hQ := sameResults_ok awkR awkR
  rw [decide_eq_true (rfl : awkR = awkR)] at hQ
  refine fn_ok T Tryz.func5 (by kernel_rfl) rfl rfl rfl rfl fun C hC => ?_
  repeat' first
    | refine g_go T hC true 400 rfl rfl ?_
    | (exfalso; simp at h; done)
    | refine g_cond rfl (fun h => ?_) (fun h => ?_)
    | refine g_end T hC (by kernel_rfl) ?_
    | refine g_splitD (fun h => ?_) (fun h => ?_)
    | refine g_splitG rfl rfl rfl (fun h => ?_) (fun h => ?_)
    | refine g_splitP rfl rfl (fun h => ?_) (fun h => ?_)
    | refine g_call hC (hN) rfl rfl (LeSs.refl _) rfl rfl rfl ?_
    | refine g_lit T hC rfl rfl rfl rfl rfl rfl rfl rfl rfl ?_
    | refine g_call hC (op_ok 1 [3, 10]) rfl rfl (LeSs.refl _) rfl rfl rfl ?_
    | refine g_call hC (op_ok 1 [1, 7]) rfl rfl (LeSs.refl _) rfl rfl rfl ?_
    | refine g_call hC (op_ok 1 [3, 11]) rfl rfl (LeSs.refl _) rfl rfl rfl ?_
    | refine g_call hC (op_ok 7 [1]) rfl rfl (LeSs.refl _) rfl rfl rfl ?_
    | refine g_call hC (op_ok 6 [3]) rfl rfl (LeSs.refl _) rfl rfl rfl ?_
    | refine g_call hC (op_ok 4 [2]) rfl rfl (LeSs.refl _) rfl rfl rfl ?_
    | refine g_call hC (op_ok 4 [0]) rfl rfl (LeSs.refl _) rfl rfl rfl ?_
    | refine g_call hC (hRun) rfl rfl (LeSs.refl _) rfl rfl rfl ?_
    | refine g_call hC (hS) rfl rfl (LeSs.refl _) rfl rfl rfl ?_
    | refine g_call hC (hQ) rfl rfl (LeSs.refl _) rfl rfl rfl ?_
  all_goals exact g_fin ⟨.inl rfl, id, _, rfl, by first | exact .refl _ | exact LeS.qb rfl, trivial, rfl, rfl⟩
end Hw.Mz
namespace Hw.Mz
open Go Go.Proofs Go.Shelf Hw.M

/-! models: keys of a dictionary, plain -/
def keyI (R : Rws) (i : Nat) : Int := at0 (rowA R i) 0
theorem key_below {R : Rws} (h : TabOk 2 (ltC 1) R) (k : Int) {i : Nat} (hi : i < R.length) : keyI R i < k ↔ i < posC 1 R [k] := by
  have hr := rowA_lt hi
  have hm := List.mem_of_getElem? hr
  have hne : rowA R i ≠ [] := fun e => by have := h.wide _ hm; rw [e] at this; simp at this
  have hk : ltC 1 (rowA R i) [k] = decide (keyI R i < k) := by rw [ltC_one hne (by simp)]; rfl
  have hsp := posC_spec h pos_lt [k]
  constructor
  · intro hlt
    rcases Nat.lt_or_ge i (posC 1 R [k]) with h1 | h1
    · exact h1
    · have : rowA R i ∈ R.drop (posC 1 R [k]) := by
        refine List.mem_of_getElem? (i := i - posC 1 R [k]) ?_
        rw [List.getElem?_drop, show posC 1 R [k] + (i - posC 1 R [k]) = i by omega]; exact hr
      have := hsp.2 _ this
      rw [hk, decide_eq_false_iff_not] at this
      exact absurd hlt this
  · intro h1
    have : rowA R i ∈ R.take (posC 1 R [k]) := by
      refine List.mem_of_getElem? (i := i) ?_
      rw [List.getElem?_take, if_pos h1]; exact hr
    have := hsp.1 _ this
    rw [hk, decide_eq_true_eq] at this
    exact this
theorem key_has {R : Rws} (h : TabOk 2 (ltC 1) R) (k : Int) : hasC 1 R [k] = true ↔ posC 1 R [k] < R.length ∧ keyI R (posC 1 R [k]) = k := by
  constructor
  · intro hq
    obtain ⟨r, hr, hlt, hk⟩ := hasC_yes hq
    refine ⟨hlt, ?_⟩
    unfold keyI
    rw [rowA_of hr]
    obtain ⟨x, y, rfl⟩ := len2 (h.wide r (List.mem_of_getElem? hr))
    simpa [at0] using hk
  · rintro ⟨hlt, hk⟩
    have hr := rowA_lt hlt
    unfold hasC
    rw [hr]
    obtain ⟨x, y, e⟩ := len2 (h.wide _ (List.mem_of_getElem? hr))
    unfold keyI at hk
    rw [e] at hk ⊢
    simpa [at0] using hk
theorem key_asc {R : Rws} (h : TabOk 2 (ltC 1) R) {i j : Nat} (hij : i < j) (hj : j < R.length) : keyI R i < keyI R j := by
  rw [key_below h _ (by omega : i < R.length)]
  rcases Nat.lt_or_ge i (posC 1 R [keyI R j]) with h1 | h1
  · exact h1
  · exfalso
    have hi := rowA_lt (by omega : i < R.length)
    have hjr := rowA_lt hj
    have := h.asc
    rw [List.pairwise_iff_getElem] at this
    obtain ⟨g1, g2⟩ := List.getElem?_eq_some_iff.1 hi
    obtain ⟨g3, g4⟩ := List.getElem?_eq_some_iff.1 hjr
    have h2 := this i j g1 g3 hij
    rw [g2, g4] at h2
    have hni : rowA R i ≠ [] := fun e => by have := h.wide _ (List.mem_of_getElem? hi); rw [e] at this; simp at this
    have hnj : rowA R j ≠ [] := fun e => by have := h.wide _ (List.mem_of_getElem? hjr); rw [e] at this; simp at this
    rw [ltC_one hni hnj, decide_eq_true_eq] at h2
    have := (key_below h (keyI R j) (by omega : i < R.length)).1 h2
    omega
theorem key_rank {R : Rws} (h : TabOk 2 (ltC 1) R) {i : Nat} (hi : i < R.length) : posC 1 R [keyI R i] = i ∧ hasC 1 R [keyI R i] = true := by
  have h1 : posC 1 R [keyI R i] = i := by
    rcases Nat.lt_trichotomy (posC 1 R [keyI R i]) i with h2 | h2 | h2
    · exfalso
      have := key_asc h h2 hi
      rw [key_below h _ (by omega)] at this
      omega
    · exact h2
    · exfalso
      have := (key_below h (keyI R i) hi).2 h2
      omega
  refine ⟨h1, (key_has h _).2 ?_⟩
  rw [h1]
  exact ⟨hi, rfl⟩
end Hw.Mz
namespace Hw.Mz
open Go Go.Proofs Go.Shelf Hw.M

/-! models: what the queries of a dictionary answer -/
end Hw.Mz
namespace Hw.Mz
open Go Go.Proofs Go.Shelf Hw.M

/-! models: the law of dictionaries -/
abbrev U16 := {n : Int // 0 ≤ n ∧ n ≤ 65535}
/-- The loop's variables: the last key, how many are less, the nearest from below and above among the first i keys (P keys are less than k, Q no greater). -/
def lastK (R : Rws) (i : Nat) : Int := if i = 0 then -1048577 else keyI R (i - 1)
def floorK (R : Rws) (Q i : Nat) : RsT := if min i Q = 0 then erR 12 else okR (keyI R (min i Q - 1))
def ceilK (R : Rws) (Q i : Nat) : RsT := if i ≤ Q then erR 12 else okR (keyI R Q)
end Hw.Mz
