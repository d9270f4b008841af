/- The engine and the contracts. -/
import Derived.Test.YtnijeifpjjeccaaGreatDoorC9
import Derived.Test.YtnijeifpjjeccaaGreatDoorC3
set_option linter.unusedVariables false
set_option linter.unusedSimpArgs false
namespace Hw.Mq
open Go Go.Proofs Go.Shelf Hw.M

/-! models: dictionaries, joined -/
theorem ltC_key : ∀ (c : Nat) (r a : Rw), ltC c r (a.take c) = ltC c r a
  | 0, r, a => by rw [ltC_zero, ltC_zero]
  | c + 1, [], a => by cases a <;> rfl
  | c + 1, x :: r, [] => rfl
  | c + 1, x :: r, y :: a => by simp only [List.take_succ_cons, ltC, ltC_key c r a]
theorem posC_key (c : Nat) (R : Rws) (a : Rw) : posC c R (a.take c) = posC c R a := by
  unfold posC
  rw [show (fun r => ltC c r (a.take c)) = fun r => ltC c r a from funext fun r => ltC_key c r a]
theorem hasC_key (c : Nat) (R : Rws) (a : Rw) : hasC c R (a.take c) = hasC c R a := by
  unfold hasC
  rw [posC_key, List.take_take, Nat.min_self]
theorem hasC_yes {c : Nat} {R : Rws} {a : Rw} (h : hasC c R a = true) : ∃ r, R[posC c R a]? = some r ∧ posC c R a < R.length ∧ r.take c = a.take c := by
  unfold hasC at h
  split at h
  · rename_i r hr; exact ⟨r, hr, (List.getElem?_eq_some_iff.1 hr).1, of_decide_eq_true h⟩
  · cases h
theorem tab_mono {c w : Nat} {p : Rw → Rw → Bool} {R : Rws} (h : TabOk w p R) (hp : ∀ r s a : Rw, r.length = w → s.length = w → p r s = true → ltC c s a = true → ltC c r a = true) (key : Rw) :
    ∀ (i j : Nat) r s, i ≤ j → R[i]? = some r → R[j]? = some s → ltC c s key = true → ltC c r key = true := fun i j r s hij hi hj hs => by
  rcases Nat.eq_or_lt_of_le hij with rfl | hlt
  · rw [hi] at hj; obtain rfl := Option.some.inj hj; exact hs
  · have := h.asc
    rw [List.pairwise_iff_getElem] at this
    obtain ⟨g1, g2⟩ := List.getElem?_eq_some_iff.1 hi
    obtain ⟨g3, g4⟩ := List.getElem?_eq_some_iff.1 hj
    exact hp r s key (h.wide r (List.mem_of_getElem? hi)) (h.wide s (List.mem_of_getElem? hj)) (by rw [← g2, ← g4]; exact this _ _ g1 g3 hlt) hs
theorem valid1 {R : Rws} (h : validS 1 R = true) : R.length ≤ 500 ∧ TabOk 2 (ltC 1) R := by
  simp only [validS, if_pos, Bool.and_eq_true, decide_eq_true_eq] at h
  exact ⟨h.1, (table_iff (tr_lt 1 2)).1 h.2⟩
theorem valid2 {R : Rws} (h : validS 2 R = true) : R.length ≤ 500 ∧ TabOk 1 (fun a b => !ltC 1 b a) R := by
  have h' : (decide (R.length ≤ 500) && tableB 1 (fun a b => !ltC 1 b a) R) = true := h
  simp only [Bool.and_eq_true, decide_eq_true_eq] at h'
  exact ⟨h'.1, (table_iff tr_le).1 h'.2⟩
theorem valid3 {R : Rws} (h : validS 3 R = true) : R.length ≤ 500 ∧ TabOk 1 (fun _ _ => true) R := by
  have h' : (decide (R.length ≤ 500) && tableB 1 (fun _ _ => true) R) = true := h
  simp only [Bool.and_eq_true, decide_eq_true_eq] at h'
  exact ⟨h'.1, (table_iff (tr_all 1)).1 h'.2⟩
theorem valid4 {R : Rws} (h : validS 4 R = true) : R.length ≤ 500 ∧ SetsOk R := by
  have h' : (decide (R.length ≤ 500) && setsB R) = true := h
  simp only [Bool.and_eq_true, decide_eq_true_eq] at h'
  exact ⟨h'.1, sets_iff.1 h'.2⟩
theorem valid5 {R : Rws} (h : validS 5 R = true) : R.length ≤ 500 ∧ TabOk 3 (ltC 2) R := by
  have h' : (decide (R.length ≤ 500) && tableB 3 (ltC 2) R) = true := h
  simp only [Bool.and_eq_true, decide_eq_true_eq] at h'
  exact ⟨h'.1, (table_iff (tr_lt 2 3)).1 h'.2⟩
theorem valid6 {R : Rws} (h : validS 6 R = true) : R = [] ∨ ∃ r, R = [r] ∧ 1 ≤ r.length ∧ r.length ≤ 500 ∧ ∀ x ∈ r, chrB x = true := by
  have h' : (decide (R.length ≤ 500) && textB R) = true := h
  simp only [Bool.and_eq_true, decide_eq_true_eq] at h'
  match R, h'.2 with
  | [], _ => exact .inl rfl
  | [r], h => simp only [textB, Bool.and_eq_true, decide_eq_true_eq, List.all_eq_true] at h; exact .inr ⟨r, rfl, h.1.1, h.1.2, h.2⟩
  | _ :: _ :: _, h => simp [textB] at h
theorem len0 {l : List Int} (h : l.length = 0) : l = [] := List.length_eq_zero_iff.1 h
theorem len1 {l : List Int} (h : l.length = 1) : ∃ a, l = [a] := List.length_eq_one_iff.1 h
theorem len2 {l : List Int} (h : l.length = 2) : ∃ a b, l = [a, b] := by
  match l, h with
  | [a, b], _ => exact ⟨a, b, rfl⟩
theorem len3 {l : List Int} (h : l.length = 3) : ∃ a b c, l = [a, b, c] := by
  match l, h with
  | [a, b, c], _ => exact ⟨a, b, c, rfl⟩
theorem len4 {l : List Int} (h : l.length = 4) : ∃ a b c d, l = [a, b, c, d] := by
  match l, h with
  | [a, b, c, d], _ => exact ⟨a, b, c, d, rfl⟩
/-- What is known of an operation that is valid: its word. -/
theorem okOp_word {k : Int} {o : OpT} (h : okOp k o = true) : ∃ w, 1 ≤ o.code ∧ o.code ≤ (wordsL k).length ∧ (wordsL k)[(o.code - 1).toNat]? = some w ∧ (0 ≤ w.2.1 → (o.args.length : Int) = w.2.1 ∧ ∀ x ∈ o.args, numB x = true) ∧ (w.2.1 < 0 → 1 ≤ o.args.length ∧ o.args.length ≤ 64 ∧ ∀ x ∈ o.args, chrB x = true) := by
  unfold okOp at h
  simp only [Bool.and_eq_true, decide_eq_true_eq] at h
  obtain ⟨h1, h2⟩ := h
  split at h2
  · cases h2
  · rename_i w hw
    have := (List.getElem?_eq_some_iff.1 hw).1
    refine ⟨w, h1, by omega, hw, fun h0 => ?_, fun h0 => ?_⟩
    · rw [if_neg (by omega)] at h2
      simpa only [Bool.and_eq_true, decide_eq_true_eq, List.all_eq_true] using h2
    · rw [if_pos h0] at h2
      have : (1 ≤ o.args.length ∧ o.args.length ≤ 64) ∧ ∀ x ∈ o.args, chrB x = true := by simpa only [Bool.and_eq_true, decide_eq_true_eq, List.all_eq_true] using h2
      exact ⟨this.1.1, this.1.2, this.2⟩
theorem op1 {o : OpT} (h : okOp 1 o = true) : (o = ⟨8, []⟩) ∨ (∃ a, (o = ⟨2, [a]⟩ ∨ o = ⟨3, [a]⟩ ∨ o = ⟨4, [a]⟩ ∨ o = ⟨5, [a]⟩ ∨ o = ⟨6, [a]⟩ ∨ o = ⟨7, [a]⟩) ∧ numB a = true) ∨ ∃ a b, o = ⟨1, [a, b]⟩ ∧ numB a = true ∧ numB b = true := by
  obtain ⟨w, h1, h2, hw, h3, -⟩ := okOp_word h
  obtain ⟨c, l⟩ := o
  have hc : c = 1 ∨ c = 2 ∨ c = 3 ∨ c = 4 ∨ c = 5 ∨ c = 6 ∨ c = 7 ∨ c = 8 := by
    have : (wordsL 1).length = 8 := rfl
    simp only at h1 h2; omega
  rcases hc with rfl | rfl | rfl | rfl | rfl | rfl | rfl | rfl <;> (obtain rfl := Option.some.inj hw; obtain ⟨hl, hn⟩ := h3 (by decide); simp only at hl hn)
  · obtain ⟨a, b, rfl⟩ := len2 (l := l) (by omega)
    exact .inr (.inr ⟨a, b, rfl, hn a (by simp), hn b (by simp)⟩)
  iterate 6
    · obtain ⟨a, rfl⟩ := len1 (l := l) (by omega)
      exact .inr (.inl ⟨a, by simp, hn a (by simp)⟩)
  · obtain rfl := len0 (l := l) (by omega)
    exact .inl rfl
theorem dict_ok (R : Rws) (o : OpT) (hv : validS 1 R = true) (ho : okOp 1 o = true) :
    FnOK Tryz.prog 55 [.one (.ar 0), aggS (opR o)] [(0, vg 1 R.length), (1, bg R)] (.tup [.one (.ar 2), aggS (rsR (dictS R o).2)]) [(2, vg 3 (dictS R o).1.length), (3, bg (dictS R o).1)] := by
  obtain ⟨hR, hT⟩ := valid1 hv
  have hX : ∀ a : Int, FnOK Tryz.prog 77 [pS (rowsP R), pS (intsP [a])] [] (.tup [I (posC 1 R [a]), .bq (hasC 1 R [a])]) [] := fun a =>
    find_ok R [a] (by simp) (by omega) (fun r hr => by rw [hT.wide r hr]; simp) (tab_mono hT pos_lt [a])
  have hrow : ∀ (i : Nat), i < R.length → R[i]? = some (rowA R i) ∧ (rowA R i).length = 2 := fun i hi => ⟨rowA_lt hi, hT.wide _ (List.mem_of_getElem? (rowA_lt hi))⟩
  have hcell : ∀ (i j : Nat), i < R.length → j < 2 → (rowA R i)[j]? = some (at0 (rowA R i) j) := fun i j hi hj => at0_lt (by rw [(hrow i hi).2]; exact hj)
  rcases op1 ho with rfl | ⟨a, hc, ha⟩ | ⟨a, b, rfl, ha, hb⟩
  · exact dict8 R hR
  · have hle := posC_le 1 R [a]
    have hXa := hX a
    have h7 : FnOK Tryz.prog 55 [.one (.ar 0), aggS (opR ⟨7, [a]⟩)] [(0, vg 1 R.length), (1, bg R)] (.tup [.one (.ar 2), aggS (rsR (dictS R ⟨7, [a]⟩).2)]) [(2, vg 3 (dictS R ⟨7, [a]⟩).1.length), (3, bg (dictS R ⟨7, [a]⟩).1)] := by
      by_cases h0 : 0 ≤ a ∧ a < R.length
      · have e : dictS R ⟨7, [a]⟩ = (R, okR (at0 (rowA R a.toNat) 0)) := by simp [dictS, at0, h0]
        rw [e]
        have hlt : a.toNat < R.length := by omega
        have := dict7 R hR a.toNat _ _ (hrow _ hlt).1 hlt (by rw [(hrow _ hlt).2]; omega) (hcell _ 0 hlt (by omega))
        rw [Int.toNat_of_nonneg h0.1] at this
        exact this
      · have e : dictS R ⟨7, [a]⟩ = (R, erR 2) := by
          simp only [dictS]
          rw [if_neg (by decide), if_pos trivial]
          exact if_neg h0
        rw [e]
        exact dict7n R hR a (by omega)
    have hyes := hasC_yes (c := 1) (R := R) (a := [a])
    cases hq : hasC 1 R [a] with
    | true =>
      rw [hq] at hXa
      obtain ⟨r, hr, hlt, _⟩ := hyes hq
      obtain ⟨h1, h2⟩ := hrow _ hlt
      rcases hc with rfl | rfl | rfl | rfl | rfl | rfl
      · have e : dictS R ⟨2, [a]⟩ = (R, okR (at0 (rowA R (posC 1 R [a])) 1)) := by simp [dictS, hq]
        rw [e]
        exact dict2 R hR a _ hXa _ _ h1 hlt (by omega) (hcell _ 1 hlt (by omega))
      · have e : dictS R ⟨3, [a]⟩ = (R.eraseIdx (posC 1 R [a]), okR (at0 (rowA R (posC 1 R [a])) 1)) := by simp [dictS, hq]
        rw [e]
        simp only [List.length_eraseIdx_of_lt hlt]
        exact dict3 R hR a _ hXa _ _ h1 hlt (by omega) (hcell _ 1 hlt (by omega))
      · have e : dictS R ⟨4, [a]⟩ = (R, okR a) := by simp [dictS, hq, at0]
        rw [e]
        exact dict4y R hR a _ hXa
      · have e : dictS R ⟨5, [a]⟩ = (R, okR (at0 (rowA R (posC 1 R [a])) 0)) := by simp [dictS, Nat.ne_of_lt hlt]
        rw [e]
        exact dict5 R hR a _ _ hXa _ _ h1 hlt (by omega) (hcell _ 0 hlt (by omega))
      · exact dict6 R hR a _ _ hXa
      · exact h7
    | false =>
      rw [hq] at hXa
      rcases hc with rfl | rfl | rfl | rfl | rfl | rfl
      · have e : dictS R ⟨2, [a]⟩ = (R, erR 12) := by simp [dictS, hq]
        rw [e]
        exact dict2n R hR a _ hXa
      · have e : dictS R ⟨3, [a]⟩ = (R, erR 12) := by simp [dictS, hq]
        rw [e]
        exact dict3n R hR a _ hXa
      · by_cases h0 : posC 1 R [a] = 0
        · have e : dictS R ⟨4, [a]⟩ = (R, erR 12) := by simp [dictS, hq, h0]
          rw [e]
          exact dict4n R hR a _ hXa h0
        · obtain ⟨i, hi⟩ : ∃ i, posC 1 R [a] = i + 1 := ⟨posC 1 R [a] - 1, by omega⟩
          have e : dictS R ⟨4, [a]⟩ = (R, okR (at0 (rowA R i) 0)) := by simp [dictS, hq, hi]
          rw [e]
          rw [hi] at hXa
          exact dict4 R hR a i hXa _ _ (hrow i (by omega)).1 (by omega) (by rw [(hrow i (by omega)).2]; omega) (hcell _ 0 (by omega) (by omega))
      · by_cases h0 : posC 1 R [a] = R.length
        · have e : dictS R ⟨5, [a]⟩ = (R, erR 12) := by simp [dictS, h0]
          rw [e]
          exact dict5n R hR a _ _ hXa h0
        · have hlt : posC 1 R [a] < R.length := by omega
          have e : dictS R ⟨5, [a]⟩ = (R, okR (at0 (rowA R (posC 1 R [a])) 0)) := by simp [dictS, h0]
          rw [e]
          exact dict5 R hR a _ _ hXa _ _ (hrow _ hlt).1 hlt (by rw [(hrow _ hlt).2]; omega) (hcell _ 0 hlt (by omega))
      · exact dict6 R hR a _ _ hXa
      · exact h7
  · have hXa := hX a
    have hp : posC 1 R [a, b] = posC 1 R [a] := (posC_key 1 R [a, b]).symm
    have hh : hasC 1 R [a, b] = hasC 1 R [a] := (hasC_key 1 R [a, b]).symm
    have hle := posC_le 1 R [a]
    cases hq : hasC 1 R [a] with
    | true =>
      rw [hq] at hXa
      obtain ⟨r, hr, hlt, _⟩ := hasC_yes hq
      have e : dictS R ⟨1, [a, b]⟩ = (R.set (posC 1 R [a]) ((rowA R (posC 1 R [a])).set 1 b), okR 1) := by simp [dictS, hp, hh, hq, at0]
      rw [e]
      simp only [List.length_set]
      exact dict1y R hR a b _ hXa _ (hrow _ hlt).1 hlt (by rw [(hrow _ hlt).2]; omega)
    | false =>
      rw [hq] at hXa
      by_cases h5 : R.length = 500
      · have e : dictS R ⟨1, [a, b]⟩ = (R, erR 4) := by simp [dictS, hh, hq, h5]
        rw [e]
        exact dict1f R hR a b _ hXa h5
      · have e : dictS R ⟨1, [a, b]⟩ = (insR R (posC 1 R [a]) [a, b], okR 0) := by simp [dictS, hp, hh, hq, h5]
        rw [e]
        simp only [insR_len hle]
        exact dict1 R hR a b _ hXa hle (by omega)
end Hw.Mq
namespace Hw.Mq
open Go Go.Proofs Go.Shelf Hw.M

/-! models: priority queues and sequences on rows of the run's own -/
theorem heap4 (R : Rws) (hR : R.length ≤ 500)  : FnOK Tryz.prog 56 [.one (.ar 0), aggS [ki 4, intsP []]] [(0, vg 1 R.length), (1, bg R)] (.tup [.one (.ar 2), aggS (rsR (okR R.length))]) [(2, vg 3 R.length), (3, bg R)] := by
  have hN := result_ok R.length
  refine fn_ok T Tryz.func56 (by kernel_rfl) rfl rfl rfl rfl fun C hC => ?_
  repeat' first
    | refine g_go T hC true 400 rfl rfl ?_
    | (exfalso; first | (simp only [decide_eq_true_eq, decide_eq_false_iff_not, List.length_map, Bool.not_eq_true', Bool.not_eq_false'] at *; omega) | (simp at h; done))
    | refine g_cond rfl (fun h => ?_) (fun h => ?_)
    | refine g_end T hC (by kernel_rfl) ?_
    | refine g_splitD (fun h => ?_) (fun h => ?_)
    | refine g_splitG rfl rfl rfl (fun h => ?_) (fun h => ?_)
    | refine g_splitP rfl rfl (fun h => ?_) (fun h => ?_)
    | refine g_lenG T hC rfl rfl rfl rfl rfl rfl ?_
    | refine g_call hC (hN) rfl rfl (LeSs.refl _) rfl rfl rfl ?_
  all_goals exact g_fin ⟨.inl rfl, nm [0, 1, 0, 1], _, rfl, .refl _, ⟨rfl, rfl, trivial⟩, rfl, rfl⟩

theorem heap1f (R : Rws) (hR : R.length ≤ 500) (a : Int) (h5 : R.length = 500) : FnOK Tryz.prog 56 [.one (.ar 0), aggS [ki 1, intsP [a]]] [(0, vg 1 R.length), (1, bg R)] (.tup [.one (.ar 2), aggS (rsR (erR 4))]) [(2, vg 3 R.length), (3, bg R)] := by
  have hN := failed_ok 4
  refine fn_ok T Tryz.func56 (by kernel_rfl) rfl rfl rfl rfl fun C hC => ?_
  repeat' first
    | refine g_go T hC true 400 rfl rfl ?_
    | (exfalso; first | (simp only [decide_eq_true_eq, decide_eq_false_iff_not, List.length_map, Bool.not_eq_true', Bool.not_eq_false'] at *; omega) | (simp at h; done))
    | refine g_cond rfl (fun h => ?_) (fun h => ?_)
    | refine g_end T hC (by kernel_rfl) ?_
    | refine g_splitD (fun h => ?_) (fun h => ?_)
    | refine g_splitG rfl rfl rfl (fun h => ?_) (fun h => ?_)
    | refine g_splitP rfl rfl (fun h => ?_) (fun h => ?_)
    | refine g_lenG T hC rfl rfl rfl rfl rfl rfl ?_
    | refine g_call hC (hN) rfl rfl (LeSs.refl _) rfl rfl rfl ?_
  all_goals exact g_fin ⟨.inl rfl, nm [0, 1, 0, 1], _, rfl, .refl _, ⟨rfl, rfl, trivial⟩, rfl, rfl⟩

theorem heap1 (R : Rws) (hR : R.length ≤ 500) (a : Int) (i : Nat) (q : Bool) (hX : FnOK Tryz.prog 77 [pS (rowsP R), pS (intsP [a])] [] (.tup [I i, .bq q]) []) (hil : i ≤ R.length) (h5 : R.length < 500) : FnOK Tryz.prog 56 [.one (.ar 0), aggS [ki 1, intsP [a]]] [(0, vg 1 R.length), (1, bg R)] (.tup [.one (.ar 2), aggS (rsR (okR 0))]) [(2, vg 3 (R.length + 1)), (3, bg (insR R i [a]))] := by
  have hN := result_ok 0
  have hCl := clone_ok [a] (by simp)
  have hD := ins_ok R i [a] hil (by omega)
  refine fn_ok T Tryz.func56 (by kernel_rfl) rfl rfl rfl rfl fun C hC => ?_
  repeat' first
    | refine g_go T hC true 400 rfl rfl ?_
    | (exfalso; first | (simp only [decide_eq_true_eq, decide_eq_false_iff_not, List.length_map, Bool.not_eq_true', Bool.not_eq_false'] at *; omega) | (simp at h; done))
    | refine g_cond rfl (fun h => ?_) (fun h => ?_)
    | refine g_end T hC (by kernel_rfl) ?_
    | refine g_splitD (fun h => ?_) (fun h => ?_)
    | refine g_splitG rfl rfl rfl (fun h => ?_) (fun h => ?_)
    | refine g_splitP rfl rfl (fun h => ?_) (fun h => ?_)
    | refine g_lenG T hC rfl rfl rfl rfl rfl rfl ?_
    | refine g_callN hC hX [(0, vg 1 R.length), (1, bg R)] rfl rfl (LnSs.cons (LnS.one (lend2 0 1 R)) (LnSs.refl _)) rfl rfl rfl rfl ?_
    | (refine g_callR hC hCl (nm [104]) rfl rfl (LeSs.refl _) rfl rfl rfl rfl rfl rfl rfl rfl ?_)
    | (refine g_litB T hC rfl rfl rfl rfl rfl rfl rfl rfl rfl rfl rfl ?_)
    | (refine g_callR hC hD (nm [0, 1, 102, 103, 1036, 104]) rfl rfl (LeSs.refl _) rfl rfl rfl rfl rfl rfl rfl rfl ?_)
    | refine g_call hC (hN) rfl rfl (LeSs.refl _) rfl rfl rfl ?_
  all_goals exact g_fin ⟨.inl rfl, nm [0, 1, 102, 103], _, rfl, .refl _, ⟨rfl, rfl, trivial⟩, rfl, rfl⟩

theorem heap2e (R : Rws) (hR : R.length ≤ 500) (h0 : R.length = 0) : FnOK Tryz.prog 56 [.one (.ar 0), aggS [ki 2, intsP []]] [(0, vg 1 R.length), (1, bg R)] (.tup [.one (.ar 2), aggS (rsR (erR 14))]) [(2, vg 3 R.length), (3, bg R)] := by
  have hN := failed_ok 14
  refine fn_ok T Tryz.func56 (by kernel_rfl) rfl rfl rfl rfl fun C hC => ?_
  repeat' first
    | refine g_go T hC true 400 rfl rfl ?_
    | (exfalso; first | (simp only [decide_eq_true_eq, decide_eq_false_iff_not, List.length_map, Bool.not_eq_true', Bool.not_eq_false'] at *; omega) | (simp at h; done))
    | refine g_cond rfl (fun h => ?_) (fun h => ?_)
    | refine g_end T hC (by kernel_rfl) ?_
    | refine g_splitD (fun h => ?_) (fun h => ?_)
    | refine g_splitG rfl rfl rfl (fun h => ?_) (fun h => ?_)
    | refine g_splitP rfl rfl (fun h => ?_) (fun h => ?_)
    | refine g_lenG T hC rfl rfl rfl rfl rfl rfl ?_
    | refine g_call hC (hN) rfl rfl (LeSs.refl _) rfl rfl rfl ?_
  all_goals exact g_fin ⟨.inl rfl, nm [0, 1, 0, 1], _, rfl, .refl _, ⟨rfl, rfl, trivial⟩, rfl, rfl⟩

theorem heap3e (R : Rws) (hR : R.length ≤ 500) (h0 : R.length = 0) : FnOK Tryz.prog 56 [.one (.ar 0), aggS [ki 3, intsP []]] [(0, vg 1 R.length), (1, bg R)] (.tup [.one (.ar 2), aggS (rsR (erR 14))]) [(2, vg 3 R.length), (3, bg R)] := by
  have hN := failed_ok 14
  refine fn_ok T Tryz.func56 (by kernel_rfl) rfl rfl rfl rfl fun C hC => ?_
  repeat' first
    | refine g_go T hC true 400 rfl rfl ?_
    | (exfalso; first | (simp only [decide_eq_true_eq, decide_eq_false_iff_not, List.length_map, Bool.not_eq_true', Bool.not_eq_false'] at *; omega) | (simp at h; done))
    | refine g_cond rfl (fun h => ?_) (fun h => ?_)
    | refine g_end T hC (by kernel_rfl) ?_
    | refine g_splitD (fun h => ?_) (fun h => ?_)
    | refine g_splitG rfl rfl rfl (fun h => ?_) (fun h => ?_)
    | refine g_splitP rfl rfl (fun h => ?_) (fun h => ?_)
    | refine g_lenG T hC rfl rfl rfl rfl rfl rfl ?_
    | refine g_call hC (hN) rfl rfl (LeSs.refl _) rfl rfl rfl ?_
  all_goals exact g_fin ⟨.inl rfl, nm [0, 1, 0, 1], _, rfl, .refl _, ⟨rfl, rfl, trivial⟩, rfl, rfl⟩

theorem heap2 (R : Rws) (hR : R.length ≤ 500) (r : Rw) (v : Int) (hq : R[0]? = some r) (hil : 0 < R.length) (hrl : 0 < r.length) (hv : r[0]? = some v) : FnOK Tryz.prog 56 [.one (.ar 0), aggS [ki 2, intsP []]] [(0, vg 1 R.length), (1, bg R)] (.tup [.one (.ar 2), aggS (rsR (okR v))]) [(2, vg 3 R.length), (3, bg R)] := by
  have hN := result_ok v
  refine fn_ok T Tryz.func56 (by kernel_rfl) rfl rfl rfl rfl fun C hC => ?_
  repeat' first
    | refine g_go T hC true 400 rfl rfl ?_
    | (exfalso; first | (simp only [decide_eq_true_eq, decide_eq_false_iff_not, List.length_map, Bool.not_eq_true', Bool.not_eq_false'] at *; omega) | (simp at h; done))
    | refine g_cond rfl (fun h => ?_) (fun h => ?_)
    | refine g_end T hC (by kernel_rfl) ?_
    | refine g_splitD (fun h => ?_) (fun h => ?_)
    | refine g_splitG rfl rfl rfl (fun h => ?_) (fun h => ?_)
    | refine g_splitP rfl rfl (fun h => ?_) (fun h => ?_)
    | refine g_lenG T hC rfl rfl rfl rfl rfl rfl ?_
    | (refine g_idxR T hC (0) rfl rfl rfl rfl rfl (by omega) rfl rfl ?_; refine g_loadR T hC rfl rfl rfl (by omega) rfl rfl ?_)
    | (refine g_idxC T hC 0 hq (by omega) rfl rfl rfl rfl rfl rfl ?_; refine g_loadC T hC hq hv rfl rfl rfl rfl rfl ?_)
    | refine g_call hC (hN) rfl rfl (LeSs.refl _) rfl rfl rfl ?_
  all_goals exact g_fin ⟨.inl rfl, nm [0, 1, 0, 1], _, rfl, .refl _, ⟨rfl, rfl, trivial⟩, rfl, rfl⟩

theorem heap3 (R : Rws) (hR : R.length ≤ 500) (r : Rw) (v : Int) (hq : R[0]? = some r) (hil : 0 < R.length) (hrl : 0 < r.length) (hv : r[0]? = some v) : FnOK Tryz.prog 56 [.one (.ar 0), aggS [ki 3, intsP []]] [(0, vg 1 R.length), (1, bg R)] (.tup [.one (.ar 2), aggS (rsR (okR v))]) [(2, vg 3 (R.length - 1)), (3, bg (R.eraseIdx 0))] := by
  have hN := result_ok v
  have hD : FnOK Tryz.prog 79 [.one (.ar 0), I 0, I 1] [(0, vg 1 R.length), (1, bg R)] (.one (.ar 2)) [(2, vg 3 (R.length - 1)), (3, bg (R.eraseIdx 0))] := del_ok R 0 hil (by omega)
  refine fn_ok T Tryz.func56 (by kernel_rfl) rfl rfl rfl rfl fun C hC => ?_
  repeat' first
    | refine g_go T hC true 400 rfl rfl ?_
    | (exfalso; first | (simp only [decide_eq_true_eq, decide_eq_false_iff_not, List.length_map, Bool.not_eq_true', Bool.not_eq_false'] at *; omega) | (simp at h; done))
    | refine g_cond rfl (fun h => ?_) (fun h => ?_)
    | refine g_end T hC (by kernel_rfl) ?_
    | refine g_splitD (fun h => ?_) (fun h => ?_)
    | refine g_splitG rfl rfl rfl (fun h => ?_) (fun h => ?_)
    | refine g_splitP rfl rfl (fun h => ?_) (fun h => ?_)
    | refine g_lenG T hC rfl rfl rfl rfl rfl rfl ?_
    | (refine g_idxR T hC (0) rfl rfl rfl rfl rfl (by omega) rfl rfl ?_; refine g_loadR T hC rfl rfl rfl (by omega) rfl rfl ?_)
    | (refine g_idxC T hC 0 hq (by omega) rfl rfl rfl rfl rfl rfl ?_; refine g_loadC T hC hq hv rfl rfl rfl rfl rfl ?_)
    | (refine g_callR hC hD (nm [0, 1, 102, 103]) rfl rfl (LeSs.refl _) rfl rfl rfl rfl rfl rfl rfl rfl ?_)
    | refine g_call hC (hN) rfl rfl (LeSs.refl _) rfl rfl rfl ?_
  all_goals exact g_fin ⟨.inl rfl, nm [0, 1, 102, 103], _, rfl, .refl _, ⟨rfl, rfl, trivial⟩, rfl, rfl⟩

theorem seq7 (R : Rws) (hR : R.length ≤ 500)  : FnOK Tryz.prog 57 [.one (.ar 0), aggS [ki 7, intsP []]] [(0, vg 1 R.length), (1, bg R)] (.tup [.one (.ar 2), aggS (rsR (okR R.length))]) [(2, vg 3 R.length), (3, bg R)] := by
  have hN := result_ok R.length
  refine fn_ok T Tryz.func57 (by kernel_rfl) rfl rfl rfl rfl fun C hC => ?_
  repeat' first
    | refine g_go T hC true 400 rfl rfl ?_
    | (exfalso; first | (simp only [decide_eq_true_eq, decide_eq_false_iff_not, List.length_map, Bool.not_eq_true', Bool.not_eq_false'] at *; omega) | (simp at h; done))
    | refine g_cond rfl (fun h => ?_) (fun h => ?_)
    | refine g_end T hC (by kernel_rfl) ?_
    | refine g_splitD (fun h => ?_) (fun h => ?_)
    | refine g_splitG rfl rfl rfl (fun h => ?_) (fun h => ?_)
    | refine g_splitP rfl rfl (fun h => ?_) (fun h => ?_)
    | refine g_lenG T hC rfl rfl rfl rfl rfl rfl ?_
    | refine g_call hC (hN) rfl rfl (LeSs.refl _) rfl rfl rfl ?_
  all_goals exact g_fin ⟨.inl rfl, nm [0, 1, 0, 1], _, rfl, .refl _, ⟨rfl, rfl, trivial⟩, rfl, rfl⟩

theorem seq5e (R : Rws) (hR : R.length ≤ 500) (a b : Int) (hab : a < 0 ∨ b < a ∨ (R.length : Int) < b) : FnOK Tryz.prog 57 [.one (.ar 0), aggS [ki 5, intsP [a, b]]] [(0, vg 1 R.length), (1, bg R)] (.tup [.one (.ar 2), aggS (rsR (erR 2))]) [(2, vg 3 R.length), (3, bg R)] := by
  have hN := failed_ok 2
  refine fn_ok T Tryz.func57 (by kernel_rfl) rfl rfl rfl rfl fun C hC => ?_
  repeat' first
    | refine g_go T hC true 400 rfl rfl ?_
    | (exfalso; first | (simp only [decide_eq_true_eq, decide_eq_false_iff_not, List.length_map, Bool.not_eq_true', Bool.not_eq_false'] at *; omega) | (simp at h; done))
    | refine g_cond rfl (fun h => ?_) (fun h => ?_)
    | refine g_end T hC (by kernel_rfl) ?_
    | refine g_splitD (fun h => ?_) (fun h => ?_)
    | refine g_splitG rfl rfl rfl (fun h => ?_) (fun h => ?_)
    | refine g_splitP rfl rfl (fun h => ?_) (fun h => ?_)
    | refine g_lenG T hC rfl rfl rfl rfl rfl rfl ?_
    | refine g_idx T hC rfl rfl rfl (by decide) rfl rfl rfl ?_
    | refine g_call hC (hN) rfl rfl (LeSs.refl _) rfl rfl rfl ?_
  all_goals exact g_fin ⟨.inl rfl, nm [0, 1, 0, 1], _, rfl, .refl _, ⟨rfl, rfl, trivial⟩, rfl, rfl⟩

theorem seq6e (R : Rws) (hR : R.length ≤ 500) (a b : Int) (hab : a < 0 ∨ b < a ∨ (R.length : Int) < b) : FnOK Tryz.prog 57 [.one (.ar 0), aggS [ki 6, intsP [a, b]]] [(0, vg 1 R.length), (1, bg R)] (.tup [.one (.ar 2), aggS (rsR (erR 2))]) [(2, vg 3 R.length), (3, bg R)] := by
  have hN := failed_ok 2
  refine fn_ok T Tryz.func57 (by kernel_rfl) rfl rfl rfl rfl fun C hC => ?_
  repeat' first
    | refine g_go T hC true 400 rfl rfl ?_
    | (exfalso; first | (simp only [decide_eq_true_eq, decide_eq_false_iff_not, List.length_map, Bool.not_eq_true', Bool.not_eq_false'] at *; omega) | (simp at h; done))
    | refine g_cond rfl (fun h => ?_) (fun h => ?_)
    | refine g_end T hC (by kernel_rfl) ?_
    | refine g_splitD (fun h => ?_) (fun h => ?_)
    | refine g_splitG rfl rfl rfl (fun h => ?_) (fun h => ?_)
    | refine g_splitP rfl rfl (fun h => ?_) (fun h => ?_)
    | refine g_lenG T hC rfl rfl rfl rfl rfl rfl ?_
    | refine g_idx T hC rfl rfl rfl (by decide) rfl rfl rfl ?_
    | refine g_call hC (hN) rfl rfl (LeSs.refl _) rfl rfl rfl ?_
  all_goals exact g_fin ⟨.inl rfl, nm [0, 1, 0, 1], _, rfl, .refl _, ⟨rfl, rfl, trivial⟩, rfl, rfl⟩

theorem seq6 (R : Rws) (hR : R.length ≤ 500) (a m : Nat) (ham : a + m ≤ R.length) : FnOK Tryz.prog 57 [.one (.ar 0), aggS [ki 6, intsP [(a : Int), ((a + m : Nat) : Int)]]] [(0, vg 1 R.length), (1, bg R)] (.tup [.one (.ar 2), aggS (rsR (okR 0))]) [(2, vg 3 R.length), (3, bg (revR R a (a + m)))] := by
  have hN := result_ok 0
  have hV : revR R a (a + m) = revL R a m := by rw [revR, revL, List.drop_take, Nat.add_sub_cancel_left]
  have hD := rev_ok R a m ham (by omega)
  refine fn_ok T Tryz.func57 (by kernel_rfl) rfl rfl rfl rfl fun C hC => ?_
  repeat' first
    | refine g_go T hC true 400 rfl rfl ?_
    | (exfalso; first | (simp only [decide_eq_true_eq, decide_eq_false_iff_not, List.length_map, Bool.not_eq_true', Bool.not_eq_false'] at *; omega) | (simp at h; done))
    | refine g_cond rfl (fun h => ?_) (fun h => ?_)
    | refine g_end T hC (by kernel_rfl) ?_
    | refine g_splitD (fun h => ?_) (fun h => ?_)
    | refine g_splitG rfl rfl rfl (fun h => ?_) (fun h => ?_)
    | refine g_splitP rfl rfl (fun h => ?_) (fun h => ?_)
    | refine g_lenG T hC rfl rfl rfl rfl rfl rfl ?_
    | refine g_idx T hC rfl rfl rfl (by decide) rfl rfl rfl ?_
    | (refine g_svLH T hC rfl rfl rfl rfl rfl (Int.natCast_nonneg _) (by omega) (by rw [gr_len]; omega) rfl rfl ?_; rw [show ((a : Nat) : Int).toNat * 1 = a * 1 by rw [Int.toNat_natCast], show ((a + m : Nat) : Int).toNat - ((a : Nat) : Int).toNat = m by rw [Int.toNat_natCast, Int.toNat_natCast]; omega])
    | (refine g_callR hC hD (nm [0, 1, 102]) rfl rfl (LeSs.refl _) rfl rfl rfl rfl rfl rfl rfl rfl ?_)
    | refine g_call hC (hN) rfl rfl (LeSs.refl _) rfl rfl rfl ?_
  rw [hV]
  all_goals exact g_fin ⟨.inl rfl, nm [0, 1, 0, 102], _, rfl, .refl _, ⟨rfl, rfl, trivial⟩, rfl, rfl⟩

theorem seq1e (R : Rws) (hR : R.length ≤ 500) (a b : Int) (hab : a < 0 ∨ (R.length : Int) < a) : FnOK Tryz.prog 57 [.one (.ar 0), aggS [ki 1, intsP [a, b]]] [(0, vg 1 R.length), (1, bg R)] (.tup [.one (.ar 2), aggS (rsR (erR 2))]) [(2, vg 3 R.length), (3, bg R)] := by
  have hN := failed_ok 2
  refine fn_ok T Tryz.func57 (by kernel_rfl) rfl rfl rfl rfl fun C hC => ?_
  repeat' first
    | refine g_go T hC true 400 rfl rfl ?_
    | (exfalso; first | (simp only [decide_eq_true_eq, decide_eq_false_iff_not, List.length_map, Bool.not_eq_true', Bool.not_eq_false'] at *; omega) | (simp at h; done))
    | refine g_cond rfl (fun h => ?_) (fun h => ?_)
    | refine g_end T hC (by kernel_rfl) ?_
    | refine g_splitD (fun h => ?_) (fun h => ?_)
    | refine g_splitG rfl rfl rfl (fun h => ?_) (fun h => ?_)
    | refine g_splitP rfl rfl (fun h => ?_) (fun h => ?_)
    | refine g_lenG T hC rfl rfl rfl rfl rfl rfl ?_
    | refine g_idx T hC rfl rfl rfl (by decide) rfl rfl rfl ?_
    | refine g_call hC (hN) rfl rfl (LeSs.refl _) rfl rfl rfl ?_
  all_goals exact g_fin ⟨.inl rfl, nm [0, 1, 0, 1], _, rfl, .refl _, ⟨rfl, rfl, trivial⟩, rfl, rfl⟩

theorem seq1f (R : Rws) (hR : R.length ≤ 500) (i : Nat) (b : Int) (hil : i ≤ R.length) (h5 : R.length = 500) : FnOK Tryz.prog 57 [.one (.ar 0), aggS [ki 1, intsP [(i : Int), b]]] [(0, vg 1 R.length), (1, bg R)] (.tup [.one (.ar 2), aggS (rsR (erR 4))]) [(2, vg 3 R.length), (3, bg R)] := by
  have hN := failed_ok 4
  refine fn_ok T Tryz.func57 (by kernel_rfl) rfl rfl rfl rfl fun C hC => ?_
  repeat' first
    | refine g_go T hC true 400 rfl rfl ?_
    | (exfalso; first | (simp only [decide_eq_true_eq, decide_eq_false_iff_not, List.length_map, Bool.not_eq_true', Bool.not_eq_false'] at *; omega) | (simp at h; done))
    | refine g_cond rfl (fun h => ?_) (fun h => ?_)
    | refine g_end T hC (by kernel_rfl) ?_
    | refine g_splitD (fun h => ?_) (fun h => ?_)
    | refine g_splitG rfl rfl rfl (fun h => ?_) (fun h => ?_)
    | refine g_splitP rfl rfl (fun h => ?_) (fun h => ?_)
    | refine g_lenG T hC rfl rfl rfl rfl rfl rfl ?_
    | refine g_idx T hC rfl rfl rfl (by decide) rfl rfl rfl ?_
    | refine g_call hC (hN) rfl rfl (LeSs.refl _) rfl rfl rfl ?_
  all_goals exact g_fin ⟨.inl rfl, nm [0, 1, 0, 1], _, rfl, .refl _, ⟨rfl, rfl, trivial⟩, rfl, rfl⟩

theorem seq1 (R : Rws) (hR : R.length ≤ 500) (i : Nat) (b : Int) (hil : i ≤ R.length) (h5 : R.length < 500) : FnOK Tryz.prog 57 [.one (.ar 0), aggS [ki 1, intsP [(i : Int), b]]] [(0, vg 1 R.length), (1, bg R)] (.tup [.one (.ar 2), aggS (rsR (okR 0))]) [(2, vg 3 (R.length + 1)), (3, bg (insR R i [b]))] := by
  have hN := result_ok 0
  have hD := ins_ok R i [b] hil (by omega)
  refine fn_ok T Tryz.func57 (by kernel_rfl) rfl rfl rfl rfl fun C hC => ?_
  repeat' first
    | refine g_go T hC true 400 rfl rfl ?_
    | (exfalso; first | (simp only [decide_eq_true_eq, decide_eq_false_iff_not, List.length_map, Bool.not_eq_true', Bool.not_eq_false'] at *; omega) | (simp at h; done))
    | refine g_cond rfl (fun h => ?_) (fun h => ?_)
    | refine g_end T hC (by kernel_rfl) ?_
    | refine g_splitD (fun h => ?_) (fun h => ?_)
    | refine g_splitG rfl rfl rfl (fun h => ?_) (fun h => ?_)
    | refine g_splitP rfl rfl (fun h => ?_) (fun h => ?_)
    | refine g_lenG T hC rfl rfl rfl rfl rfl rfl ?_
    | refine g_idx T hC rfl rfl rfl (by decide) rfl rfl rfl ?_
    | (refine g_litW T hC [PC.p (ki b)] [] rfl rfl rfl rfl rfl rfl rfl rfl rfl rfl rfl rfl ?_; refine g_toA rfl 1105 [[ki b]] rfl rfl ?_)
    | (refine g_litB T hC rfl rfl rfl rfl rfl rfl rfl rfl rfl rfl rfl ?_)
    | (refine g_callR hC hD (nm [0, 1, 102, 103, 1106, 1105]) rfl rfl (LeSs.refl _) rfl rfl rfl rfl rfl rfl rfl rfl ?_)
    | refine g_call hC (hN) rfl rfl (LeSs.refl _) rfl rfl rfl ?_
  all_goals exact g_fin ⟨.inl rfl, nm [0, 1, 102, 103], _, rfl, .refl _, ⟨rfl, rfl, trivial⟩, rfl, rfl⟩

theorem seq2e (R : Rws) (hR : R.length ≤ 500) (a : Int) (hab : a < 0 ∨ (R.length : Int) ≤ a) : FnOK Tryz.prog 57 [.one (.ar 0), aggS [ki 2, intsP [a]]] [(0, vg 1 R.length), (1, bg R)] (.tup [.one (.ar 2), aggS (rsR (erR 2))]) [(2, vg 3 R.length), (3, bg R)] := by
  have hN := failed_ok 2
  refine fn_ok T Tryz.func57 (by kernel_rfl) rfl rfl rfl rfl fun C hC => ?_
  repeat' first
    | refine g_go T hC true 400 rfl rfl ?_
    | (exfalso; first | (simp only [decide_eq_true_eq, decide_eq_false_iff_not, List.length_map, Bool.not_eq_true', Bool.not_eq_false'] at *; omega) | (simp at h; done))
    | refine g_cond rfl (fun h => ?_) (fun h => ?_)
    | refine g_end T hC (by kernel_rfl) ?_
    | refine g_splitD (fun h => ?_) (fun h => ?_)
    | refine g_splitG rfl rfl rfl (fun h => ?_) (fun h => ?_)
    | refine g_splitP rfl rfl (fun h => ?_) (fun h => ?_)
    | refine g_lenG T hC rfl rfl rfl rfl rfl rfl ?_
    | refine g_idx T hC rfl rfl rfl (by decide) rfl rfl rfl ?_
    | refine g_call hC (hN) rfl rfl (LeSs.refl _) rfl rfl rfl ?_
  all_goals exact g_fin ⟨.inl rfl, nm [0, 1, 0, 1], _, rfl, .refl _, ⟨rfl, rfl, trivial⟩, rfl, rfl⟩

theorem seq3e (R : Rws) (hR : R.length ≤ 500) (a : Int) (hab : a < 0 ∨ (R.length : Int) ≤ a) : FnOK Tryz.prog 57 [.one (.ar 0), aggS [ki 3, intsP [a]]] [(0, vg 1 R.length), (1, bg R)] (.tup [.one (.ar 2), aggS (rsR (erR 2))]) [(2, vg 3 R.length), (3, bg R)] := by
  have hN := failed_ok 2
  refine fn_ok T Tryz.func57 (by kernel_rfl) rfl rfl rfl rfl fun C hC => ?_
  repeat' first
    | refine g_go T hC true 400 rfl rfl ?_
    | (exfalso; first | (simp only [decide_eq_true_eq, decide_eq_false_iff_not, List.length_map, Bool.not_eq_true', Bool.not_eq_false'] at *; omega) | (simp at h; done))
    | refine g_cond rfl (fun h => ?_) (fun h => ?_)
    | refine g_end T hC (by kernel_rfl) ?_
    | refine g_splitD (fun h => ?_) (fun h => ?_)
    | refine g_splitG rfl rfl rfl (fun h => ?_) (fun h => ?_)
    | refine g_splitP rfl rfl (fun h => ?_) (fun h => ?_)
    | refine g_lenG T hC rfl rfl rfl rfl rfl rfl ?_
    | refine g_idx T hC rfl rfl rfl (by decide) rfl rfl rfl ?_
    | refine g_call hC (hN) rfl rfl (LeSs.refl _) rfl rfl rfl ?_
  all_goals exact g_fin ⟨.inl rfl, nm [0, 1, 0, 1], _, rfl, .refl _, ⟨rfl, rfl, trivial⟩, rfl, rfl⟩

theorem seq4e (R : Rws) (hR : R.length ≤ 500) (a b : Int) (hab : a < 0 ∨ (R.length : Int) ≤ a) : FnOK Tryz.prog 57 [.one (.ar 0), aggS [ki 4, intsP [a, b]]] [(0, vg 1 R.length), (1, bg R)] (.tup [.one (.ar 2), aggS (rsR (erR 2))]) [(2, vg 3 R.length), (3, bg R)] := by
  have hN := failed_ok 2
  refine fn_ok T Tryz.func57 (by kernel_rfl) rfl rfl rfl rfl fun C hC => ?_
  repeat' first
    | refine g_go T hC true 400 rfl rfl ?_
    | (exfalso; first | (simp only [decide_eq_true_eq, decide_eq_false_iff_not, List.length_map, Bool.not_eq_true', Bool.not_eq_false'] at *; omega) | (simp at h; done))
    | refine g_cond rfl (fun h => ?_) (fun h => ?_)
    | refine g_end T hC (by kernel_rfl) ?_
    | refine g_splitD (fun h => ?_) (fun h => ?_)
    | refine g_splitG rfl rfl rfl (fun h => ?_) (fun h => ?_)
    | refine g_splitP rfl rfl (fun h => ?_) (fun h => ?_)
    | refine g_lenG T hC rfl rfl rfl rfl rfl rfl ?_
    | refine g_idx T hC rfl rfl rfl (by decide) rfl rfl rfl ?_
    | refine g_call hC (hN) rfl rfl (LeSs.refl _) rfl rfl rfl ?_
  all_goals exact g_fin ⟨.inl rfl, nm [0, 1, 0, 1], _, rfl, .refl _, ⟨rfl, rfl, trivial⟩, rfl, rfl⟩

theorem seq3 (R : Rws) (hR : R.length ≤ 500) (i : Nat) (r : Rw) (v : Int) (hq : R[i]? = some r) (hil : i < R.length) (hrl : 0 < r.length) (hv : r[0]? = some v) : FnOK Tryz.prog 57 [.one (.ar 0), aggS [ki 3, intsP [(i : Int)]]] [(0, vg 1 R.length), (1, bg R)] (.tup [.one (.ar 2), aggS (rsR (okR v))]) [(2, vg 3 R.length), (3, bg R)] := by
  have hN := result_ok v
  refine fn_ok T Tryz.func57 (by kernel_rfl) rfl rfl rfl rfl fun C hC => ?_
  repeat' first
    | refine g_go T hC true 400 rfl rfl ?_
    | (exfalso; first | (simp only [decide_eq_true_eq, decide_eq_false_iff_not, List.length_map, Bool.not_eq_true', Bool.not_eq_false'] at *; omega) | (simp at h; done))
    | refine g_cond rfl (fun h => ?_) (fun h => ?_)
    | refine g_end T hC (by kernel_rfl) ?_
    | refine g_splitD (fun h => ?_) (fun h => ?_)
    | refine g_splitG rfl rfl rfl (fun h => ?_) (fun h => ?_)
    | refine g_splitP rfl rfl (fun h => ?_) (fun h => ?_)
    | refine g_lenG T hC rfl rfl rfl rfl rfl rfl ?_
    | refine g_idx T hC rfl rfl rfl (by decide) rfl rfl rfl ?_
    | (refine g_idxR T hC (i) rfl rfl rfl rfl rfl (by omega) rfl rfl ?_; refine g_loadR T hC rfl rfl rfl (by omega) rfl rfl ?_)
    | (refine g_idxC T hC 0 hq (by omega) rfl rfl rfl rfl rfl rfl ?_; refine g_loadC T hC hq hv rfl rfl rfl rfl rfl ?_)
    | refine g_call hC (hN) rfl rfl (LeSs.refl _) rfl rfl rfl ?_
  all_goals exact g_fin ⟨.inl rfl, nm [0, 1, 0, 1], _, rfl, .refl _, ⟨rfl, rfl, trivial⟩, rfl, rfl⟩

theorem seq2 (R : Rws) (hR : R.length ≤ 500) (i : Nat) (r : Rw) (v : Int) (hq : R[i]? = some r) (hil : i < R.length) (hrl : 0 < r.length) (hv : r[0]? = some v) : FnOK Tryz.prog 57 [.one (.ar 0), aggS [ki 2, intsP [(i : Int)]]] [(0, vg 1 R.length), (1, bg R)] (.tup [.one (.ar 2), aggS (rsR (okR v))]) [(2, vg 3 (R.length - 1)), (3, bg (R.eraseIdx i))] := by
  have hN := result_ok v
  have hD := del_ok R i hil (by omega)
  refine fn_ok T Tryz.func57 (by kernel_rfl) rfl rfl rfl rfl fun C hC => ?_
  repeat' first
    | refine g_go T hC true 400 rfl rfl ?_
    | (exfalso; first | (simp only [decide_eq_true_eq, decide_eq_false_iff_not, List.length_map, Bool.not_eq_true', Bool.not_eq_false'] at *; omega) | (simp at h; done))
    | refine g_cond rfl (fun h => ?_) (fun h => ?_)
    | refine g_end T hC (by kernel_rfl) ?_
    | refine g_splitD (fun h => ?_) (fun h => ?_)
    | refine g_splitG rfl rfl rfl (fun h => ?_) (fun h => ?_)
    | refine g_splitP rfl rfl (fun h => ?_) (fun h => ?_)
    | refine g_lenG T hC rfl rfl rfl rfl rfl rfl ?_
    | refine g_idx T hC rfl rfl rfl (by decide) rfl rfl rfl ?_
    | (refine g_idxR T hC (i) rfl rfl rfl rfl rfl (by omega) rfl rfl ?_; refine g_loadR T hC rfl rfl rfl (by omega) rfl rfl ?_)
    | (refine g_idxC T hC 0 hq (by omega) rfl rfl rfl rfl rfl rfl ?_; refine g_loadC T hC hq hv rfl rfl rfl rfl rfl ?_)
    | (rw [wrapS (by omega)]; refine g_callR hC hD (nm [0, 1, 102, 103]) rfl rfl (LeSs.refl _) rfl rfl rfl rfl rfl rfl rfl rfl ?_)
    | refine g_call hC (hN) rfl rfl (LeSs.refl _) rfl rfl rfl ?_
  all_goals exact g_fin ⟨.inl rfl, nm [0, 1, 102, 103], _, rfl, .refl _, ⟨rfl, rfl, trivial⟩, rfl, rfl⟩

theorem seq4 (R : Rws) (hR : R.length ≤ 500) (i : Nat) (b : Int) (r : Rw) (v : Int) (hq : R[i]? = some r) (hil : i < R.length) (hrl : 0 < r.length) (hv : r[0]? = some v) : FnOK Tryz.prog 57 [.one (.ar 0), aggS [ki 4, intsP [(i : Int), b]]] [(0, vg 1 R.length), (1, bg R)] (.tup [.one (.ar 2), aggS (rsR (okR v))]) [(2, vg 3 R.length), (3, bg (R.set i (r.set 0 b)))] := by
  have hN := result_ok v
  refine fn_ok T Tryz.func57 (by kernel_rfl) rfl rfl rfl rfl fun C hC => ?_
  repeat' first
    | refine g_go T hC true 400 rfl rfl ?_
    | (exfalso; first | (simp only [decide_eq_true_eq, decide_eq_false_iff_not, List.length_map, Bool.not_eq_true', Bool.not_eq_false'] at *; omega) | (simp at h; done))
    | refine g_cond rfl (fun h => ?_) (fun h => ?_)
    | refine g_end T hC (by kernel_rfl) ?_
    | refine g_splitD (fun h => ?_) (fun h => ?_)
    | refine g_splitG rfl rfl rfl (fun h => ?_) (fun h => ?_)
    | refine g_splitP rfl rfl (fun h => ?_) (fun h => ?_)
    | refine g_lenG T hC rfl rfl rfl rfl rfl rfl ?_
    | refine g_idx T hC rfl rfl rfl (by decide) rfl rfl rfl ?_
    | (refine g_idxR T hC (i) rfl rfl rfl rfl rfl (by omega) rfl rfl ?_; refine g_loadR T hC rfl rfl rfl (by omega) rfl rfl ?_)
    | (refine g_idxC T hC 0 hq (by omega) rfl rfl rfl rfl rfl rfl ?_; refine g_loadC T hC hq hv rfl rfl rfl rfl rfl ?_)
    | (refine g_idxC T hC 0 hq (by omega) rfl rfl rfl rfl rfl rfl ?_)
    | (refine g_storeC T hC hq (by omega) rfl rfl rfl rfl rfl ?_)
    | refine g_call hC (hN) rfl rfl (LeSs.refl _) rfl rfl rfl ?_
  all_goals exact g_fin ⟨.inl rfl, nm [0, 1, 0, 1], _, rfl, .refl _, ⟨rfl, rfl, trivial⟩, rfl, rfl⟩

end Hw.Mq
namespace Hw.Mq
open Go Go.Proofs Go.Shelf Hw.M

/-! models: sums over rows of the run's own -/
theorem sum0_snoc (l : Rws) (r : Rw) : sum0 (l ++ [r]) = sum0 l + at0 r 0 := by simp [sum0]
theorem sum0_bound : ∀ {l : Rws} {n : Nat}, l.length ≤ n → (∀ r ∈ l, -1048576 ≤ at0 r 0 ∧ at0 r 0 ≤ 1048576) → -(1048576 * (n : Int)) ≤ sum0 l ∧ sum0 l ≤ 1048576 * (n : Int)
  | [], n, _, _ => by simp only [sum0, List.map_nil, List.sum_nil]; omega
  | r :: l, 0, h, _ => by simp at h
  | r :: l, n + 1, h, hb => by
    have h1 := hb r (List.mem_cons_self ..)
    have h2 := sum0_bound (l := l) (n := n) (by simpa using h) fun x hx => hb x (List.mem_cons_of_mem _ hx)
    simp only [sum0, List.map_cons, List.sum_cons] at h2 ⊢
    omega
theorem take_snoc {α : Type} {l : List α} {i : Nat} {x : α} (h : l[i]? = some x) : l.take (i + 1) = l.take i ++ [x] := by rw [List.take_add_one, h]; rfl
theorem seq5 (R : Rws) (hR : R.length ≤ 500) (a m : Nat) (ham : a + m ≤ R.length) (hn : ∀ r ∈ R, 0 < r.length ∧ -1048576 ≤ at0 r 0 ∧ at0 r 0 ≤ 1048576) :
    FnOK Tryz.prog 57 [.one (.ar 0), aggS [ki 5, intsP [(a : Int), ((a + m : Nat) : Int)]]] [(0, vg 1 R.length), (1, bg R)] (.tup [.one (.ar 2), aggS (rsR (okR (sum0 ((R.take (a + m)).drop a))))]) [(2, vg 3 R.length), (3, bg R)] := by
  have hLl : ((R.take (a + m)).drop a).length = m := by rw [List.length_drop, List.length_take]; omega
  have hLa : ∀ i, i < m → ((R.take (a + m)).drop a)[i]? = R[a + i]? := fun i hi => by rw [List.getElem?_drop, List.getElem?_take, if_pos (by omega)]
  have hLb : ∀ r ∈ (R.take (a + m)).drop a, -1048576 ≤ at0 r 0 ∧ at0 r 0 ≤ 1048576 := fun r hr => (hn r (List.mem_of_mem_take (List.mem_of_mem_drop hr))).2
  generalize (R.take (a + m)).drop a = L at hLl hLa hLb
  refine fn_ok T Tryz.func57 (by kernel_rfl) rfl rfl rfl rfl fun C hC => ?_
  repeat' first
    | refine g_go T hC true 400 rfl rfl ?_
    | (exfalso; first | (simp only [decide_eq_true_eq, decide_eq_false_iff_not, List.length_map, Bool.not_eq_true', Bool.not_eq_false'] at *; omega) | (simp at h; done))
    | refine g_cond rfl (fun h => ?_) (fun h => ?_)
    | refine g_end T hC (by kernel_rfl) ?_
    | refine g_splitD (fun h => ?_) (fun h => ?_)
    | refine g_splitG rfl rfl rfl (fun h => ?_) (fun h => ?_)
    | refine g_splitP rfl rfl (fun h => ?_) (fun h => ?_)
    | refine g_lenG T hC rfl rfl rfl rfl rfl rfl ?_
    | refine g_idx T hC rfl rfl rfl (by decide) rfl rfl rfl ?_
    | (refine g_svLH T hC rfl rfl rfl rfl rfl (Int.natCast_nonneg _) (by omega) (by rw [gr_len]; omega) rfl rfl ?_; rw [show ((a : Nat) : Int).toNat * 1 = a * 1 by rw [Int.toNat_natCast], show ((a + m : Nat) : Int).toNat - ((a : Nat) : Int).toNat = m by rw [Int.toNat_natCast, Int.toNat_natCast]; omega])
    | refine g_lenS T hC rfl rfl rfl rfl ?_
  refine g_loop (fun i : Nat => i ≤ m) (fun i => ([(0, .one (.ar 0)), (5, .one (.bx 1005 0)), (8, I (sum0 (L.take i))), (60, .one (.sv 0 (a * 1) m)), (61, I m), (62, I i)], [(0, some (vg 1 R.length)), (1, some (bg R)), (1005, some (.box [.p (ki 0), .p (ki 0), .p (.k (.slice none 0 0))]))])) (fun i => m - i) hC
    0 (Nat.zero_le _) id ⟨rfl, ⟨rfl, rfl, rfl, rfl, rfl, rfl, trivial⟩, ⟨rfl, rfl, rfl, trivial⟩, rfl, fun _ _ => rfl⟩ ?_
  intro i hi
  refine g_run' T hC true 200 rfl ?_
  refine g_cond rfl (fun h => ?_) (fun h => ?_)
  · have hlt : i < m := by simpa using h
    clear h
    have hail : a + i < R.length := by omega
    obtain ⟨r, hq⟩ := exists_at hail
    obtain ⟨h0, h1, h2⟩ := hn r (List.mem_of_getElem? hq)
    have hv : r[0]? = some (at0 r 0) := at0_lt h0
    have hb := sum0_bound (l := L.take i) (n := 500) (by rw [List.length_take]; omega) fun x hx => hLb x (List.mem_of_mem_take hx)
    have hsn := take_snoc (l := L) (i := i) (x := r) (by rw [hLa i hlt]; exact hq)
    repeat' first
      | refine g_go T hC true 400 rfl rfl ?_
      | refine g_cond rfl (fun h => ?_) (fun h => ?_)
      | refine g_end T hC (by kernel_rfl) ?_
      | refine g_splitD (fun h => ?_) (fun h => ?_)
      | refine g_splitG rfl rfl rfl (fun h => ?_) (fun h => ?_)
      | refine g_splitP rfl rfl (fun h => ?_) (fun h => ?_)
      | (refine g_idxSv T hC rfl rfl rfl (Int.natCast_nonneg _) (by omega) rfl rfl ?_; rw [show a * 1 + ((i : Nat) : Int).toNat * 1 = a + i by rw [Int.toNat_natCast]; omega])
      | (refine g_loadR T hC rfl rfl rfl (by omega) rfl rfl ?_)
      | (refine g_idxC T hC 0 hq h0 rfl rfl rfl rfl rfl rfl ?_)
      | (refine g_loadC T hC hq hv rfl rfl rfl rfl rfl ?_)
    rw [wrapS (by omega), wrap64 (n := sum0 (L.take i) + at0 r 0) (by omega), ← sum0_snoc, ← hsn]
    exact g_round (i + 1) (by omega) id (by omega) ⟨rfl, ⟨rfl, rfl, rfl, rfl, rfl, rfl, trivial⟩, ⟨rfl, rfl, rfl, trivial⟩, rfl, fun _ _ => rfl⟩
  · have hge : ¬ i < m := by simpa using h
    have hN := result_ok (sum0 (L.take i))
    have e : L.take i = L := List.take_of_length_le (by omega)
    rw [e] at hN ⊢
    repeat' first
      | refine g_go T hC true 400 rfl rfl ?_
      | refine g_cond rfl (fun h => ?_) (fun h => ?_)
      | refine g_end T hC (by kernel_rfl) ?_
      | refine g_splitD (fun h => ?_) (fun h => ?_)
      | refine g_splitG rfl rfl rfl (fun h => ?_) (fun h => ?_)
      | refine g_splitP rfl rfl (fun h => ?_) (fun h => ?_)
      | refine g_outE ?_
      | refine g_call hC (hN) rfl rfl (LeSs.refl _) rfl rfl rfl ?_
    exact g_fin ⟨.inl rfl, nm [0, 1, 0, 1], _, rfl, .refl _, ⟨rfl, rfl, trivial⟩, rfl, rfl⟩
end Hw.Mq
