/- The engine and the contracts. -/
import Derived.Test.YtnijeifpjjeccaaC14
set_option linter.unusedVariables false
set_option linter.unusedSimpArgs false
namespace Hw.Mo
open Go Go.Proofs Go.Shelf Hw.M

/-! models: sequences, plain -/
theorem sum0_app (a b : Rws) : sum0 (a ++ b) = sum0 a + sum0 b := by simp [sum0]
theorem sum0_rev (a : Rws) : sum0 a.reverse = sum0 a := by
  unfold sum0
  rw [List.map_reverse, List.sum_reverse]
def sumP (R : Rws) (i j : Nat) : Int := sum0 ((R.take j).drop i)
theorem three (R : Rws) {i j k : Nat} (h1 : i ≤ j) (h2 : j ≤ k) (h3 : k ≤ R.length) : ∃ A B C D : Rws, R = A ++ (B ++ (C ++ D)) ∧ A.length = i ∧ B.length = j - i ∧ C.length = k - j := by
  refine ⟨R.take i, (R.take j).drop i, (R.take k).drop j, R.drop k, ?_, by rw [List.length_take]; omega, by rw [List.length_drop, List.length_take]; omega, by rw [List.length_drop, List.length_take]; omega⟩
  have e1 : (R.take k).drop j ++ R.drop k = R.drop j := by
    conv => rhs; rw [← List.take_append_drop k R, List.drop_append_of_le_length (by rw [List.length_take]; omega)]
  have e2 : (R.take j).drop i ++ R.drop j = R.drop i := by
    conv => rhs; rw [← List.take_append_drop j R, List.drop_append_of_le_length (by rw [List.length_take]; omega)]
  rw [e1, e2, List.take_append_drop]
theorem part_mid (A B C : Rws) : ((A ++ (B ++ C)).take (A.length + B.length)).drop A.length = B := by
  rw [← List.append_assoc, List.take_append_of_le_length (by rw [List.length_append]; omega), show A.length + B.length = (A ++ B).length by rw [List.length_append], List.take_length, List.drop_left]
theorem rev_mid (A B C : Rws) : revR (A ++ (B ++ C)) A.length (A.length + B.length) = A ++ (B.reverse ++ C) := by
  unfold revR
  rw [part_mid, List.take_left, ← List.append_assoc A B C, show A.length + B.length = (A ++ B).length by rw [List.length_append], List.drop_left, List.append_assoc]
theorem rev_twice {R : Rws} {i j : Nat} (h1 : i ≤ j) (h2 : j ≤ R.length) : revR (revR R i j) i j = R := by
  obtain ⟨A, B, C, D, rfl, ha, hb, _⟩ := three R h1 h2 (Nat.le_refl _)
  have hj : j = A.length + B.length := by omega
  subst ha
  rw [hj, rev_mid]
  have := rev_mid A B.reverse (C ++ D)
  rw [List.length_reverse] at this
  rw [this, List.reverse_reverse]
theorem sumP_add {R : Rws} {i j k : Nat} (h1 : i ≤ j) (h2 : j ≤ k) (h3 : k ≤ R.length) : sumP R i j + sumP R j k = sumP R i k := by
  obtain ⟨A, B, C, D, rfl, ha, hb, hc⟩ := three R h1 h2 h3
  have hj : j = A.length + B.length := by omega
  have hk : k = (A ++ B).length + C.length := by rw [List.length_append]; omega
  have hk2 : k = A.length + (B ++ C).length := by rw [List.length_append]; omega
  unfold sumP
  have e1 : ((A ++ (B ++ (C ++ D))).take j).drop i = B := by rw [hj, ← ha]; exact part_mid A B (C ++ D)
  have e2 : ((A ++ (B ++ (C ++ D))).take k).drop j = C := by
    rw [hk, hj, show A.length + B.length = (A ++ B).length by rw [List.length_append], ← List.append_assoc]
    exact part_mid (A ++ B) C D
  have e3 : ((A ++ (B ++ (C ++ D))).take k).drop i = B ++ C := by
    rw [hk2, ← ha, ← List.append_assoc B C D]
    exact part_mid A (B ++ C) D
  rw [e1, e2, e3, sum0_app]
theorem sumP_rev {R : Rws} {i j k : Nat} (h1 : i ≤ j) (h2 : j ≤ k) (h3 : k ≤ R.length) : sumP (revR R i j) i k = sumP R i k := by
  obtain ⟨A, B, C, D, rfl, ha, hb, hc⟩ := three R h1 h2 h3
  have hj : j = A.length + B.length := by omega
  have hk2 : k = A.length + (B ++ C).length := by rw [List.length_append]; omega
  have hk3 : k = A.length + (B.reverse ++ C).length := by rw [List.length_append, List.length_reverse]; omega
  have e0 : revR (A ++ (B ++ (C ++ D))) i j = A ++ (B.reverse ++ (C ++ D)) := by rw [hj, ← ha]; exact rev_mid A B (C ++ D)
  unfold sumP
  rw [e0]
  have e1 : ((A ++ (B ++ (C ++ D))).take k).drop i = B ++ C := by
    rw [hk2, ← ha, ← List.append_assoc B C D]
    exact part_mid A (B ++ C) D
  have e2 : ((A ++ (B.reverse ++ (C ++ D))).take k).drop i = B.reverse ++ C := by
    rw [hk3, ← ha, ← List.append_assoc B.reverse C D]
    exact part_mid A (B.reverse ++ C) D
  rw [e1, e2, sum0_app, sum0_app, sum0_rev]
theorem rev_len {R : Rws} {i j : Nat} (h1 : i ≤ j) (h2 : j ≤ R.length) : (revR R i j).length = R.length := by
  simp only [revR, List.length_append, List.length_reverse, List.length_take, List.length_drop]; omega
theorem ins_row {R : Rws} {j : Nat} (x : Rw) (h : j ≤ R.length) : (insR R j x)[j]? = some x := by
  unfold insR
  rw [List.getElem?_append_right (by rw [List.length_take]; omega), List.length_take, Nat.min_eq_left h, Nat.sub_self]; rfl
theorem ins_erase {R : Rws} {j : Nat} (x : Rw) (h : j ≤ R.length) : (insR R j x).eraseIdx j = R := by
  unfold insR
  rw [List.eraseIdx_append_of_length_le (by rw [List.length_take]; omega), List.length_take, Nat.min_eq_left h, Nat.sub_self]
  show R.take j ++ R.drop j = R
  exact List.take_append_drop j R
theorem step3 (R : Rws) (o : OpT) : stepS 3 R o = seqS R o := rfl
theorem seq_sum {R : Rws} {i j : Nat} (h1 : i ≤ j) (h2 : j ≤ R.length) : stepS 3 R ⟨5, [(i : Int), (j : Int)]⟩ = (R, okR (sumP R i j)) := by
  rw [step3]; simp only [seqS]; rw [if_neg (by decide), if_pos (by simp)]
  exact (if_neg (by show ¬ ((i : Int) < 0 ∨ (j : Int) < i ∨ (R.length : Int) < j); omega)).trans (if_neg (by decide))
theorem seq_rev {R : Rws} {i j : Nat} (h1 : i ≤ j) (h2 : j ≤ R.length) : stepS 3 R ⟨6, [(i : Int), (j : Int)]⟩ = (revR R i j, okR 0) := by
  rw [step3]; simp only [seqS]; rw [if_neg (by decide), if_pos (by simp)]
  exact (if_neg (by show ¬ ((i : Int) < 0 ∨ (j : Int) < i ∨ (R.length : Int) < j); omega)).trans (if_pos trivial)
theorem seq_ins {R : Rws} {j : Nat} (v : Int) (h2 : j ≤ R.length) (h5 : R.length < 500) : stepS 3 R ⟨1, [(j : Int), v]⟩ = (insR R j [v], okR 0) := by
  rw [step3]; simp only [seqS]; rw [if_neg (by decide), if_neg (by decide), if_pos trivial]
  exact (if_neg (by show ¬ ((j : Int) < 0 ∨ (R.length : Int) < j); omega)).trans (if_neg (by omega))
theorem seq_get {R : Rws} {j : Nat} {v : Int} (h : R[j]? = some [v]) : stepS 3 R ⟨3, [(j : Int)]⟩ = (R, okR v) := by
  have hlt := (List.getElem?_eq_some_iff.1 h).1
  rw [step3]; simp only [seqS]; rw [if_neg (by decide), if_neg (by decide), if_neg (by decide)]
  have e : (rowA R j) = [v] := rowA_of h
  refine (if_neg (by show ¬ ((j : Int) < 0 ∨ (R.length : Int) ≤ j); omega)).trans ?_
  show (R, okR (at0 (rowA R j) 0)) = _
  rw [e]; rfl
theorem seq_del {R : Rws} {j : Nat} {v : Int} (h : R[j]? = some [v]) : stepS 3 R ⟨2, [(j : Int)]⟩ = (R.eraseIdx j, okR v) := by
  have hlt := (List.getElem?_eq_some_iff.1 h).1
  rw [step3]; simp only [seqS]; rw [if_neg (by decide), if_neg (by decide), if_neg (by decide)]
  have e : (rowA R j) = [v] := rowA_of h
  refine (if_neg (by show ¬ ((j : Int) < 0 ∨ (R.length : Int) ≤ j); omega)).trans ?_
  show (R.eraseIdx j, okR (at0 (rowA R j) 0)) = _
  rw [e]; rfl
theorem seq_size (R : Rws) : stepS 3 R ⟨7, []⟩ = (R, okR R.length) := rfl
theorem seq_len {R : Rws} {o : OpT} : (seqS R o).1.length ≤ R.length + 1 := by
  unfold seqS
  simp only
  repeat' first | (simp only; omega) | (simp only [List.length_set]; omega) | (have := erase_le' R (at0 o.args 0).toNat; simp only; omega) | (simp only [revR, insR, List.length_append, List.length_reverse, List.length_cons, List.length_take, List.length_drop]; omega) | split
theorem run_le3 : ∀ (l : List OpT) (R : Rws), (runS 3 R l).1.length ≤ R.length + l.length
  | [], R => by simp [runS]
  | o :: l, R => by
    have h1 := run_le3 l (stepS 3 R o).1
    have h2 : (stepS 3 R o).1.length ≤ R.length + 1 := seq_len
    simp only [runS, List.length_cons]
    omega
theorem sort_three (X Y Z : Int) : ∃ a b c, sortI [X, Y, Z] = [a, b, c] ∧ a ≤ b ∧ b ≤ c ∧ (a = X ∨ a = Y ∨ a = Z) ∧ (b = X ∨ b = Y ∨ b = Z) ∧ (c = X ∨ c = Y ∨ c = Z) := by
  obtain ⟨a, b, c, e⟩ := len3 (l := sortI [X, Y, Z]) (by rw [sortI_len]; rfl)
  have hp := sortI_perm [X, Y, Z]
  have ha := sortI_asc [X, Y, Z]
  rw [e] at hp ha
  have h1 : a ∈ [X, Y, Z] := hp.mem_iff.1 (by simp)
  have h2 : b ∈ [X, Y, Z] := hp.mem_iff.1 (by simp)
  have h3 : c ∈ [X, Y, Z] := hp.mem_iff.1 (by simp)
  simp at ha
  exact ⟨a, b, c, e, ha.1.1, ha.2, by simpa using h1, by simpa using h2, by simpa using h3⟩
end Hw.Mo
namespace Hw.Mo
open Go Go.Proofs Go.Shelf Hw.M

/-! models: the law of sequences -/
abbrev S8 := {n : Int // 0 ≤ n ∧ n ≤ 255}
abbrev S16 := {n : Int // -32768 ≤ n ∧ n ≤ 32767}
theorem seqL_out (l : List OpT) (a b c v : Int) (h0 : shortB l = false ∨ l.all (okOp 3) = false) : FnOK Try.prog 5 [pS (opsP l), .one (.p (.k (.int .u8 a))), .one (.p (.k (.int .u8 b))), .one (.p (.k (.int .u8 c))), .one (.p (.k (.int .i16 v)))] [] (.bq true) [] := by
  have hL := short_ok l
  have hA := rValidAll_ok 3 l
  cases hs : shortB l with
  | false =>
    rw [hs] at hL
    refine fn_ok T Try.func5 (by kernel_rfl) rfl rfl rfl rfl fun C hC => ?_
    repeat' first
      | refine g_go T hC true 400 rfl rfl ?_
      | (exfalso; simp at h; done)
      | refine g_cond rfl (fun h => ?_) (fun h => ?_)
      | refine g_end T hC (by kernel_rfl) ?_
      | refine g_splitD (fun h => ?_) (fun h => ?_)
      | refine g_splitG rfl rfl rfl (fun h => ?_) (fun h => ?_)
      | refine g_splitP rfl rfl (fun h => ?_) (fun h => ?_)
      | refine g_call hC (awake_ok) rfl rfl (LeSs.refl _) rfl rfl rfl ?_
      | refine g_call hC (hL) rfl rfl (LeSs.refl _) rfl rfl rfl ?_
      | refine g_call hC (hA) rfl rfl (LeSs.refl _) rfl rfl rfl ?_
    all_goals exact g_fin ⟨.inl rfl, id, _, rfl, .refl _, trivial, rfl, rfl⟩
  | true =>
    rw [hs] at hL
    rw [h0.resolve_left (by rw [hs]; decide)] at hA
    refine fn_ok T Try.func5 (by kernel_rfl) rfl rfl rfl rfl fun C hC => ?_
    repeat' first
      | refine g_go T hC true 400 rfl rfl ?_
      | (exfalso; simp at h; done)
      | refine g_cond rfl (fun h => ?_) (fun h => ?_)
      | refine g_end T hC (by kernel_rfl) ?_
      | refine g_splitD (fun h => ?_) (fun h => ?_)
      | refine g_splitG rfl rfl rfl (fun h => ?_) (fun h => ?_)
      | refine g_splitP rfl rfl (fun h => ?_) (fun h => ?_)
      | refine g_call hC (awake_ok) rfl rfl (LeSs.refl _) rfl rfl rfl ?_
      | refine g_call hC (hL) rfl rfl (LeSs.refl _) rfl rfl rfl ?_
      | refine g_call hC (hA) rfl rfl (LeSs.refl _) rfl rfl rfl ?_
    all_goals exact g_fin ⟨.inl rfl, id, _, rfl, .refl _, trivial, rfl, rfl⟩
theorem seq_ok2 {c a b : Int} (hc : c = 1 ∨ c = 5 ∨ c = 6) (ha : -1048576 ≤ a ∧ a ≤ 1048576) (hb : -1048576 ≤ b ∧ b ≤ 1048576) : okOp 3 ⟨c, [a, b]⟩ = true := by
  rcases hc with rfl | rfl | rfl <;> simp [okOp, wordsL, numB] <;> omega
theorem seq_ok1 {c a : Int} (hc : c = 2 ∨ c = 3) (ha : -1048576 ≤ a ∧ a ≤ 1048576) : okOp 3 ⟨c, [a]⟩ = true := by
  rcases hc with rfl | rfl <;> simp [okOp, wordsL, numB] <;> omega
set_option maxHeartbeats 4000000 in
set_option maxRecDepth 100000 in
theorem modelSeq_ok (l : List OpT) (a b c v : Int) (ha : 0 ≤ a ∧ a ≤ 255) (hb : 0 ≤ b ∧ b ≤ 255) (hc : 0 ≤ c ∧ c ≤ 255) (hv : -32768 ≤ v ∧ v ≤ 32767) : FnOK Try.prog 5 [pS (opsP l), .one (.p (.k (.int .u8 a))), .one (.p (.k (.int .u8 b))), .one (.p (.k (.int .u8 c))), .one (.p (.k (.int .i16 v)))] [] (.bq true) [] := by
  by_cases h0 : shortB l = false ∨ l.all (okOp 3) = false
  · exact seqL_out l a b c v h0
  have hs : shortB l = true := by
    cases hs : shortB l with
    | true => rfl
    | false => exact absurd (.inl hs) h0
  have hall : l.all (okOp 3) = true := by
    cases hs : l.all (okOp 3) with
    | true => rfl
    | false => exact absurd (.inr hs) h0
  have hl40 : l.length ≤ 40 := by
    have := hs
    unfold shortB at this
    simp only [Bool.and_eq_true, decide_eq_true_eq] at this
    omega
  have hok : ∀ o ∈ l, okOp 3 o = true := List.all_eq_true.1 hall
  have hany : (l.any fun o => !okOp 3 o) = false := by
    rw [List.any_eq_false]
    intro o ho
    rw [hok o ho]; decide
  have hL := short_ok l
  rw [hs] at hL
  have hVA := rValidAll_ok 3 l
  rw [hall] at hVA
  have hN := new_ok (k := 3) (by decide)
  have hRun := mRun_yes 3 [] l (by decide) hany (by omega)
  have hvR := run_valid (k := 3) (R := []) (l := l) (by decide) hok
  have hRl := run_le3 l []
  generalize runS 3 [] l = zz at hRun hvR hRl
  obtain ⟨R, xs⟩ := zz
  simp only [List.length_nil, Nat.zero_add] at hRun hvR hRl
  obtain ⟨_, hT⟩ := valid3 hvR
  have hR40 : R.length ≤ 40 := by omega
  clear h0 hs hall hok hany hRl hl40
  have hnb : ∀ r ∈ R, -1048576 ≤ at0 r 0 ∧ at0 r 0 ≤ 1048576 := fun r hr => num_bd (hT.nums r hr _ (List.mem_of_getElem? (at0_lt (l := r) (i := 0) (by rw [hT.wide r hr]; decide))))
  have hK7 := ask_ok 3 R 7 [] _ hvR (by decide) (seq_size R)
  have hn1 : IntKind.i64.wrap ((okR (R.length : Int)).n + 1) = (R.length : Int) + 1 := wrap64 (n := (R.length : Int) + 1) (by omega)
  have ht : ∀ x : Int, 0 ≤ x ∧ x ≤ 255 → (IntKind.i64.wrap x).tmod ((R.length : Int) + 1) = x % ((R.length : Int) + 1) := fun x hx => by rw [wrap64 (n := x) (by omega), Int.tmod_eq_emod_of_nonneg hx.1]
  have hr : ∀ x : Int, 0 ≤ x % ((R.length : Int) + 1) ∧ x % ((R.length : Int) + 1) ≤ R.length := fun x => ⟨Int.emod_nonneg _ (by omega), by have := Int.emod_lt_of_pos x (b := (R.length : Int) + 1) (by omega); omega⟩
  have ha1 := ht a ha
  have hb1 := ht b hb
  have hc1 := ht c hc
  have ha2 := hr a
  have hb2 := hr b
  have hc2 := hr c
  clear ht hr
  generalize a % ((R.length : Int) + 1) = X at ha1 ha2
  generalize b % ((R.length : Int) + 1) = Y at hb1 hb2
  generalize c % ((R.length : Int) + 1) = Z at hc1 hc2
  have hS := sort_ok [X, Y, Z] (by simp)
  obtain ⟨p0, p1, p2, hsort, hij, hjk, h3, h4, h5⟩ := sort_three X Y Z
  rw [hsort] at hS
  obtain ⟨i, rfl⟩ : ∃ i : Nat, p0 = i := ⟨p0.toNat, by omega⟩
  obtain ⟨j, rfl⟩ : ∃ i : Nat, p1 = i := ⟨p1.toNat, by omega⟩
  obtain ⟨k, rfl⟩ : ∃ i : Nat, p2 = i := ⟨p2.toNat, by omega⟩
  have hkn : k ≤ R.length := by omega
  have hij : i ≤ j := by omega
  have hjk : j ≤ k := by omega
  clear h3 h4 h5 hsort
  have hA1 := ask_ok 3 R 5 [(i : Int), (j : Int)] _ hvR (seq_ok2 (.inr (.inl rfl)) (by omega) (by omega)) (seq_sum hij (by omega))
  have hA2 := ask_ok 3 R 5 [(j : Int), (k : Int)] _ hvR (seq_ok2 (.inr (.inl rfl)) (by omega) (by omega)) (seq_sum hjk hkn)
  have hA3 := ask_ok 3 R 5 [(i : Int), (k : Int)] _ hvR (seq_ok2 (.inr (.inl rfl)) (by omega) (by omega)) (seq_sum (by omega) hkn)
  have hadd := sumP_add hij hjk hkn
  have hbd : -41943040 ≤ sumP R i k ∧ sumP R i k ≤ 41943040 := by
    have := sum0_bound (l := (R.take k).drop i) (n := 40) (by rw [List.length_drop, List.length_take]; omega) fun r hr => hnb r (List.mem_of_mem_take (List.mem_of_mem_drop hr))
    unfold sumP; omega
  have hw : IntKind.i64.wrap (sumP R i j + sumP R j k) = sumP R i k := by rw [hadd]; exact wrap64 (by omega)
  have ho6 := seq_ok2 (c := 6) (a := i) (b := j) (.inr (.inr rfl)) (by omega) (by omega)
  have hrev := seq_rev hij (show j ≤ R.length by omega)
  have hrl := rev_len hij (show j ≤ R.length by omega)
  have hB1 := mApply_yes 3 R ⟨6, [(i : Int), (j : Int)]⟩ hvR ho6
  have hvT := step_valid hvR ho6
  rw [hrev] at hB1 hvT
  have hB2 := mApply_yes 3 (revR R i j) ⟨6, [(i : Int), (j : Int)]⟩ hvT ho6
  rw [seq_rev hij (by rw [hrl]; omega), rev_twice hij (by omega)] at hB2
  have hA4 := ask_ok 3 (revR R i j) 5 [(i : Int), (k : Int)] _ hvT (seq_ok2 (.inr (.inl rfl)) (by omega) (by omega)) (seq_sum (by omega) (by rw [hrl]; exact hkn))
  rw [sumP_rev hij hjk hkn] at hA4
  have ho1 := seq_ok2 (c := 1) (a := j) (b := v) (.inl rfl) (by omega) (by omega)
  have hI := mApply_yes 3 R ⟨1, [(j : Int), v]⟩ hvR ho1
  have hvI := step_valid hvR ho1
  rw [seq_ins v (by omega) (by omega)] at hI hvI
  have hrow := ins_row (R := R) (j := j) [v] (by omega)
  have hG := ask_ok 3 (insR R j [v]) 3 [(j : Int)] _ hvI (seq_ok1 (.inr rfl) (by omega)) (seq_get hrow)
  have hD := mApply_yes 3 (insR R j [v]) ⟨2, [(j : Int)]⟩ hvI (seq_ok1 (.inl rfl) (by omega))
  rw [seq_del hrow, ins_erase [v] (by omega)] at hD
  have hSm := mSame_ok 3 3 R R
  rw [show (decide ((3 : Int) = 3) && decide (R = R)) = true by simp] at hSm
  have hQ1 := sameRes_ok (okR (sumP R i k)) (okR (sumP R i k))
  rw [decide_eq_true rfl] at hQ1
  have hQ2 := sameRes_ok (okR v) (okR v)
  rw [decide_eq_true rfl] at hQ2
  have hv1 : IntKind.i64.wrap v = v := wrap64 (by omega)
  clear hT hnb hvT hvI hrow
  refine fn_ok T Try.func5 (by kernel_rfl) rfl rfl rfl rfl fun C hC => ?_
  repeat' first
    | refine g_go T hC true 400 rfl rfl ?_
    | (exfalso; simp [hw, okR] at h; done)
    | (exfalso; have h2 : (40 : Int) < (R.length : Int) := of_decide_eq_true h; omega)
    | (exfalso; have h2 : ((R.length : Nat) : Int) < 0 := of_decide_eq_true h; omega)
    | refine g_cond rfl (fun h => ?_) (fun h => ?_)
    | refine g_end T hC (by kernel_rfl) ?_
    | refine g_splitD (fun h => ?_) (fun h => ?_)
    | refine g_splitG rfl rfl rfl (fun h => ?_) (fun h => ?_)
    | refine g_splitP rfl rfl (fun h => ?_) (fun h => ?_)
    | refine g_call hC (awake_ok) rfl rfl (LeSs.refl _) rfl rfl rfl ?_
    | refine g_call hC (hL) rfl rfl (LeSs.refl _) rfl rfl rfl ?_
    | refine g_call hC (hVA) rfl rfl (LeSs.refl _) rfl rfl rfl ?_
    | refine g_call hC (hN) rfl rfl (LeSs.refl _) rfl rfl rfl ?_
    | refine g_call hC (hRun) rfl rfl (LeSs.refl _) rfl rfl rfl ?_
    | (refine g_call hC hK7 rfl rfl (LeSs.cons (.refl _) (LeSs.cons (.refl _) (LeSs.cons (LeS.one (.nil 1)) .nil))) rfl rfl rfl ?_)
    | (rw [hn1]; refine g_rem hC rfl rfl (by omega) rfl rfl ?_)
    | (rw [ha1, hb1, hc1]; refine g_litA T hC (d := 101) rfl rfl rfl rfl rfl rfl rfl rfl rfl rfl ?_)
    | (refine g_callR hC hS (nm [1101]) rfl rfl (LeSs.refl _) rfl rfl rfl rfl rfl rfl rfl rfl ?_; refine g_freeze rfl (id := 1101) (e := 1) (rows := [(i : Int), (j : Int), (k : Int)].map intR) rfl [(17, pS (intsP [(i : Int), (j : Int), (k : Int)]))] ⟨⟨_, rfl, FrS.ar⟩, trivial⟩ [] trivial ?_)
    | refine g_idx T hC rfl rfl rfl (by decide) rfl rfl rfl ?_
    | refine g_lit T hC rfl rfl rfl rfl rfl rfl rfl rfl rfl ?_
    | refine g_call hC (hA1) rfl rfl (LeSs.refl _) rfl rfl rfl ?_
    | refine g_call hC (hA2) rfl rfl (LeSs.refl _) rfl rfl rfl ?_
    | refine g_call hC (hA3) rfl rfl (LeSs.refl _) rfl rfl rfl ?_
    | refine g_call hC (op_ok 6 [(i : Int), (j : Int)]) rfl rfl (LeSs.refl _) rfl rfl rfl ?_
    | refine g_call hC (hB1) rfl rfl (LeSs.refl _) rfl rfl rfl ?_
    | refine g_call hC (hB2) rfl rfl (LeSs.refl _) rfl rfl rfl ?_
    | refine g_call hC (hSm) rfl rfl (LeSs.refl _) rfl rfl rfl ?_
    | refine g_call hC (hA4) rfl rfl (LeSs.refl _) rfl rfl rfl ?_
    | refine g_call hC (hQ1) rfl rfl (LeSs.refl _) rfl rfl rfl ?_
    | (rw [hv1]; refine g_call hC (op_ok 1 [(j : Int), v]) rfl rfl (LeSs.refl _) rfl rfl rfl ?_)
    | refine g_call hC (hI) rfl rfl (LeSs.refl _) rfl rfl rfl ?_
    | refine g_call hC (hG) rfl rfl (LeSs.refl _) rfl rfl rfl ?_
    | refine g_call hC (op_ok 2 [(j : Int)]) rfl rfl (LeSs.refl _) rfl rfl rfl ?_
    | refine g_call hC (hD) rfl rfl (LeSs.refl _) rfl rfl rfl ?_
    | (rw [hv1]; refine g_call hC hQ2 rfl rfl (LeSs.refl _) rfl rfl rfl ?_)
    | refine g_call hC (hQ2) rfl rfl (LeSs.refl _) rfl rfl rfl ?_
  all_goals exact g_fin ⟨.inl rfl, id, _, rfl, by first | exact .refl _ | exact LeS.qb rfl | exact LeS.qq rfl, trivial, rfl, rfl⟩
theorem modelSeq_row (l : List OpT) (a b c : S8) (v : S16) : FnOK Try.prog 5 [pS (opsP l), .one (.p (.k (.int .u8 a.1))), .one (.p (.k (.int .u8 b.1))), .one (.p (.k (.int .u8 c.1))), .one (.p (.k (.int .i16 v.1)))] [] (.bq true) [] := modelSeq_ok l a.1 b.1 c.1 v.1 a.2 b.2 c.2 v.2
end Hw.Mo
