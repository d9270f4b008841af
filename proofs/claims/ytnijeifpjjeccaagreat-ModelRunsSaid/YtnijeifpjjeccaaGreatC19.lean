/- The engine and the contracts. -/
import Derived.Test.YtnijeifpjjeccaaGreatC18
import Derived.Test.YtnijeifpjjeccaaGreatC3
set_option linter.unusedVariables false
set_option linter.unusedSimpArgs false
namespace Hw.Mz
open Go Go.Proofs Go.Shelf Hw.M

/-! models: the law of Apply -/
theorem few_len' {R : Rws} (h : fewB R = true) : R.length ≤ 1000000 ∧ ∀ r ∈ R, r.length ≤ 1000000 := by
  unfold fewB at h
  simp only [Bool.and_eq_true, Bool.or_eq_true, decide_eq_true_eq, Bool.not_eq_true', List.any_eq_false] at h
  refine ⟨by omega, fun r hr => ?_⟩
  have := h.2 r hr
  simp only [longR, Bool.or_eq_true, Bool.and_eq_true, decide_eq_true_eq] at this
  omega
end Hw.Mz
namespace Hw.Mz
open Go Go.Proofs Go.Shelf Hw.M

/-! slices.Repeat of one operation, 2001 times; Steps -/
theorem mul64_ok : FnOK Tryz.prog 74 [Kk .u64 1, Kk .u64 2001] [] (.tup [Kk .u64 0, Kk .u64 2001]) [] := by
  refine fn_ok T Tryz.func74 (by kernel_rfl) rfl rfl rfl rfl fun C hC => ?_
  repeat' first
    | refine g_go T hC true 400 rfl rfl ?_
    | refine g_cond rfl (fun h => ?_) (fun h => ?_)
    | refine g_end T hC (by kernel_rfl) ?_
    | refine g_splitD (fun h => ?_) (fun h => ?_)
    | refine g_splitG rfl rfl rfl (fun h => ?_) (fun h => ?_)
    | refine g_splitP rfl rfl (fun h => ?_) (fun h => ?_)
    | refine g_bin hC (.int .u64 1) rfl rfl rfl (fun w => ⟨rfl, rfl⟩) rfl rfl ?_
    | refine g_bin hC (.int .u64 0) rfl rfl rfl (fun w => ⟨rfl, rfl⟩) rfl rfl ?_
    | refine g_bin hC (.int .u64 2001) rfl rfl rfl (fun w => ⟨rfl, rfl⟩) rfl rfl ?_
  exact g_fin ⟨.inl rfl, id, _, rfl, .of (by rfl), trivial, rfl, rfl⟩
theorem mul_ok : FnOK Tryz.prog 44 [Kk .u64 1, Kk .u64 2001] [] (.tup [Kk .u64 0, Kk .u64 2001]) [] := by
  refine fn_ok T Tryz.func44 (by kernel_rfl) rfl rfl rfl rfl fun C hC => ?_
  repeat' first
    | refine g_go T hC true 400 rfl rfl ?_
    | (exfalso; simp at h; done)
    | refine g_cond rfl (fun h => ?_) (fun h => ?_)
    | refine g_end T hC (by kernel_rfl) ?_
    | refine g_splitD (fun h => ?_) (fun h => ?_)
    | refine g_splitG rfl rfl rfl (fun h => ?_) (fun h => ?_)
    | refine g_splitP rfl rfl (fun h => ?_) (fun h => ?_)
    | refine g_call hC (mul64_ok) rfl rfl (LeSs.refl _) rfl rfl rfl ?_
  exact g_fin ⟨.inl rfl, id, _, rfl, .refl _, trivial, rfl, rfl⟩
def opz : List PV := [ki 0, .k (.slice none 0 0)]
def repL (N : Nat) (o : OpT) (n : Nat) : List (List PV) := List.replicate n (opR o) ++ List.replicate (N - n) opz
theorem repL_len {N : Nat} {o : OpT} {n : Nat} (h : n ≤ N) : (repL N o n).length = N := by simp [repL]; omega
theorem repL_take {N : Nat} {o : OpT} {n c : Nat} (h : c ≤ n) : (repL N o n).take c = List.replicate c (opR o) := by
  unfold repL
  rw [List.take_append_of_le_length (by simp; omega), List.take_replicate, Nat.min_eq_left h]
theorem repL_drop {N : Nat} {o : OpT} {n m : Nat} (h : n ≤ m) : (repL N o n).drop m = List.replicate (N - m) opz := by
  unfold repL
  rw [List.drop_append, List.drop_of_length_le (by simp; omega), List.nil_append, List.length_replicate, List.drop_replicate]
  congr 1; omega
theorem repL_next {N : Nat} {o : OpT} {n : Nat} : (repL N o n).take n ++ (repL N o n).take (min n (N - n)) ++ (repL N o n).drop (n + min n (N - n)) = repL N o (n + min n (N - n)) := by
  rw [repL_take (Nat.le_refl n), repL_take (Nat.min_le_left _ _), repL_drop (by omega), List.replicate_append_replicate]; rfl
set_option maxRecDepth 100000 in
theorem repeat_ok (N : Nat) (hN : 2001 = N) (o : OpT) : FnOK Tryz.prog 16 [pS (opsP [o]), I 2001] [] (pS (opsP (List.replicate N o))) [] := by
  have hmk : List.replicate N opz = repL N o 0 := by unfold repL; rw [List.replicate_zero, List.nil_append]; rfl
  have hNI : some (I 2001) = some (I (N : Int)) := by rw [← hN]; rfl
  refine fn_ok T Tryz.func16 (by kernel_rfl) rfl rfl rfl rfl fun C hC => ?_
  repeat' first
    | refine g_go T hC true 400 rfl rfl ?_
    | (exfalso; simp at h; done)
    | refine g_cond rfl (fun h => ?_) (fun h => ?_)
    | refine g_end T hC (by kernel_rfl) ?_
    | refine g_splitD (fun h => ?_) (fun h => ?_)
    | refine g_splitG rfl rfl rfl (fun h => ?_) (fun h => ?_)
    | refine g_splitP rfl rfl (fun h => ?_) (fun h => ?_)
    | refine g_call hC (mul_ok) rfl rfl (LeSs.refl _) rfl rfl rfl ?_
    | (refine g_mk T hC N hNI hNI rfl rfl rfl rfl rfl rfl (by omega) rfl rfl rfl ?_)
    | (refine g_copyP T hC (id := 1030) (rows := List.replicate N opz) (rows2 := [opR o]) (rows3 := repL N o 1) rfl rfl rfl rfl (by rw [List.length_replicate, List.length_singleton]; omega) (by rw [hmk, List.length_singleton, repL_drop (by omega)]; rfl) rfl rfl ?_)
  refine g_loop (fun n : Nat => 1 ≤ n ∧ n ≤ N) (fun n => ([(7, .one (.ar 1030)), (8, I n)], [(1030, some (.arr 2 (repL N o n)))])) (fun n => N - n) hC
    1 ⟨Nat.le_refl _, by omega⟩ id ⟨rfl, ⟨rfl, rfl, trivial⟩, ⟨rfl, trivial⟩, rfl, fun _ _ => rfl⟩ ?_
  rintro n ⟨hn1, hn2⟩
  have hl := repL_len (o := o) hn2
  have hnx := repL_next (N := N) (o := o) (n := n)
  refine g_run' T hC true 200 rfl ?_
  refine g_cond rfl (fun h => ?_) (fun h => ?_)
  · have hlt : n < N := by have := of_decide_eq_true h; omega
    clear h
    have hw : IntKind.i64.wrap ((n : Int) + ((min n (N - n) : Nat) : Int)) = ((n + min n (N - n) : Nat) : Int) := by rw [wrap64 (by omega)]; omega
    repeat' first
      | refine g_go T hC true 400 rfl rfl ?_
      | refine g_cond rfl (fun h => ?_) (fun h => ?_)
      | refine g_end T hC (by kernel_rfl) ?_
      | refine g_splitD (fun h => ?_) (fun h => ?_)
      | refine g_splitG rfl rfl rfl (fun h => ?_) (fun h => ?_)
      | refine g_splitP rfl rfl (fun h => ?_) (fun h => ?_)
      | (refine g_svLA T hC (id := 1030) (rows := repL N o n) rfl rfl rfl rfl (Int.natCast_nonneg _) (by omega) rfl rfl ?_)
      | (refine g_svHA T hC (id := 1030) (rows := repL N o n) rfl rfl rfl rfl (Int.natCast_nonneg _) (by omega) rfl rfl ?_)
      | (refine g_copyI T hC (id := 1030) (e := 2) n ((repL N o n).length - (n : Int).toNat) (min n (N - n)) (rows := repL N o n) (rows3 := repL N o (n + min n (N - n))) rfl rfl rfl rfl rfl (by rw [Int.toNat_natCast]; omega) (by rw [Int.toNat_natCast, hl]) hnx rfl rfl ?_)
    rw [hw]
    exact g_round (n + min n (N - n)) ⟨by omega, by omega⟩ id (by omega) ⟨rfl, ⟨rfl, rfl, trivial⟩, ⟨rfl, trivial⟩, rfl, fun _ _ => rfl⟩
  · have hge : N = n := by have := of_decide_eq_false h; omega
    subst hge
    have he : repL N o N = (List.replicate N o).map opR := by unfold repL; rw [Nat.sub_self, List.replicate_zero, List.append_nil, List.map_replicate]
    rw [he]
    repeat' first
      | refine g_go T hC true 400 rfl rfl ?_
      | refine g_cond rfl (fun h => ?_) (fun h => ?_)
      | refine g_end T hC (by kernel_rfl) ?_
      | refine g_splitD (fun h => ?_) (fun h => ?_)
      | refine g_splitG rfl rfl rfl (fun h => ?_) (fun h => ?_)
      | refine g_splitP rfl rfl (fun h => ?_) (fun h => ?_)
      | refine g_outE ?_
    refine g_freeze rfl (id := 1030) (e := 2) (rows := (List.replicate N o).map opR) rfl [(4, pS (opsP (List.replicate N o)))] ⟨⟨_, rfl, FrS.ar⟩, trivial⟩ [] trivial ?_
    exact g_fin ⟨.inl rfl, id, _, rfl, .refl _, trivial, rfl, rfl⟩
theorem steps_ok (k : Int) (R : Rws) (l : List OpT) (hv : validS k R = true) (hok : ∀ o ∈ l, okOp k o = true) (hl : l.length ≤ 1000) : FnOK Tryz.prog 20 [aggS (stR k R), pS (opsP l)] [] (.tup [aggS (stR k (runS k R l).1), pS (rssP (runS k R l).2)]) [] := by
  have hlm : (l.map opR).length = l.length := List.length_map _
  refine fn_ok T Tryz.func20 (by kernel_rfl) rfl rfl rfl rfl fun C hC => ?_
  repeat' first
    | refine g_go T hC true 400 rfl rfl ?_
    | refine g_cond rfl (fun h => ?_) (fun h => ?_)
    | refine g_end T hC (by kernel_rfl) ?_
    | refine g_splitD (fun h => ?_) (fun h => ?_)
    | refine g_splitG rfl rfl rfl (fun h => ?_) (fun h => ?_)
    | refine g_splitP rfl rfl (fun h => ?_) (fun h => ?_)
  refine g_adopt hC rfl 103 3 rfl [(6, .one (.ar 103))] ⟨⟨_, rfl, AdS.nil⟩, trivial⟩ [] trivial ?_
  refine g_loop (fun i : Nat => i ≤ l.length) (fun i => ([(1, pS (opsP l)), (2, .one (.bx 1002 0)), (4, .one (.bx 1004 0)), (6, .one (.ar 103)), (7, I i)], [(103, some (.arr 3 ((runS k R (l.take i)).2.map rsR))), (1002, some (.box [.p (ki k), .p (rowsP (runS k R (l.take i)).1)])), (1004, some (.box [.p (ki 0), .p (.k (.slice none 0 0))]))])) (fun i => l.length - i) hC
    0 (Nat.zero_le _) id ⟨rfl, ⟨rfl, rfl, rfl, rfl, rfl, trivial⟩, ⟨rfl, rfl, rfl, trivial⟩, rfl, fun _ _ => rfl⟩ ?_
  intro i hi
  refine g_run' T hC true 200 rfl ?_
  refine g_cond rfl (fun h => ?_) (fun h => ?_)
  · have hlt : i < l.length := by simpa using h
    clear h
    obtain ⟨o, ho⟩ := exists_at hlt
    have hvi := run_valid (k := k) (R := R) (l := l.take i) hv fun o ho => hok o (List.mem_of_mem_take ho)
    have hA := rStep_ok k (runS k R (l.take i)).1 o hvi (hok o (List.mem_of_getElem? ho))
    have hsn := run_snoc k R (l.take i) o
    rw [← take_snoc ho] at hsn
    have hrl := run_len k R (l.take i)
    rw [List.length_take] at hrl
    generalize runS k R (l.take i) = z at hA hsn hrl
    obtain ⟨Ri, xs⟩ := z
    simp only at hA hsn hrl
    generalize stepS k Ri o = z2 at hA hsn
    obtain ⟨Rn, x⟩ := z2
    simp only at hA hsn
    have hxl : (xs.map rsR).length = xs.length := List.length_map _
    repeat' first
      | refine g_go T hC true 400 rfl rfl ?_
      | refine g_cond rfl (fun h => ?_) (fun h => ?_)
      | refine g_end T hC (by kernel_rfl) ?_
      | refine g_splitD (fun h => ?_) (fun h => ?_)
      | refine g_splitG rfl rfl rfl (fun h => ?_) (fun h => ?_)
      | refine g_splitP rfl rfl (fun h => ?_) (fun h => ?_)
      | refine g_idx T hC rfl rfl rfl (Int.natCast_nonneg _) (map_at ho) rfl rfl ?_
      | refine g_call hC (hA) rfl rfl (LeSs.refl _) rfl rfl rfl ?_
      | refine g_lit T hC rfl rfl rfl rfl rfl rfl rfl rfl rfl ?_
      | refine g_append T 106 hC (id := 103) (rows := xs.map rsR) (rows2 := [rsR x]) (rows3 := (xs ++ [x]).map rsR) (bytes := 40) rfl rfl rfl rfl (SrcS.sl (T.es_ok _ _ rfl)) (by rw [List.map_append]; rfl) rfl rfl rfl (by kernel_rfl) (by simp only [hxl, List.length_singleton]; omega) (by simp only [hxl, List.length_singleton]; omega) rfl rfl rfl ?_
    rw [wrapS (by omega)]
    refine g_round (i + 1) (by omega) (mvU 103 106) (by omega) ?_
    simp only [hsn]
    exact ⟨rfl, ⟨rfl, rfl, rfl, rfl, rfl, trivial⟩, ⟨rfl, rfl, rfl, trivial⟩, rfl, fun i hi => mvU_low (by omega) hi⟩
  · have hge : ¬ i < l.length := by simpa using h
    have e : l.take i = l := List.take_of_length_le (by omega)
    rw [e]
    generalize runS k R l = z
    obtain ⟨Rn, xs⟩ := z
    repeat' first
      | refine g_go T hC true 400 rfl rfl ?_
      | refine g_cond rfl (fun h => ?_) (fun h => ?_)
      | refine g_end T hC (by kernel_rfl) ?_
      | refine g_splitD (fun h => ?_) (fun h => ?_)
      | refine g_splitG rfl rfl rfl (fun h => ?_) (fun h => ?_)
      | refine g_splitP rfl rfl (fun h => ?_) (fun h => ?_)
      | refine g_outE ?_
    refine g_freeze rfl (id := 103) (e := 3) (rows := xs.map rsR) rfl [(5, pS (rssP xs))] ⟨⟨_, rfl, FrS.ar⟩, trivial⟩ [] trivial ?_
    exact g_fin ⟨.inl rfl, id, _, rfl, .refl _, trivial, rfl, rfl⟩
end Hw.Mz
