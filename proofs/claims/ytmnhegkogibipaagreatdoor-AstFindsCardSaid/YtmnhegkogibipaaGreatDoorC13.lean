/- The engine and the contracts. -/
import Derived.Test.YtmnhegkogibipaaGreatDoorC12
set_option linter.unusedVariables false
set_option linter.unusedSimpArgs false
namespace Hw.Z
open Go Go.Proofs Hw.M

theorem rsameStmts_ok : ∀ (N : Nat) (a b : List Sm), SizeOf.sizeOf a < N → FnOK Tryz.prog 127 [pS (stmtsP a), pS (stmtsP b)] [] (.bq (eqL sameS a b)) [] := by
  intro N
  induction N with
  | zero => intro a b h; omega
  | succ N ih =>
  intro a b hN
  refine fn_ok T Tryz.func127 (by kernel_rfl) rfl rfl rfl rfl fun C hC => ?_
  refine g_len 0 rfl fun hlen => ?_
  rw [List.length_map] at hlen
  repeat' first
    | refine g_go T hC true 400 rfl rfl ?_
    | refine g_cond rfl (fun h => ?_) (fun h => ?_)
    | refine g_end T hC (by kernel_rfl) ?_
    | refine g_splitD (fun h => ?_) (fun h => ?_)
    | refine g_splitG rfl rfl rfl (fun h => ?_) (fun h => ?_)
    | refine g_splitP rfl rfl (fun h => ?_) (fun h => ?_)
    | refine g_retl T (.inl rfl) rfl ?_
  all_goals (try simp only [List.length_map] at *)
  · have : ¬ (a.length : Int) = (b.length : Int) := by simpa using h
    exact (eqL_len fun e => this (by rw [e])).symm
  · have hab : a.length = b.length := by have : (a.length : Int) = (b.length : Int) := by simpa using h
                                         omega
    clear h
    refine g_loop (fun i : Nat => i ≤ a.length ∧ eqL sameS (a.drop i) (b.drop i) = eqL sameS a b) (fun i => ([(0, pS (stmtsP a)), (1, pS (stmtsP b)), (5, I i)], [])) (fun i => a.length - i) hC
      0 ⟨Nat.zero_le _, rfl⟩ id ⟨rfl, ⟨rfl, rfl, rfl, trivial⟩, trivial, rfl, fun _ _ => rfl⟩ ?_
    rintro i ⟨hi, hn⟩
    refine g_run' T hC true 200 rfl ?_
    refine g_cond rfl (fun h => ?_) (fun h => ?_)
    · have hlt : i < a.length := by have := of_decide_eq_true h; simp only [List.length_map] at this; omega
      clear h
      obtain ⟨x, hx⟩ := exists_at hlt
      obtain ⟨y, hy⟩ := exists_at (hab ▸ hlt)
      have hxs := List.sizeOf_lt_of_mem (List.mem_of_getElem? hx)
      have hsub := sm_sub x
      have hL := ih x.l y.l (by omega)
      have hS := ih x.els y.els (by omega)
      have hE := fun (u : Ex) (v : Ex) => rsameExpr_ok (SizeOf.sizeOf u + 1) u v (by omega)
      rw [drop_at hx, drop_at hy, eqL, sameS_eq] at hn
      generalize eqL sameS x.l y.l = q2 at hL hn
      generalize eqL sameS x.els y.els = q3 at hS hn
      repeat' first
        | refine g_go T hC true 400 rfl rfl ?_
        | refine g_cond rfl (fun h => ?_) (fun h => ?_)
        | refine g_end T hC (by kernel_rfl) ?_
        | refine g_splitD (fun h => ?_) (fun h => ?_)
        | refine g_splitG rfl rfl rfl (fun h => ?_) (fun h => ?_)
        | refine g_splitP rfl rfl (fun h => ?_) (fun h => ?_)
        | refine g_idx T hC rfl rfl rfl (Int.natCast_nonneg _) (map_atS hx) rfl rfl ?_
        | refine g_idx T hC rfl rfl rfl (Int.natCast_nonneg _) (map_atS hy) rfl rfl ?_
        | refine g_call hC (hL) rfl rfl (LeSs.refl _) rfl rfl rfl ?_
        | refine g_call hC (hS) rfl rfl (LeSs.refl _) rfl rfl rfl ?_
        | refine g_outR ?_
        | refine g_retl T (.inl rfl) rfl ?_
      all_goals (try simp only [List.length_map] at *)
      all_goals first
        | (rw [← hn]; clear ih hE hL hS hn; simp_all; done)
        | (rw [← hn, eqL_len (a := x.e) (b := y.e) (fun e => by simp [e] at h)]; simp; done)
        | skip
      have hy9 : (decide (x.op = y.op) && decide (x.s = y.s) && q2 && q3) = true ∧ (x.e.length : Int) = y.e.length := by
        clear ih hE hL hS hn; simp_all
      have hel : x.e.length = y.e.length := by have := hy9.2; omega
      have hn2 : (eqL sameE x.e y.e && eqL sameS (a.drop (i + 1)) (b.drop (i + 1))) = eqL sameS a b := by
        rw [← hn]
        have h9 := hy9.1
        simp only [Bool.and_eq_true] at h9
        rw [h9.1.1.1, h9.1.1.2, h9.1.2, h9.2]
        simp
      clear hn hy9
      refine g_len 47 rfl fun hlen2 => ?_
      rw [List.length_map] at hlen2
      refine g_loop (fun j : Nat => j ≤ x.e.length ∧ eqL sameE (x.e.drop j) (y.e.drop j) = eqL sameE x.e y.e) (fun j => ([(0, pS (stmtsP a)), (1, pS (stmtsP b)), (5, I i), (6, I j)], [])) (fun j => x.e.length - j) hC
        0 ⟨Nat.zero_le _, rfl⟩ id ⟨rfl, ⟨rfl, rfl, rfl, rfl, trivial⟩, trivial, rfl, fun _ _ => rfl⟩ ?_
      rintro j ⟨hj, hm⟩
      repeat' first
        | refine g_go T hC true 400 rfl rfl ?_
        | refine g_cond rfl (fun h => ?_) (fun h => ?_)
        | refine g_end T hC (by kernel_rfl) ?_
        | refine g_splitD (fun h => ?_) (fun h => ?_)
        | refine g_splitG rfl rfl rfl (fun h => ?_) (fun h => ?_)
        | refine g_splitP rfl rfl (fun h => ?_) (fun h => ?_)
        | refine g_idx T hC rfl rfl rfl (Int.natCast_nonneg _) (map_atS hx) rfl rfl ?_
        | refine g_idx T hC rfl rfl rfl (Int.natCast_nonneg _) (map_atS hy) rfl rfl ?_
      · have hjl : j < x.e.length := by have := of_decide_eq_true h; simp only [List.length_map] at this; omega
        obtain ⟨u, hu⟩ := exists_at hjl
        obtain ⟨v, hv⟩ := exists_at (hel ▸ hjl)
        have hEE := hE u v
        rw [drop_at hu, drop_at hv, eqL] at hm
        repeat' first
          | refine g_go T hC true 400 rfl rfl ?_
          | refine g_cond rfl (fun h => ?_) (fun h => ?_)
          | refine g_end T hC (by kernel_rfl) ?_
          | refine g_splitD (fun h => ?_) (fun h => ?_)
          | refine g_splitG rfl rfl rfl (fun h => ?_) (fun h => ?_)
          | refine g_splitP rfl rfl (fun h => ?_) (fun h => ?_)
          | refine g_idx T hC rfl rfl rfl (Int.natCast_nonneg _) (map_atS hx) rfl rfl ?_
          | refine g_idx T hC rfl rfl rfl (Int.natCast_nonneg _) (map_atS hy) rfl rfl ?_
          | refine g_idx T hC rfl rfl rfl (Int.natCast_nonneg _) (map_atE hu) rfl rfl ?_
          | refine g_idx T hC rfl rfl rfl (Int.natCast_nonneg _) (map_atE hv) rfl rfl ?_
          | refine g_call hC (hEE) rfl rfl (LeSs.refl _) rfl rfl rfl ?_
          | refine g_outR ?_
          | refine g_retl T (.inl rfl) rfl ?_
        · have huv : sameE u v = false := by simpa using h
          rw [huv] at hm
          rw [← hn2, ← hm]; rfl
        · have huv : sameE u v = true := by simpa using h
          rw [huv, Bool.true_and] at hm
          rw [wrap64 (by omega)]
          exact g_round (j + 1) ⟨by omega, hm⟩ id (by omega) ⟨rfl, ⟨rfl, rfl, rfl, rfl, trivial⟩, trivial, rfl, fun _ _ => rfl⟩
      · have hge : ¬ j < x.e.length := by have := of_decide_eq_false h; simp only [List.length_map] at this; omega
        rw [List.drop_eq_nil_of_le (by omega), List.drop_eq_nil_of_le (by omega)] at hm
        rw [← hm, eqL, Bool.true_and] at hn2
        repeat' first
          | refine g_go T hC true 400 rfl rfl ?_
          | refine g_cond rfl (fun h => ?_) (fun h => ?_)
          | refine g_end T hC (by kernel_rfl) ?_
          | refine g_splitD (fun h => ?_) (fun h => ?_)
          | refine g_splitG rfl rfl rfl (fun h => ?_) (fun h => ?_)
          | refine g_splitP rfl rfl (fun h => ?_) (fun h => ?_)
          | refine g_outE ?_
        rw [wrap64 (by omega)]
        exact g_round (i + 1) ⟨by omega, hn2⟩ id (by omega) ⟨rfl, ⟨rfl, rfl, rfl, trivial⟩, trivial, rfl, fun _ _ => rfl⟩
    · have hge : ¬ i < a.length := by have := of_decide_eq_false h; simp only [List.length_map] at this; omega
      repeat' first
        | refine g_go T hC true 400 rfl rfl ?_
        | refine g_cond rfl (fun h => ?_) (fun h => ?_)
        | refine g_end T hC (by kernel_rfl) ?_
        | refine g_splitD (fun h => ?_) (fun h => ?_)
        | refine g_splitG rfl rfl rfl (fun h => ?_) (fun h => ?_)
        | refine g_splitP rfl rfl (fun h => ?_) (fun h => ?_)
        | refine g_outE ?_
        | refine g_retl T (.inl rfl) rfl ?_
      rw [List.drop_eq_nil_of_le (by omega), List.drop_eq_nil_of_le (by omega)] at hn
      exact hn
end Hw.Z
namespace Hw.Z
open Go Go.Proofs Hw.M

def sameFm (a b : Desc) : Bool := eqL sameM a.measures b.measures && eqL sameI a.invs b.invs && eqL sameO a.pots b.pots && eqL sameB a.bounds b.bounds
theorem sameFormulas_ok (a b : Desc) : FnOK Tryz.prog 126 [aggS (descR a), aggS (descR b)] [] (.bq (sameFm a b)) [] := by
  have hno4 : eqL sameM a.measures b.measures = false → sameFm a b = false := fun h => by unfold sameFm; rw [h]; rfl
  have hno5 : eqL sameI a.invs b.invs = false → sameFm a b = false := fun h => by unfold sameFm; rw [h]; simp
  have hno6 : eqL sameO a.pots b.pots = false → sameFm a b = false := fun h => by unfold sameFm; rw [h]; simp
  have hno7 : eqL sameB a.bounds b.bounds = false → sameFm a b = false := fun h => by unfold sameFm; rw [h]; simp
  have hE := fun (u : Ex) (v : Ex) => rsameExpr_ok (SizeOf.sizeOf u + 1) u v (by omega)
  refine fn_ok T Tryz.func126 (by kernel_rfl) rfl rfl rfl rfl fun C hC => ?_
  refine g_lenA rfl 0 4 rfl rfl fun l4 => ?_
  refine g_lenA rfl 0 5 rfl rfl fun l5 => ?_
  refine g_lenA rfl 0 6 rfl rfl fun l6 => ?_
  refine g_lenA rfl 0 7 rfl rfl fun l7 => ?_
  rw [List.length_map] at l4 l5 l6 l7
  repeat' first
    | refine g_go T hC true 400 rfl rfl ?_
    | refine g_cond rfl (fun h => ?_) (fun h => ?_)
    | refine g_end T hC (by kernel_rfl) ?_
    | refine g_splitD (fun h => ?_) (fun h => ?_)
    | refine g_splitG rfl rfl rfl (fun h => ?_) (fun h => ?_)
    | refine g_splitP rfl rfl (fun h => ?_) (fun h => ?_)
    | refine g_retl T (.inl rfl) rfl ?_
  all_goals (try simp only [List.length_map] at *)
  all_goals first
    | (refine (hno4 (eqL_len fun e => ?_)).symm; simp [e] at h; done)
    | (refine (hno5 (eqL_len fun e => ?_)).symm; simp [e] at h; done)
    | (refine (hno6 (eqL_len fun e => ?_)).symm; simp [e] at h; done)
    | (refine (hno7 (eqL_len fun e => ?_)).symm; simp [e] at h; done)
    | skip
  have he : a.measures.length = b.measures.length ∧ a.invs.length = b.invs.length ∧ a.pots.length = b.pots.length ∧ a.bounds.length = b.bounds.length := by
    clear hno4 hno5 hno6 hno7 hE
    simp only [Bool.not_eq_false', decide_eq_true_eq] at *
    omega
  obtain ⟨he4, he5, he6, he7⟩ := he
  clear h
  refine g_loop (fun i : Nat => i ≤ a.measures.length ∧ eqL sameM (a.measures.drop i) (b.measures.drop i) = eqL sameM a.measures b.measures) (fun i => ([(2, .one (.bx 1002 0)), (3, .one (.bx 1003 0)), (5, I i)], [(1002, some (.box ((descR a).map V.p))), (1003, some (.box ((descR b).map V.p)))])) (fun i => a.measures.length - i) hC
    0 ⟨Nat.zero_le _, rfl⟩ id ⟨rfl, ⟨rfl, rfl, rfl, trivial⟩, ⟨rfl, rfl, trivial⟩, rfl, fun _ _ => rfl⟩ ?_
  rintro i ⟨hi, hn⟩
  refine g_run' T hC true 200 rfl ?_
  refine g_cond rfl (fun h => ?_) (fun h => ?_)
  · have hlt : i < a.measures.length := by have := of_decide_eq_true h; simp only [List.length_map] at this; omega
    clear h
    obtain ⟨x, hx⟩ := exists_at hlt
    obtain ⟨y, hy⟩ := exists_at (l := b.measures) (i := i) (by omega)
    rw [drop_at hx, drop_at hy, eqL] at hn
    have hX := hE x.x y.x
    repeat' first
      | refine g_go T hC true 400 rfl rfl ?_
      | refine g_cond rfl (fun h => ?_) (fun h => ?_)
      | refine g_end T hC (by kernel_rfl) ?_
      | refine g_splitD (fun h => ?_) (fun h => ?_)
      | refine g_splitG rfl rfl rfl (fun h => ?_) (fun h => ?_)
      | refine g_splitP rfl rfl (fun h => ?_) (fun h => ?_)
      | refine g_idx T hC rfl rfl rfl (Int.natCast_nonneg _) (map_at hx) rfl rfl ?_
      | refine g_idx T hC rfl rfl rfl (Int.natCast_nonneg _) (map_at hy) rfl rfl ?_
      | refine g_call hC (hX) rfl rfl (LeSs.refl _) rfl rfl rfl ?_
      | refine g_outR ?_
      | refine g_retl T (.inl rfl) rfl ?_
    all_goals (try simp only [List.length_map] at *)
    all_goals first
      | (refine (hno4 ?_).symm
         rw [← hn, show sameM x y = false by unfold sameM; clear hn hx hy hno4 hno5 hno6 hno7 hE hX; simp_all]
         rfl)
      | (have hxy : sameM x y = true := by unfold sameM; clear hn hx hy hno4 hno5 hno6 hno7 hE hX; simp_all
         rw [hxy, Bool.true_and] at hn
         rw [wrap64 (by omega)]
         exact g_round (i + 1) ⟨by omega, hn⟩ id (by omega) ⟨rfl, ⟨rfl, rfl, rfl, trivial⟩, ⟨rfl, rfl, trivial⟩, rfl, fun _ _ => rfl⟩)
  have hge : ¬ i < a.measures.length := by have := of_decide_eq_false h; simp only [List.length_map] at this; omega
  rw [List.drop_eq_nil_of_le (by omega), List.drop_eq_nil_of_le (by omega)] at hn
  have hk4 : eqL sameM a.measures b.measures = true := hn.symm
  clear h hge hn hi
  repeat' first
    | refine g_go T hC true 400 rfl rfl ?_
    | refine g_cond rfl (fun h => ?_) (fun h => ?_)
    | refine g_end T hC (by kernel_rfl) ?_
    | refine g_splitD (fun h => ?_) (fun h => ?_)
    | refine g_splitG rfl rfl rfl (fun h => ?_) (fun h => ?_)
    | refine g_splitP rfl rfl (fun h => ?_) (fun h => ?_)
    | refine g_outE ?_
  refine g_loop (fun i : Nat => i ≤ a.invs.length ∧ eqL sameI (a.invs.drop i) (b.invs.drop i) = eqL sameI a.invs b.invs) (fun i => ([(2, .one (.bx 1002 0)), (3, .one (.bx 1003 0)), (8, I i)], [(1002, some (.box ((descR a).map V.p))), (1003, some (.box ((descR b).map V.p)))])) (fun i => a.invs.length - i) hC
    0 ⟨Nat.zero_le _, rfl⟩ id ⟨rfl, ⟨rfl, rfl, rfl, trivial⟩, ⟨rfl, rfl, trivial⟩, rfl, fun _ _ => rfl⟩ ?_
  rintro i ⟨hi, hn⟩
  refine g_run' T hC true 200 rfl ?_
  refine g_cond rfl (fun h => ?_) (fun h => ?_)
  · have hlt : i < a.invs.length := by have := of_decide_eq_true h; simp only [List.length_map] at this; omega
    clear h
    obtain ⟨x, hx⟩ := exists_at hlt
    obtain ⟨y, hy⟩ := exists_at (l := b.invs) (i := i) (by omega)
    rw [drop_at hx, drop_at hy, eqL] at hn
    have hX := hE x.x y.x
    repeat' first
      | refine g_go T hC true 400 rfl rfl ?_
      | refine g_cond rfl (fun h => ?_) (fun h => ?_)
      | refine g_end T hC (by kernel_rfl) ?_
      | refine g_splitD (fun h => ?_) (fun h => ?_)
      | refine g_splitG rfl rfl rfl (fun h => ?_) (fun h => ?_)
      | refine g_splitP rfl rfl (fun h => ?_) (fun h => ?_)
      | refine g_idx T hC rfl rfl rfl (Int.natCast_nonneg _) (map_at hx) rfl rfl ?_
      | refine g_idx T hC rfl rfl rfl (Int.natCast_nonneg _) (map_at hy) rfl rfl ?_
      | refine g_call hC (hX) rfl rfl (LeSs.refl _) rfl rfl rfl ?_
      | refine g_outR ?_
      | refine g_retl T (.inl rfl) rfl ?_
    all_goals (try simp only [List.length_map] at *)
    all_goals first
      | (refine (hno5 ?_).symm
         rw [← hn, show sameI x y = false by unfold sameI; clear hn hx hy hno4 hno5 hno6 hno7 hE hX; simp_all]
         rfl)
      | (have hxy : sameI x y = true := by unfold sameI; clear hn hx hy hno4 hno5 hno6 hno7 hE hX; simp_all
         rw [hxy, Bool.true_and] at hn
         rw [wrap64 (by omega)]
         exact g_round (i + 1) ⟨by omega, hn⟩ id (by omega) ⟨rfl, ⟨rfl, rfl, rfl, trivial⟩, ⟨rfl, rfl, trivial⟩, rfl, fun _ _ => rfl⟩)
  have hge : ¬ i < a.invs.length := by have := of_decide_eq_false h; simp only [List.length_map] at this; omega
  rw [List.drop_eq_nil_of_le (by omega), List.drop_eq_nil_of_le (by omega)] at hn
  have hk5 : eqL sameI a.invs b.invs = true := hn.symm
  clear h hge hn hi
  repeat' first
    | refine g_go T hC true 400 rfl rfl ?_
    | refine g_cond rfl (fun h => ?_) (fun h => ?_)
    | refine g_end T hC (by kernel_rfl) ?_
    | refine g_splitD (fun h => ?_) (fun h => ?_)
    | refine g_splitG rfl rfl rfl (fun h => ?_) (fun h => ?_)
    | refine g_splitP rfl rfl (fun h => ?_) (fun h => ?_)
    | refine g_outE ?_
  refine g_loop (fun i : Nat => i ≤ a.pots.length ∧ eqL sameO (a.pots.drop i) (b.pots.drop i) = eqL sameO a.pots b.pots) (fun i => ([(2, .one (.bx 1002 0)), (3, .one (.bx 1003 0)), (11, I i)], [(1002, some (.box ((descR a).map V.p))), (1003, some (.box ((descR b).map V.p)))])) (fun i => a.pots.length - i) hC
    0 ⟨Nat.zero_le _, rfl⟩ id ⟨rfl, ⟨rfl, rfl, rfl, trivial⟩, ⟨rfl, rfl, trivial⟩, rfl, fun _ _ => rfl⟩ ?_
  rintro i ⟨hi, hn⟩
  refine g_run' T hC true 200 rfl ?_
  refine g_cond rfl (fun h => ?_) (fun h => ?_)
  · have hlt : i < a.pots.length := by have := of_decide_eq_true h; simp only [List.length_map] at this; omega
    clear h
    obtain ⟨x, hx⟩ := exists_at hlt
    obtain ⟨y, hy⟩ := exists_at (l := b.pots) (i := i) (by omega)
    rw [drop_at hx, drop_at hy, eqL] at hn
    have hX := hE x.x y.x
    repeat' first
      | refine g_go T hC true 400 rfl rfl ?_
      | refine g_cond rfl (fun h => ?_) (fun h => ?_)
      | refine g_end T hC (by kernel_rfl) ?_
      | refine g_splitD (fun h => ?_) (fun h => ?_)
      | refine g_splitG rfl rfl rfl (fun h => ?_) (fun h => ?_)
      | refine g_splitP rfl rfl (fun h => ?_) (fun h => ?_)
      | refine g_idx T hC rfl rfl rfl (Int.natCast_nonneg _) (map_at hx) rfl rfl ?_
      | refine g_idx T hC rfl rfl rfl (Int.natCast_nonneg _) (map_at hy) rfl rfl ?_
      | refine g_call hC (hX) rfl rfl (LeSs.refl _) rfl rfl rfl ?_
      | refine g_outR ?_
      | refine g_retl T (.inl rfl) rfl ?_
    all_goals (try simp only [List.length_map] at *)
    all_goals first
      | (refine (hno6 ?_).symm
         rw [← hn, show sameO x y = false by unfold sameO; clear hn hx hy hno4 hno5 hno6 hno7 hE hX; simp_all]
         rfl)
      | (have hxy : sameO x y = true := by unfold sameO; clear hn hx hy hno4 hno5 hno6 hno7 hE hX; simp_all
         rw [hxy, Bool.true_and] at hn
         rw [wrap64 (by omega)]
         exact g_round (i + 1) ⟨by omega, hn⟩ id (by omega) ⟨rfl, ⟨rfl, rfl, rfl, trivial⟩, ⟨rfl, rfl, trivial⟩, rfl, fun _ _ => rfl⟩)
  have hge : ¬ i < a.pots.length := by have := of_decide_eq_false h; simp only [List.length_map] at this; omega
  rw [List.drop_eq_nil_of_le (by omega), List.drop_eq_nil_of_le (by omega)] at hn
  have hk6 : eqL sameO a.pots b.pots = true := hn.symm
  clear h hge hn hi
  repeat' first
    | refine g_go T hC true 400 rfl rfl ?_
    | refine g_cond rfl (fun h => ?_) (fun h => ?_)
    | refine g_end T hC (by kernel_rfl) ?_
    | refine g_splitD (fun h => ?_) (fun h => ?_)
    | refine g_splitG rfl rfl rfl (fun h => ?_) (fun h => ?_)
    | refine g_splitP rfl rfl (fun h => ?_) (fun h => ?_)
    | refine g_outE ?_
  refine g_loop (fun i : Nat => i ≤ a.bounds.length ∧ eqL sameB (a.bounds.drop i) (b.bounds.drop i) = eqL sameB a.bounds b.bounds) (fun i => ([(2, .one (.bx 1002 0)), (3, .one (.bx 1003 0)), (12, I i)], [(1002, some (.box ((descR a).map V.p))), (1003, some (.box ((descR b).map V.p)))])) (fun i => a.bounds.length - i) hC
    0 ⟨Nat.zero_le _, rfl⟩ id ⟨rfl, ⟨rfl, rfl, rfl, trivial⟩, ⟨rfl, rfl, trivial⟩, rfl, fun _ _ => rfl⟩ ?_
  rintro i ⟨hi, hn⟩
  refine g_run' T hC true 200 rfl ?_
  refine g_cond rfl (fun h => ?_) (fun h => ?_)
  · have hlt : i < a.bounds.length := by have := of_decide_eq_true h; simp only [List.length_map] at this; omega
    clear h
    obtain ⟨x, hx⟩ := exists_at hlt
    obtain ⟨y, hy⟩ := exists_at (l := b.bounds) (i := i) (by omega)
    rw [drop_at hx, drop_at hy, eqL] at hn
    have hX := hE x.x y.x
    repeat' first
      | refine g_go T hC true 400 rfl rfl ?_
      | refine g_cond rfl (fun h => ?_) (fun h => ?_)
      | refine g_end T hC (by kernel_rfl) ?_
      | refine g_splitD (fun h => ?_) (fun h => ?_)
      | refine g_splitG rfl rfl rfl (fun h => ?_) (fun h => ?_)
      | refine g_splitP rfl rfl (fun h => ?_) (fun h => ?_)
      | refine g_idx T hC rfl rfl rfl (Int.natCast_nonneg _) (map_at hx) rfl rfl ?_
      | refine g_idx T hC rfl rfl rfl (Int.natCast_nonneg _) (map_at hy) rfl rfl ?_
      | refine g_call hC (hX) rfl rfl (LeSs.refl _) rfl rfl rfl ?_
      | refine g_outR ?_
      | refine g_retl T (.inl rfl) rfl ?_
    all_goals (try simp only [List.length_map] at *)
    all_goals first
      | (refine (hno7 ?_).symm
         rw [← hn, show sameB x y = false by unfold sameB; clear hn hx hy hno4 hno5 hno6 hno7 hE hX; simp_all]
         rfl)
      | (have hxy : sameB x y = true := by unfold sameB; clear hn hx hy hno4 hno5 hno6 hno7 hE hX; simp_all
         rw [hxy, Bool.true_and] at hn
         rw [wrap64 (by omega)]
         exact g_round (i + 1) ⟨by omega, hn⟩ id (by omega) ⟨rfl, ⟨rfl, rfl, rfl, trivial⟩, ⟨rfl, rfl, trivial⟩, rfl, fun _ _ => rfl⟩)
  have hge : ¬ i < a.bounds.length := by have := of_decide_eq_false h; simp only [List.length_map] at this; omega
  rw [List.drop_eq_nil_of_le (by omega), List.drop_eq_nil_of_le (by omega)] at hn
  have hk7 : eqL sameB a.bounds b.bounds = true := hn.symm
  clear h hge hn hi
  repeat' first
    | refine g_go T hC true 400 rfl rfl ?_
    | refine g_cond rfl (fun h => ?_) (fun h => ?_)
    | refine g_end T hC (by kernel_rfl) ?_
    | refine g_splitD (fun h => ?_) (fun h => ?_)
    | refine g_splitG rfl rfl rfl (fun h => ?_) (fun h => ?_)
    | refine g_splitP rfl rfl (fun h => ?_) (fun h => ?_)
    | refine g_outE ?_
    | refine g_retl T (.inl rfl) rfl ?_
  unfold sameFm
  rw [hk4, hk5, hk6, hk7]
  rfl
end Hw.Z
namespace Hw.Z
open Go Go.Proofs Hw.M

theorem sameD_fm (a b : Desc) : sameD a b = (decide (a.n = b.n) && eqL sameF a.globals b.globals && sameFm a b && eqL sameT a.types b.types && eqL sameP a.procs b.procs) := by
  unfold sameD sameFm
  generalize decide (a.n = b.n) = p1
  generalize eqL sameF a.globals b.globals = p2
  generalize eqL sameT a.types b.types = p3
  generalize eqL sameP a.procs b.procs = p4
  generalize eqL sameM a.measures b.measures = p5
  generalize eqL sameI a.invs b.invs = p6
  generalize eqL sameO a.pots b.pots = p7
  generalize eqL sameB a.bounds b.bounds = p8
  revert p1 p2 p3 p4 p5 p6 p7 p8
  decide
theorem rsame09_ok (a b : Desc) : FnOK Tryz.prog 61 [aggS (descR a), aggS (descR b)] [] (.bq (sameD a b)) [] := by
  rw [sameD_fm]
  have hG := rsameFields_ok a.globals b.globals
  have hFm := sameFormulas_ok a b
  have hS := fun (u v : List Sm) => rsameStmts_ok (SizeOf.sizeOf u + 1) u v (by omega)
  generalize eqL sameF a.globals b.globals = q1 at hG ⊢
  generalize sameFm a b = q2 at hFm ⊢
  generalize hRR : (decide (a.n = b.n) && q1 && q2 && eqL sameT a.types b.types && eqL sameP a.procs b.procs) = RR
  have hno1 : eqL sameT a.types b.types = false → RR = false := fun h => by rw [← hRR, h]; simp
  have hno3 : eqL sameP a.procs b.procs = false → RR = false := fun h => by rw [← hRR, h]; simp
  refine fn_ok T Tryz.func61 (by kernel_rfl) rfl rfl rfl rfl fun C hC => ?_
  refine g_lenA rfl 0 1 rfl rfl fun l1 => ?_
  refine g_lenA rfl 0 3 rfl rfl fun l3 => ?_
  rw [List.length_map] at l1 l3
  repeat' first
    | refine g_go T hC true 400 rfl rfl ?_
    | refine g_cond rfl (fun h => ?_) (fun h => ?_)
    | refine g_end T hC (by kernel_rfl) ?_
    | refine g_splitD (fun h => ?_) (fun h => ?_)
    | refine g_splitG rfl rfl rfl (fun h => ?_) (fun h => ?_)
    | refine g_splitP rfl rfl (fun h => ?_) (fun h => ?_)
    | refine g_call hC (hG) rfl rfl (LeSs.refl _) rfl rfl rfl ?_
    | refine g_call hC (hFm) rfl rfl (LeSs.refl _) rfl rfl rfl ?_
    | refine g_retl T (.inl rfl) rfl ?_
  all_goals (try simp only [List.length_map] at *)
  all_goals first
    | (refine (hno1 (eqL_len fun e => ?_)).symm; simp [e] at h; done)
    | (refine (hno3 (eqL_len fun e => ?_)).symm; simp [e] at h; done)
    | (rw [← hRR]; clear hG hFm hS hno1 hno3 hRR; simp_all; done)
    | skip
  have he : (decide (a.n = b.n) && q1 && q2) = true ∧ (a.types.length : Int) = b.types.length ∧ (a.procs.length : Int) = b.procs.length := by
    clear hno1 hno3 hS hG hFm hRR
    simp_all
  obtain ⟨he0, he1, he3⟩ := he
  rw [he0, Bool.true_and] at hRR
  clear h
  refine g_loop (fun i : Nat => i ≤ a.types.length ∧ eqL sameT (a.types.drop i) (b.types.drop i) = eqL sameT a.types b.types) (fun i => ([(2, .one (.bx 1002 0)), (3, .one (.bx 1003 0)), (5, I i)], [(1002, some (.box ((descR a).map V.p))), (1003, some (.box ((descR b).map V.p)))])) (fun i => a.types.length - i) hC
    0 ⟨Nat.zero_le _, rfl⟩ id ⟨rfl, ⟨rfl, rfl, rfl, trivial⟩, ⟨rfl, rfl, trivial⟩, rfl, fun _ _ => rfl⟩ ?_
  rintro i ⟨hi, hn⟩
  refine g_run' T hC true 200 rfl ?_
  refine g_cond rfl (fun h => ?_) (fun h => ?_)
  · have hlt : i < a.types.length := by have := of_decide_eq_true h; simp only [List.length_map] at this; omega
    clear h
    obtain ⟨x, hx⟩ := exists_at hlt
    obtain ⟨y, hy⟩ := exists_at (l := b.types) (i := i) (by omega)
    rw [drop_at hx, drop_at hy, eqL] at hn
    have hX := rsameFields_ok x.f y.f
    repeat' first
      | refine g_go T hC true 400 rfl rfl ?_
      | refine g_cond rfl (fun h => ?_) (fun h => ?_)
      | refine g_end T hC (by kernel_rfl) ?_
      | refine g_splitD (fun h => ?_) (fun h => ?_)
      | refine g_splitG rfl rfl rfl (fun h => ?_) (fun h => ?_)
      | refine g_splitP rfl rfl (fun h => ?_) (fun h => ?_)
      | refine g_idx T hC rfl rfl rfl (Int.natCast_nonneg _) (map_at hx) rfl rfl ?_
      | refine g_idx T hC rfl rfl rfl (Int.natCast_nonneg _) (map_at hy) rfl rfl ?_
      | refine g_call hC (hX) rfl rfl (LeSs.refl _) rfl rfl rfl ?_
      | refine g_outR ?_
      | refine g_retl T (.inl rfl) rfl ?_
    all_goals (try simp only [List.length_map] at *)
    all_goals first
      | (refine (hno1 ?_).symm
         rw [← hn, show sameT x y = false by unfold sameT; clear hn hx hy hno1 hno3 hS hX hG hFm hRR; simp_all]
         rfl)
      | (have hxy : sameT x y = true := by unfold sameT; clear hn hx hy hno1 hno3 hS hX hG hFm hRR; simp_all
         rw [hxy, Bool.true_and] at hn
         rw [wrap64 (by omega)]
         exact g_round (i + 1) ⟨by omega, hn⟩ id (by omega) ⟨rfl, ⟨rfl, rfl, rfl, trivial⟩, ⟨rfl, rfl, trivial⟩, rfl, fun _ _ => rfl⟩)
  have hge : ¬ i < a.types.length := by have := of_decide_eq_false h; simp only [List.length_map] at this; omega
  rw [List.drop_eq_nil_of_le (by omega), List.drop_eq_nil_of_le (by omega)] at hn
  have hk1 : eqL sameT a.types b.types = true := hn.symm
  clear h hge hn hi
  repeat' first
    | refine g_go T hC true 400 rfl rfl ?_
    | refine g_cond rfl (fun h => ?_) (fun h => ?_)
    | refine g_end T hC (by kernel_rfl) ?_
    | refine g_splitD (fun h => ?_) (fun h => ?_)
    | refine g_splitG rfl rfl rfl (fun h => ?_) (fun h => ?_)
    | refine g_splitP rfl rfl (fun h => ?_) (fun h => ?_)
    | refine g_outE ?_
  refine g_loop (fun i : Nat => i ≤ a.procs.length ∧ eqL sameP (a.procs.drop i) (b.procs.drop i) = eqL sameP a.procs b.procs) (fun i => ([(2, .one (.bx 1002 0)), (3, .one (.bx 1003 0)), (6, I i)], [(1002, some (.box ((descR a).map V.p))), (1003, some (.box ((descR b).map V.p)))])) (fun i => a.procs.length - i) hC
    0 ⟨Nat.zero_le _, rfl⟩ id ⟨rfl, ⟨rfl, rfl, rfl, trivial⟩, ⟨rfl, rfl, trivial⟩, rfl, fun _ _ => rfl⟩ ?_
  rintro i ⟨hi, hn⟩
  refine g_run' T hC true 200 rfl ?_
  refine g_cond rfl (fun h => ?_) (fun h => ?_)
  · have hlt : i < a.procs.length := by have := of_decide_eq_true h; simp only [List.length_map] at this; omega
    clear h
    obtain ⟨x, hx⟩ := exists_at hlt
    obtain ⟨y, hy⟩ := exists_at (l := b.procs) (i := i) (by omega)
    rw [drop_at hx, drop_at hy, eqL] at hn
    have hX := rsameFields_ok x.params y.params
    have hY := rsameFields_ok x.locs y.locs
    have hZ := hS x.body y.body
    repeat' first
      | refine g_go T hC true 400 rfl rfl ?_
      | refine g_cond rfl (fun h => ?_) (fun h => ?_)
      | refine g_end T hC (by kernel_rfl) ?_
      | refine g_splitD (fun h => ?_) (fun h => ?_)
      | refine g_splitG rfl rfl rfl (fun h => ?_) (fun h => ?_)
      | refine g_splitP rfl rfl (fun h => ?_) (fun h => ?_)
      | refine g_idx T hC rfl rfl rfl (Int.natCast_nonneg _) (map_at hx) rfl rfl ?_
      | refine g_idx T hC rfl rfl rfl (Int.natCast_nonneg _) (map_at hy) rfl rfl ?_
      | refine g_call hC (hX) rfl rfl (LeSs.refl _) rfl rfl rfl ?_
      | refine g_call hC (hY) rfl rfl (LeSs.refl _) rfl rfl rfl ?_
      | refine g_call hC (hZ) rfl rfl (LeSs.refl _) rfl rfl rfl ?_
      | refine g_outR ?_
      | refine g_retl T (.inl rfl) rfl ?_
    all_goals (try simp only [List.length_map] at *)
    all_goals first
      | (refine (hno3 ?_).symm
         rw [← hn, show sameP x y = false by unfold sameP; clear hn hx hy hno1 hno3 hS hX hY hZ hG hFm hRR; simp_all]
         rfl)
      | (have hxy : sameP x y = true := by unfold sameP; clear hn hx hy hno1 hno3 hS hX hY hZ hG hFm hRR; simp_all
         rw [hxy, Bool.true_and] at hn
         rw [wrap64 (by omega)]
         exact g_round (i + 1) ⟨by omega, hn⟩ id (by omega) ⟨rfl, ⟨rfl, rfl, rfl, trivial⟩, ⟨rfl, rfl, trivial⟩, rfl, fun _ _ => rfl⟩)
  have hge : ¬ i < a.procs.length := by have := of_decide_eq_false h; simp only [List.length_map] at this; omega
  rw [List.drop_eq_nil_of_le (by omega), List.drop_eq_nil_of_le (by omega)] at hn
  have hk3 : eqL sameP a.procs b.procs = true := hn.symm
  clear h hge hn hi
  repeat' first
    | refine g_go T hC true 400 rfl rfl ?_
    | refine g_cond rfl (fun h => ?_) (fun h => ?_)
    | refine g_end T hC (by kernel_rfl) ?_
    | refine g_splitD (fun h => ?_) (fun h => ?_)
    | refine g_splitG rfl rfl rfl (fun h => ?_) (fun h => ?_)
    | refine g_splitP rfl rfl (fun h => ?_) (fun h => ?_)
    | refine g_outE ?_
    | refine g_retl T (.inl rfl) rfl ?_
  rw [← hRR, hk1, hk3]
  rfl
end Hw.Z
