/- The engine and the contracts. -/
import Derived.Test.YtmnhegkogibipaaGreatDoorC5
import Derived.Test.YtmnhegkogibipaaGreatDoorE3
set_option linter.unusedVariables false
set_option linter.unusedSimpArgs false
namespace Hw.Z
open Go Go.Proofs Hw.M

theorem astTyp_ok (s : Str) : FnOK Tryz.prog 164 [Sr s] [] (.bq (isType s)) [] := by
  refine fn_ok T Tryz.func164 (by kernel_rfl) rfl rfl rfl rfl fun C hC => ?_
  repeat' first
    | refine g_go T hC true 400 rfl rfl ?_
    | refine g_cond rfl (fun h => ?_) (fun h => ?_)
    | refine g_end T hC (by kernel_rfl) ?_
    | refine g_splitD (fun h => ?_) (fun h => ?_)
    | refine g_splitG rfl rfl rfl (fun h => ?_) (fun h => ?_)
    | refine g_splitP rfl rfl (fun h => ?_) (fun h => ?_)
    | refine g_call hC (lexName_ok _) rfl rfl (LeSs.refl _) rfl rfl rfl ?_
    | refine g_retq T (.inl rfl) rfl ?_
    | refine g_retl T (.inl rfl) rfl ?_
  all_goals simp_all [isType]
theorem astOpen_ok (s : Str) : FnOK Tryz.prog 165 [Sr s] [] (.bq (isOpen s)) [] := by
  refine fn_ok T Tryz.func165 (by kernel_rfl) rfl rfl rfl rfl fun C hC => ?_
  repeat' first
    | refine g_go T hC true 400 rfl rfl ?_
    | refine g_cond rfl (fun h => ?_) (fun h => ?_)
    | refine g_end T hC (by kernel_rfl) ?_
    | refine g_splitD (fun h => ?_) (fun h => ?_)
    | refine g_splitG rfl rfl rfl (fun h => ?_) (fun h => ?_)
    | refine g_splitP rfl rfl (fun h => ?_) (fun h => ?_)
    | refine g_call hC (lexName_ok _) rfl rfl (LeSs.refl _) rfl rfl rfl ?_
    | refine g_retq T (.inl rfl) rfl ?_
    | refine g_retl T (.inl rfl) rfl ?_
  all_goals simp_all [isOpen]
theorem fields1_ok (f : Fld) : FnOK Tryz.prog 163 [aggS (fieldR f)] [] (.bq (!fieldOk f)) [] := by
  refine fn_ok T Tryz.func163 (by kernel_rfl) rfl rfl rfl rfl fun C hC => ?_
  repeat' first
    | refine g_go T hC true 400 rfl rfl ?_
    | refine g_cond rfl (fun h => ?_) (fun h => ?_)
    | refine g_end T hC (by kernel_rfl) ?_
    | refine g_splitD (fun h => ?_) (fun h => ?_)
    | refine g_splitG rfl rfl rfl (fun h => ?_) (fun h => ?_)
    | refine g_splitP rfl rfl (fun h => ?_) (fun h => ?_)
    | refine g_call hC (lexName_ok _) rfl rfl (LeSs.refl _) rfl rfl rfl ?_
    | refine g_call hC (astTyp_ok _) rfl rfl (LeSs.refl _) rfl rfl rfl ?_
    | refine g_retq T (.inl rfl) rfl ?_
    | refine g_retl T (.inl rfl) rfl ?_
  all_goals simp_all [fieldOk]
theorem any_notP {α : Type} (p : α → Bool) (l : List α) : (l.any fun x => !p x) = !l.all p := by
  induction l with
  | nil => rfl
  | cons a l ih => simp only [List.any_cons, List.all_cons, ih, Bool.not_and]
theorem astFields_ok (l : List Fld) (m : Int) : FnOK Tryz.prog 102 [pS (fieldsP l), I m] [] (.bq (fieldsOk l m)) [] := by
  have hA := fieldN_any 163 l (fun y => !fieldOk y) (fun y _ => fields1_ok y)
  rw [any_notP] at hA
  refine fn_ok T Tryz.func102 (by kernel_rfl) rfl rfl rfl rfl fun C hC => ?_
  repeat' first
    | refine g_go T hC true 400 rfl rfl ?_
    | refine g_cond rfl (fun h => ?_) (fun h => ?_)
    | refine g_end T hC (by kernel_rfl) ?_
    | refine g_splitD (fun h => ?_) (fun h => ?_)
    | refine g_splitG rfl rfl rfl (fun h => ?_) (fun h => ?_)
    | refine g_splitP rfl rfl (fun h => ?_) (fun h => ?_)
    | refine g_call hC (hA) rfl rfl (LeSs.refl _) rfl rfl rfl ?_
    | refine g_retq T (.inl rfl) rfl ?_
    | refine g_retl T (.inl rfl) rfl ?_
  all_goals (try simp only [List.length_map] at *)
  all_goals (simp_all [fieldsOk, -List.all_eq_true, -List.all_eq_false] <;> (intros; omega))
theorem astProcedure_ok (p : Pr) : FnOK Tryz.prog 107 [aggS (procR p)] [] (.bq (procOk p)) [] := by
  have hc := stP_count p.body 1 200 (by omega) (by omega)
  refine fn_ok T Tryz.func107 (by kernel_rfl) rfl rfl rfl rfl fun C hC => ?_
  repeat' first
    | refine g_go T hC true 400 rfl rfl ?_
    | refine g_cond rfl (fun h => ?_) (fun h => ?_)
    | refine g_end T hC (by kernel_rfl) ?_
    | refine g_splitD (fun h => ?_) (fun h => ?_)
    | refine g_splitG rfl rfl rfl (fun h => ?_) (fun h => ?_)
    | refine g_splitP rfl rfl (fun h => ?_) (fun h => ?_)
    | refine g_call hC (lexName_ok _) rfl rfl (LeSs.refl _) rfl rfl rfl ?_
    | refine g_call hC (astFields_ok _ _) rfl rfl (LeSs.refl _) rfl rfl rfl ?_
    | refine g_call hC (astTyp_ok _) rfl rfl (LeSs.refl _) rfl rfl rfl ?_
    | refine g_callR hC (astStmts_ok (sizeOf p.body + 1) p.body 1 200 (by omega) (by omega) (by omega) (by omega) (by omega)) (nm [1030]) rfl rfl (LeSs.refl _) rfl rfl rfl rfl rfl rfl rfl rfl ?_
    | refine g_retl T (.inl rfl) rfl ?_
    | refine g_retq T (.inl rfl) rfl ?_
  all_goals (have hc1 := hc.1; clear hc; simp_all [procOk])
theorem formulas1_ok (b : Bd) : FnOK Tryz.prog 167 [aggS (boundR b)] [] (.bq (!boundOk b)) [] := by
  refine fn_ok T Tryz.func167 (by kernel_rfl) rfl rfl rfl rfl fun C hC => ?_
  repeat' first
    | refine g_go T hC true 400 rfl rfl ?_
    | refine g_cond rfl (fun h => ?_) (fun h => ?_)
    | refine g_end T hC (by kernel_rfl) ?_
    | refine g_splitD (fun h => ?_) (fun h => ?_)
    | refine g_splitG rfl rfl rfl (fun h => ?_) (fun h => ?_)
    | refine g_splitP rfl rfl (fun h => ?_) (fun h => ?_)
    | refine g_call hC (lexName_ok _) rfl rfl (LeSs.refl _) rfl rfl rfl ?_
    | refine g_call hC (validExpr_ok b.x) rfl rfl (LeSs.refl _) rfl rfl rfl ?_
    | refine g_retq T (.inl rfl) rfl ?_
    | refine g_retl T (.inl rfl) rfl ?_
  all_goals simp_all [boundOk]
theorem maxI_gt (a b t : Int) : decide (t < maxI a b) = (decide (t < a) || decide (t < b)) := by
  unfold maxI
  by_cases h : b > a
  · rw [if_pos h]; by_cases h2 : t < b <;> simp [h2]; omega
  · rw [if_neg h]; by_cases h2 : t < a <;> simp [h2]; omega
def sizesOk (d : Desc) : Bool := !decide (12 < (d.measures.length : Int)) && !decide (12 < (d.invs.length : Int)) && !decide (12 < (d.pots.length : Int)) && !decide (12 < (d.bounds.length : Int))
theorem sizes_eq (d : Desc) : decide (12 < maxI (maxI (maxI (d.measures.length : Int) (d.invs.length : Int)) (d.pots.length : Int)) (d.bounds.length : Int)) = !sizesOk d := by
  rw [maxI_gt, maxI_gt, maxI_gt]
  simp only [sizesOk, Bool.not_and, Bool.not_not]
theorem astFormulas_ok (d : Desc) : FnOK Tryz.prog 103 [aggS (descR d)] [] (.bq (sizesOk d && formulasOk d)) [] := by
  have hA := boundN_any 167 d.bounds (fun y => !boundOk y) (fun y _ => formulas1_ok y)
  rw [any_notP] at hA
  refine fn_ok T Tryz.func103 (by kernel_rfl) rfl rfl rfl rfl fun C hC => ?_
  repeat' first
    | refine g_go T hC true 400 rfl rfl ?_
    | refine g_cond rfl (fun h => ?_) (fun h => ?_)
    | refine g_end T hC (by kernel_rfl) ?_
    | refine g_splitD (fun h => ?_) (fun h => ?_)
    | refine g_splitG rfl rfl rfl (fun h => ?_) (fun h => ?_)
    | refine g_splitP rfl rfl (fun h => ?_) (fun h => ?_)
    | refine g_max4 hC rfl rfl rfl rfl rfl rfl ?_
    | refine g_retl T (.inl rfl) rfl ?_
  · simp only [List.length_map] at h
    rw [sizes_eq] at h
    have : sizesOk d = false := by simpa using h
    rw [this]; rfl
  · simp only [List.length_map] at h
    rw [sizes_eq] at h
    have hsz : sizesOk d = true := by simpa using h
    rw [hsz, Bool.true_and]
    simp only [sizesOk, Bool.and_eq_true, Bool.not_eq_true', decide_eq_false_iff_not] at hsz
    obtain ⟨⟨⟨hl1, hl2⟩, hl3⟩, hl4⟩ := hsz
    clear h
    rw [List.length_map]
    refine g_loop (fun i : Nat => i ≤ (d.measures).length ∧ ((d.measures).take i).all (measOk) = true) (fun i => ([(1, .one (.bx 1001 0)), (24, .one (.p (.sl 7 (d.measures.map measureR)))), (25, I d.measures.length), (26, I i)], [(1001, some (.box ((descR d).map V.p)))])) (fun i => (d.measures).length - i) hC
      0 ⟨Nat.zero_le _, by simp⟩ id ⟨rfl, ⟨rfl, rfl, rfl, rfl, trivial⟩, ⟨rfl, trivial⟩, rfl, fun _ _ => rfl⟩ ?_
    rintro i ⟨hi, hn⟩
    refine g_run' T hC true 200 rfl ?_
    refine g_cond rfl (fun h => ?_) (fun h => ?_)
    · have hlt : i < (d.measures).length := by first | simpa using h | (have h' := of_decide_eq_true h; simp only [List.length_map, List.length_zip] at h' ⊢; omega)
      clear h
      obtain ⟨x, hx⟩ := exists_at hlt
      repeat' first
        | refine g_go T hC true 400 rfl rfl ?_
        | refine g_cond rfl (fun h => ?_) (fun h => ?_)
        | refine g_end T hC (by kernel_rfl) ?_
        | refine g_splitD (fun h => ?_) (fun h => ?_)
        | refine g_splitG rfl rfl rfl (fun h => ?_) (fun h => ?_)
        | refine g_splitP rfl rfl (fun h => ?_) (fun h => ?_)
        | refine g_idx T hC rfl rfl rfl (Int.natCast_nonneg _) (map_at (by assumption)) rfl rfl ?_
        | refine g_call hC (lexName_ok _) rfl rfl (LeSs.refl _) rfl rfl rfl ?_
        | refine g_call hC (validExpr_ok x.x) rfl rfl (LeSs.refl _) rfl rfl rfl ?_
        | refine g_outR ?_
        | refine g_retl T (.inl rfl) rfl ?_
      all_goals first
        | (have hp : (measOk) x = true := by clear hn hx hlt hi; simp_all [measOk, -List.all_eq_true, -List.all_eq_false] <;> omega
           have hlt' := hlt
           try simp only [List.length_zip, List.length_zipIdx] at hlt'
           rw [wrap64 (by omega)]
           refine g_round (i + 1) ⟨by omega, ?_⟩ id (by omega) ⟨rfl, ⟨rfl, rfl, rfl, rfl, trivial⟩, ⟨rfl, trivial⟩, rfl, fun _ _ => rfl⟩
           rw [all_take (p := measOk) hx, hn, Bool.true_and]; exact hp)
        | (have hp : (measOk) x = false := by clear hn hx hlt hi; simp_all [measOk, -List.all_eq_true, -List.all_eq_false] <;> omega
           have hno := all_no (p := measOk) hx hp
           simp only [formulasOk, hno, Bool.false_and])
    have hge : ¬ i < (d.measures).length := by first | simpa using h | (have h' := of_decide_eq_false h; simp only [List.length_map, List.length_zip] at h' ⊢; omega)
    have hall : (d.measures).all (measOk) = true := all_end (p := measOk) (by omega) hn
    clear h hge hn hi
    repeat' first
      | refine g_go T hC true 400 rfl rfl ?_
      | refine g_cond rfl (fun h => ?_) (fun h => ?_)
      | refine g_end T hC (by kernel_rfl) ?_
      | refine g_splitD (fun h => ?_) (fun h => ?_)
      | refine g_splitG rfl rfl rfl (fun h => ?_) (fun h => ?_)
      | refine g_splitP rfl rfl (fun h => ?_) (fun h => ?_)
      | refine g_outE ?_
    rw [List.length_map]
    refine g_loop (fun i : Nat => i ≤ (d.invs).length ∧ ((d.invs).take i).all (invOk) = true) (fun i => ([(1, .one (.bx 1001 0)), (58, .one (.p (.sl 6 (d.invs.map invR)))), (59, I d.invs.length), (60, I i)], [(1001, some (.box ((descR d).map V.p)))])) (fun i => (d.invs).length - i) hC
      0 ⟨Nat.zero_le _, by simp⟩ id ⟨rfl, ⟨rfl, rfl, rfl, rfl, trivial⟩, ⟨rfl, trivial⟩, rfl, fun _ _ => rfl⟩ ?_
    rintro i ⟨hi, hn⟩
    refine g_run' T hC true 200 rfl ?_
    refine g_cond rfl (fun h => ?_) (fun h => ?_)
    · have hlt : i < (d.invs).length := by first | simpa using h | (have h' := of_decide_eq_true h; simp only [List.length_map, List.length_zip] at h' ⊢; omega)
      clear h
      obtain ⟨x, hx⟩ := exists_at hlt
      repeat' first
        | refine g_go T hC true 400 rfl rfl ?_
        | refine g_cond rfl (fun h => ?_) (fun h => ?_)
        | refine g_end T hC (by kernel_rfl) ?_
        | refine g_splitD (fun h => ?_) (fun h => ?_)
        | refine g_splitG rfl rfl rfl (fun h => ?_) (fun h => ?_)
        | refine g_splitP rfl rfl (fun h => ?_) (fun h => ?_)
        | refine g_idx T hC rfl rfl rfl (Int.natCast_nonneg _) (map_at (by assumption)) rfl rfl ?_
        | refine g_call hC (lexName_ok _) rfl rfl (LeSs.refl _) rfl rfl rfl ?_
        | refine g_call hC (astOpen_ok _) rfl rfl (LeSs.refl _) rfl rfl rfl ?_
        | refine g_call hC (validExpr_ok x.x) rfl rfl (LeSs.refl _) rfl rfl rfl ?_
        | refine g_outR ?_
        | refine g_retl T (.inl rfl) rfl ?_
      all_goals first
        | (have hp : (invOk) x = true := by clear hn hx hlt hi; simp_all [invOk, -List.all_eq_true, -List.all_eq_false] <;> omega
           have hlt' := hlt
           try simp only [List.length_zip, List.length_zipIdx] at hlt'
           rw [wrap64 (by omega)]
           refine g_round (i + 1) ⟨by omega, ?_⟩ id (by omega) ⟨rfl, ⟨rfl, rfl, rfl, rfl, trivial⟩, ⟨rfl, trivial⟩, rfl, fun _ _ => rfl⟩
           rw [all_take (p := invOk) hx, hn, Bool.true_and]; exact hp)
        | (have hp : (invOk) x = false := by clear hn hx hlt hi; simp_all [invOk, -List.all_eq_true, -List.all_eq_false] <;> omega
           have hno := all_no (p := invOk) hx hp
           simp only [formulasOk, hno, Bool.false_and, Bool.and_false])
    have hge : ¬ i < (d.invs).length := by first | simpa using h | (have h' := of_decide_eq_false h; simp only [List.length_map, List.length_zip] at h' ⊢; omega)
    have hall : (d.invs).all (invOk) = true := all_end (p := invOk) (by omega) hn
    clear h hge hn hi
    rename_i hall1
    repeat' first
      | refine g_go T hC true 400 rfl rfl ?_
      | refine g_cond rfl (fun h => ?_) (fun h => ?_)
      | refine g_end T hC (by kernel_rfl) ?_
      | refine g_splitD (fun h => ?_) (fun h => ?_)
      | refine g_splitG rfl rfl rfl (fun h => ?_) (fun h => ?_)
      | refine g_splitP rfl rfl (fun h => ?_) (fun h => ?_)
      | refine g_outE ?_
    rw [List.length_map]
    refine g_loop (fun i : Nat => i ≤ (d.pots).length ∧ ((d.pots).take i).all (potOk) = true) (fun i => ([(1, .one (.bx 1001 0)), (82, .one (.p (.sl 5 (d.pots.map potR)))), (83, I d.pots.length), (84, I i)], [(1001, some (.box ((descR d).map V.p)))])) (fun i => (d.pots).length - i) hC
      0 ⟨Nat.zero_le _, by simp⟩ id ⟨rfl, ⟨rfl, rfl, rfl, rfl, trivial⟩, ⟨rfl, trivial⟩, rfl, fun _ _ => rfl⟩ ?_
    rintro i ⟨hi, hn⟩
    refine g_run' T hC true 200 rfl ?_
    refine g_cond rfl (fun h => ?_) (fun h => ?_)
    · have hlt : i < (d.pots).length := by first | simpa using h | (have h' := of_decide_eq_true h; simp only [List.length_map, List.length_zip] at h' ⊢; omega)
      clear h
      obtain ⟨x, hx⟩ := exists_at hlt
      repeat' first
        | refine g_go T hC true 400 rfl rfl ?_
        | refine g_cond rfl (fun h => ?_) (fun h => ?_)
        | refine g_end T hC (by kernel_rfl) ?_
        | refine g_splitD (fun h => ?_) (fun h => ?_)
        | refine g_splitG rfl rfl rfl (fun h => ?_) (fun h => ?_)
        | refine g_splitP rfl rfl (fun h => ?_) (fun h => ?_)
        | refine g_idx T hC rfl rfl rfl (Int.natCast_nonneg _) (map_at (by assumption)) rfl rfl ?_
        | refine g_call hC (astOpen_ok _) rfl rfl (LeSs.refl _) rfl rfl rfl ?_
        | refine g_call hC (validExpr_ok x.x) rfl rfl (LeSs.refl _) rfl rfl rfl ?_
        | refine g_outR ?_
        | refine g_retl T (.inl rfl) rfl ?_
      all_goals first
        | (have hp : (potOk) x = true := by clear hn hx hlt hi; simp_all [potOk, -List.all_eq_true, -List.all_eq_false] <;> omega
           have hlt' := hlt
           try simp only [List.length_zip, List.length_zipIdx] at hlt'
           rw [wrap64 (by omega)]
           refine g_round (i + 1) ⟨by omega, ?_⟩ id (by omega) ⟨rfl, ⟨rfl, rfl, rfl, rfl, trivial⟩, ⟨rfl, trivial⟩, rfl, fun _ _ => rfl⟩
           rw [all_take (p := potOk) hx, hn, Bool.true_and]; exact hp)
        | (have hp : (potOk) x = false := by clear hn hx hlt hi; simp_all [potOk, -List.all_eq_true, -List.all_eq_false] <;> omega
           have hno := all_no (p := potOk) hx hp
           simp only [formulasOk, hno, Bool.false_and, Bool.and_false])
    have hge : ¬ i < (d.pots).length := by first | simpa using h | (have h' := of_decide_eq_false h; simp only [List.length_map, List.length_zip] at h' ⊢; omega)
    have hall : (d.pots).all (potOk) = true := all_end (p := potOk) (by omega) hn
    clear h hge hn hi
    rename_i hall2
    repeat' first
      | refine g_go T hC true 400 rfl rfl ?_
      | refine g_cond rfl (fun h => ?_) (fun h => ?_)
      | refine g_end T hC (by kernel_rfl) ?_
      | refine g_splitD (fun h => ?_) (fun h => ?_)
      | refine g_splitG rfl rfl rfl (fun h => ?_) (fun h => ?_)
      | refine g_splitP rfl rfl (fun h => ?_) (fun h => ?_)
      | refine g_outE ?_
      | refine g_call hC (hA) rfl rfl (LeSs.refl _) rfl rfl rfl ?_
      | refine g_retq T (.inl rfl) rfl ?_
    simp only [formulasOk, hall, hall1, hall2, Bool.true_and, Bool.not_not]
theorem valid1_ok (t : NodeT) : FnOK Tryz.prog 105 [aggS (nodeTR t)] [] (.bq (!typeOk t)) [] := by
  refine fn_ok T Tryz.func105 (by kernel_rfl) rfl rfl rfl rfl fun C hC => ?_
  repeat' first
    | refine g_go T hC true 400 rfl rfl ?_
    | refine g_cond rfl (fun h => ?_) (fun h => ?_)
    | refine g_end T hC (by kernel_rfl) ?_
    | refine g_splitD (fun h => ?_) (fun h => ?_)
    | refine g_splitG rfl rfl rfl (fun h => ?_) (fun h => ?_)
    | refine g_splitP rfl rfl (fun h => ?_) (fun h => ?_)
    | refine g_call hC (lexName_ok _) rfl rfl (LeSs.refl _) rfl rfl rfl ?_
    | refine g_call hC (astFields_ok _ _) rfl rfl (LeSs.refl _) rfl rfl rfl ?_
    | refine g_retq T (.inl rfl) rfl ?_
    | refine g_retl T (.inl rfl) rfl ?_
  all_goals simp_all [typeOk]
theorem valid2_ok (p : Pr) : FnOK Tryz.prog 106 [aggS (procR p)] [] (.bq (!procOk p)) [] := by
  refine fn_ok T Tryz.func106 (by kernel_rfl) rfl rfl rfl rfl fun C hC => ?_
  repeat' first
    | refine g_go T hC true 400 rfl rfl ?_
    | refine g_cond rfl (fun h => ?_) (fun h => ?_)
    | refine g_end T hC (by kernel_rfl) ?_
    | refine g_splitD (fun h => ?_) (fun h => ?_)
    | refine g_splitG rfl rfl rfl (fun h => ?_) (fun h => ?_)
    | refine g_splitP rfl rfl (fun h => ?_) (fun h => ?_)
    | refine g_call hC (astProcedure_ok p) rfl rfl (LeSs.refl _) rfl rfl rfl ?_
    | refine g_retq T (.inl rfl) rfl ?_
  rfl
theorem astValid_ok (d : Desc) : FnOK Tryz.prog 47 [aggS (descR d)] [] (.bq (validD d)) [] := by
  have hA := typeN_any 105 d.types (fun y => !typeOk y) (fun y _ => valid1_ok y)
  rw [any_notP] at hA
  have hB := procN_any 106 d.procs (fun y => !procOk y) (fun y _ => valid2_ok y)
  rw [any_notP] at hB
  have hv : validD d = (isName d.n && !decide (12 < (d.types.length : Int)) && fieldsOk d.globals 8 && !decide (40 < (d.procs.length : Int)) && (sizesOk d && formulasOk d) && d.types.all typeOk && d.procs.all procOk) := by
    simp only [validD, validPre, sizesOk]
    generalize isName d.n = a1
    generalize decide (12 < (d.types.length : Int)) = a2
    generalize fieldsOk d.globals 8 = a3
    generalize decide (40 < (d.procs.length : Int)) = a4
    generalize formulasOk d = a5
    generalize d.types.all typeOk = a6
    generalize d.procs.all procOk = a7
    generalize decide (12 < (d.measures.length : Int)) = a8
    generalize decide (12 < (d.invs.length : Int)) = a9
    generalize decide (12 < (d.pots.length : Int)) = a10
    generalize decide (12 < (d.bounds.length : Int)) = a11
    cases a1 <;> cases a3 <;> cases a5 <;> cases a6 <;> cases a7 <;> simp [Bool.and_assoc]
  rw [hv]
  refine fn_ok T Tryz.func47 (by kernel_rfl) rfl rfl rfl rfl fun C hC => ?_
  repeat' first
    | refine g_go T hC true 400 rfl rfl ?_
    | refine g_cond rfl (fun h => ?_) (fun h => ?_)
    | refine g_end T hC (by kernel_rfl) ?_
    | refine g_splitD (fun h => ?_) (fun h => ?_)
    | refine g_splitG rfl rfl rfl (fun h => ?_) (fun h => ?_)
    | refine g_splitP rfl rfl (fun h => ?_) (fun h => ?_)
    | refine g_call hC (lexName_ok _) rfl rfl (LeSs.refl _) rfl rfl rfl ?_
    | refine g_call hC (astFields_ok _ _) rfl rfl (LeSs.refl _) rfl rfl rfl ?_
    | refine g_call hC (astFormulas_ok _) rfl rfl (LeSs.refl _) rfl rfl rfl ?_
    | refine g_call hC (hA) rfl rfl (LeSs.refl _) rfl rfl rfl ?_
    | refine g_call hC (hB) rfl rfl (LeSs.refl _) rfl rfl rfl ?_
    | refine g_retq T (.inl rfl) rfl ?_
    | refine g_retl T (.inl rfl) rfl ?_
  all_goals (try simp only [List.length_map] at *)
  all_goals clear hA hB hv
  all_goals try generalize (sizesOk d && formulasOk d) = q at *
  all_goals (simp_all [-List.all_eq_true, -List.all_eq_false] <;> (intros; omega))
end Hw.Z
namespace Hw.Z
open Go Go.Proofs Hw.M

/-! The types of a description, as a map. -/
def entsF (k : Nat) : List NodeT → List (Str × PV)
  | [] => []
  | t :: r => (t.n, ki k) :: entsF (k + 1) r
def tm (d : Desc) : List (Str × PV) := entsF 0 d.types
def tyD (d : Desc) (s : Str) : Int := if tyIdx d s < 0 then 0 else tyIdx d s
theorem idxOf_cons {α : Type} (p : α → Bool) (x : α) (xs : List α) : idxOf p (x :: xs) = if p x = true then 0 else if idxOf p xs < 0 then -1 else idxOf p xs + 1 := by
  simp only [idxOf]
  by_cases h : p x = true
  · rw [if_pos h, if_pos h]
  · rw [if_neg h, if_neg h]
    cases e : idxOf p xs with
    | ofNat n => rw [if_neg (by first | omega | simp)]; rfl
    | negSucc n =>
      rcases idxOf_ge (p := p) (l := xs) with h1 | ⟨i, x, h1, _⟩
      · rw [e] at h1; rw [if_pos (by rw [h1]; omega)]; exact h1
      · rw [e] at h1; omega
theorem getK_entsF (s : Str) : ∀ (l : List NodeT) (k : Nat), getK (entsF k l) s = if idxOf (fun t => decide (t.n = s)) l < 0 then none else some (ki (k + idxOf (fun t => decide (t.n = s)) l))
  | [], k => rfl
  | t :: r, k => by
    simp only [entsF, getK]
    by_cases h : t.n = s
    · have e : idxOf (fun t : NodeT => decide (t.n = s)) (t :: r) = 0 := by rw [idxOf_cons, if_pos (decide_eq_true h)]
      rw [if_pos h, e, if_neg (by omega), Int.add_zero]
    · rw [if_neg h, getK_entsF s r (k + 1)]
      have hn : ¬ (decide (t.n = s) = true) := by simp [h]
      rcases idxOf_ge (p := fun t : NodeT => decide (t.n = s)) (l := r) with h1 | ⟨i, x, h1, _⟩
      · have e : idxOf (fun t : NodeT => decide (t.n = s)) (t :: r) = -1 := by rw [idxOf_cons, if_neg hn, h1]; rfl
        rw [h1, e]; rfl
      · have e : idxOf (fun t : NodeT => decide (t.n = s)) (t :: r) = (i : Int) + 1 := by rw [idxOf_cons, if_neg hn, h1, if_neg (by omega)]
        rw [h1, e, if_neg (by omega), if_neg (by omega)]
        have : ((k + 1 : Nat) : Int) + (i : Int) = (k : Int) + ((i : Int) + 1) := by omega
        rw [this]
theorem getK_tm (d : Desc) (s : Str) : getK (tm d) s = if tyIdx d s < 0 then none else some (ki (tyIdx d s)) := by
  have := getK_entsF s d.types 0
  rw [show ((0 : Nat) : Int) = 0 from rfl, Int.zero_add] at this
  exact this
theorem tm_isSome (d : Desc) (s : Str) : (getK (tm d) s).isSome = !decide (tyIdx d s < 0) := by
  rw [getK_tm]; by_cases h : tyIdx d s < 0 <;> simp [h]
theorem tm_getD (d : Desc) (s : Str) : (getK (tm d) s).getD (.k (.int .i64 0)) = ki (tyD d s) := by
  rw [getK_tm, tyD]; by_cases h : tyIdx d s < 0 <;> simp [h]
theorem entsF_snoc (x : NodeT) : ∀ (l : List NodeT) (k : Nat), entsF k (l ++ [x]) = entsF k l ++ [(x.n, ki (k + l.length))]
  | [], k => by simp [entsF]
  | t :: r, k => by
    have : ((k + 1 : Nat) : Int) + (r.length : Int) = (k : Int) + ((r.length + 1 : Nat) : Int) := by omega
    simp only [List.cons_append, entsF, entsF_snoc x r (k + 1), List.length_cons, this]
theorem take_snoc' {α : Type} {l : List α} {i : Nat} {x : α} (h : l[i]? = some x) : l.take (i + 1) = l.take i ++ [x] := by
  rw [List.take_add_one, h]; rfl
theorem idxOf_any {α : Type} (p : α → Bool) (l : List α) : decide (idxOf p l < 0) = !l.any p := by
  rcases idxOf_ge (p := p) (l := l) with h1 | ⟨i, x, h1, h2, h3, _⟩
  · rw [h1]
    cases h : l.any p with
    | false => rfl
    | true =>
      exfalso
      rw [List.any_eq_true] at h
      obtain ⟨x, hx, hp⟩ := h
      induction l with
      | nil => cases hx
      | cons y ys ih =>
        rw [idxOf_cons] at h1
        by_cases hy : p y = true
        · rw [if_pos hy] at h1; omega
        · rw [if_neg hy] at h1
          rcases List.mem_cons.1 hx with rfl | hx
          · exact hy hp
          · by_cases hh : idxOf p ys < 0
            · rcases idxOf_ge (p := p) (l := ys) with h4 | ⟨i, _, h4, _⟩
              · exact ih h4 hx
              · omega
            · rw [if_neg hh] at h1; omega
  · rw [h1, any_yes h2 h3, decide_eq_false (by omega)]; rfl

theorem plain_ok (s : Str) : FnOK Tryz.prog 132 [Sr s] [] (.bq (isPlain s)) [] := by
  refine fn_ok T Tryz.func132 (by kernel_rfl) rfl rfl rfl rfl fun C hC => ?_
  repeat' first
    | refine g_go T hC true 400 rfl rfl ?_
    | refine g_cond rfl (fun h => ?_) (fun h => ?_)
    | refine g_end T hC (by kernel_rfl) ?_
    | refine g_splitD (fun h => ?_) (fun h => ?_)
    | refine g_splitG rfl rfl rfl (fun h => ?_) (fun h => ?_)
    | refine g_splitP rfl rfl (fun h => ?_) (fun h => ?_)
    | refine g_retq T (.inl rfl) rfl ?_
    | refine g_retl T (.inl rfl) rfl ?_
  all_goals simp_all [isPlain]
theorem has12_ok (d : Desc) (s : Str) : FnOK Tryz.prog 133 [.one (.mp 0), Sr s] [(0, .map (encE strKey (tm d)))] (.bq (!decide (tyIdx d s < 0))) [(0, .map (encE strKey (tm d)))] := by
  refine fn_ok T Tryz.func133 (by kernel_rfl) rfl rfl rfl rfl fun C hC => ?_
  repeat' first
    | refine g_go T hC true 400 rfl rfl ?_
    | refine g_cond rfl (fun h => ?_) (fun h => ?_)
    | refine g_end T hC (by kernel_rfl) ?_
    | refine g_splitD (fun h => ?_) (fun h => ?_)
    | refine g_splitG rfl rfl rfl (fun h => ?_) (fun h => ?_)
    | refine g_splitP rfl rfl (fun h => ?_) (fun h => ?_)
    | refine g_lookupT strKey hC (kt := 9) (et := 3) (c0 := .int .i64 0) rfl rfl rfl (by kernel_rfl) (by kernel_rfl) (by kernel_rfl) rfl (tm_getD d s) (tm_isSome d s) rfl rfl ?_
  exact g_fin ⟨.inl rfl, id, _, rfl, .qq rfl, ⟨rfl, trivial⟩, rfl, rfl⟩
theorem tyOf11_ok (d : Desc) (f : Fld) : FnOK Tryz.prog 131 [aggS (fieldR f), .one (.bx 1 0)] [(0, .map (encE strKey (tm d))), (1, .box [.mp 0])] (.bq (!known d f)) [(0, .map (encE strKey (tm d))), (1, .box [.mp 0])] := by
  refine fn_ok T Tryz.func131 (by kernel_rfl) rfl rfl rfl rfl fun C hC => ?_
  repeat' first
    | refine g_go T hC true 400 rfl rfl ?_
    | refine g_cond rfl (fun h => ?_) (fun h => ?_)
    | refine g_end T hC (by kernel_rfl) ?_
    | refine g_splitD (fun h => ?_) (fun h => ?_)
    | refine g_splitG rfl rfl rfl (fun h => ?_) (fun h => ?_)
    | refine g_splitP rfl rfl (fun h => ?_) (fun h => ?_)
    | refine g_call hC (plain_ok _) rfl rfl (LeSs.refl _) rfl rfl rfl ?_
    | refine g_callR hC (has12_ok d _) (nm [0]) rfl rfl (LeSs.refl _) rfl rfl rfl rfl rfl rfl rfl rfl ?_
  all_goals first
    | exact g_fin ⟨.inl rfl, id, _, rfl, .qb (by simp_all [known]), ⟨rfl, rfl, trivial⟩, rfl, rfl⟩
    | exact g_fin ⟨.inl rfl, id, _, rfl, .qq (by simp_all [known]), ⟨rfl, rfl, trivial⟩, rfl, rfl⟩
theorem fieldM_idx (f : FuncId) (d : Desc) (l : List Fld) (p : Fld → Unit → Bool) (nx : Fld → Unit → Unit) (inv : Unit → Prop)
    (hf : ∀ x ∈ l, ∀ s : Unit, inv s → FnOK Tryz.prog f [aggS (fieldR x), .one (.bx 1 0)] [(0, .map (encE strKey (tm d))), (1, .box [.mp 0])] (.bq (p x s)) ((fun s : Unit => [(0, .map (encE strKey (tm d))), (1, .box [.mp 0])]) (nx x s)) ∧ (p x s = false → inv (nx x s))) (s : Unit) (hs : inv s) :
    FnOK Tryz.prog 118 [pS (.sl 2 (l.map fieldR)), .one (.cl f [] [.bx 1 0])] [(0, .map (encE strKey (tm d))), (1, .box [.mp 0])] (I (idxR p nx l 0 s).1) ((fun s : Unit => [(0, .map (encE strKey (tm d))), (1, .box [.mp 0])]) (idxR p nx l 0 s).2) := by
  refine fn_ok T Tryz.func118 (by kernel_rfl) rfl rfl rfl rfl fun C hC => ?_
  have hs0 := hs
  refine g_len 0 rfl fun hl => ?_
  rw [List.length_map] at hl
  repeat' first
    | refine g_go T hC true 400 rfl rfl ?_
    | refine g_cond rfl (fun h => ?_) (fun h => ?_)
    | refine g_end T hC (by kernel_rfl) ?_
    | refine g_splitD (fun h => ?_) (fun h => ?_)
    | refine g_splitG rfl rfl rfl (fun h => ?_) (fun h => ?_)
    | refine g_splitP rfl rfl (fun h => ?_) (fun h => ?_)
  rw [List.length_map]
  refine g_loop (fun q : Nat × Unit => q.1 ≤ l.length ∧ inv q.2 ∧ idxR p nx (l.drop q.1) q.1 q.2 = idxR p nx l 0 s) (fun q => (fun s : Unit => ([(0, pS (.sl 2 (l.map fieldR))), (1, .one (.cl f [] [.bx 1 0])), (7, I l.length), (8, I q.1)], [(0, some (.map (encE strKey (tm d)))), (1, some (.box [.mp 0]))])) q.2) (fun q => l.length - q.1) hC
    (0, s) ⟨Nat.zero_le _, hs, rfl⟩ id ⟨rfl, ⟨rfl, rfl, rfl, rfl, trivial⟩, ⟨rfl, rfl, trivial⟩, rfl, fun _ _ => rfl⟩ ?_
  generalize idxR p nx l 0 s = res
  clear hs hs0
  rintro ⟨i, s⟩ ⟨hi, hv, hn⟩
  simp only at hi hv hn
  refine g_run' T hC true 200 rfl ?_
  refine g_cond rfl (fun hh => ?_) (fun hh => ?_)
  · have hlt : i < l.length := by simpa using hh
    clear hh
    obtain ⟨x, hx⟩ := exists_at hlt
    rw [drop_at hx] at hn
    simp only [idxR] at hn
    have hv2 := (hf x (List.mem_of_getElem? hx) s hv).2
    repeat' first
      | refine g_go T hC true 400 rfl rfl ?_
      | refine g_cond rfl (fun h => ?_) (fun h => ?_)
      | refine g_end T hC (by kernel_rfl) ?_
      | refine g_splitD (fun h => ?_) (fun h => ?_)
      | refine g_splitG rfl rfl rfl (fun h => ?_) (fun h => ?_)
      | refine g_splitP rfl rfl (fun h => ?_) (fun h => ?_)
      | refine g_idx T hC rfl rfl rfl (Int.natCast_nonneg _) (map_at hx) rfl rfl ?_
      | refine g_callR hC (hf x (List.mem_of_getElem? hx) s hv).1 id rfl rfl (LeSs.refl _) rfl rfl rfl rfl rfl rfl rfl rfl ?_
      | refine g_outR ?_
    · rw [if_pos (by assumption)] at hn
      subst hn
      exact g_fin ⟨.inl rfl, id, _, rfl, .refl _, ⟨rfl, rfl, trivial⟩, rfl, rfl⟩
    · have hpf : p x s = false := by assumption
      rw [hpf] at hn
      simp only [Bool.false_eq_true, if_false] at hn
      rw [wrap64 (by omega)]
      exact g_round (i + 1, nx x s) ⟨by simp only; omega, hv2 hpf, hn⟩ id (by simp only; omega) ⟨rfl, ⟨rfl, rfl, rfl, rfl, trivial⟩, ⟨rfl, rfl, trivial⟩, rfl, fun _ _ => rfl⟩
  · have hge : ¬ i < l.length := by simpa using hh
    rw [List.drop_eq_nil_of_le (by omega)] at hn
    simp only [idxR] at hn
    subst hn
    repeat' first
      | refine g_go T hC true 400 rfl rfl ?_
      | refine g_cond rfl (fun h => ?_) (fun h => ?_)
      | refine g_end T hC (by kernel_rfl) ?_
      | refine g_splitD (fun h => ?_) (fun h => ?_)
      | refine g_splitG rfl rfl rfl (fun h => ?_) (fun h => ?_)
      | refine g_splitP rfl rfl (fun h => ?_) (fun h => ?_)
      | refine g_outE ?_
    exact g_fin ⟨.inl rfl, id, _, rfl, .refl _, ⟨rfl, rfl, trivial⟩, rfl, rfl⟩
theorem fieldM_has (f : FuncId) (d : Desc) (l : List Fld) (p : Fld → Unit → Bool) (nx : Fld → Unit → Unit) (inv : Unit → Prop)
    (hf : ∀ x ∈ l, ∀ s : Unit, inv s → FnOK Tryz.prog f [aggS (fieldR x), .one (.bx 1 0)] [(0, .map (encE strKey (tm d))), (1, .box [.mp 0])] (.bq (p x s)) ((fun s : Unit => [(0, .map (encE strKey (tm d))), (1, .box [.mp 0])]) (nx x s)) ∧ (p x s = false → inv (nx x s))) (s : Unit) (hs : inv s) :
    FnOK Tryz.prog 111 [pS (.sl 2 (l.map fieldR)), .one (.cl f [] [.bx 1 0])] [(0, .map (encE strKey (tm d))), (1, .box [.mp 0])] (.bq (anyR p nx l s).1) ((fun s : Unit => [(0, .map (encE strKey (tm d))), (1, .box [.mp 0])]) (anyR p nx l s).2) := by
  refine fn_ok T Tryz.func111 (by kernel_rfl) rfl rfl rfl rfl fun C hC => ?_
  repeat' first
    | refine g_go T hC true 400 rfl rfl ?_
    | refine g_cond rfl (fun h => ?_) (fun h => ?_)
    | refine g_end T hC (by kernel_rfl) ?_
    | refine g_splitD (fun h => ?_) (fun h => ?_)
    | refine g_splitG rfl rfl rfl (fun h => ?_) (fun h => ?_)
    | refine g_splitP rfl rfl (fun h => ?_) (fun h => ?_)
    | refine g_callR hC (fieldM_idx f d l p nx inv hf s hs) (nm [0, 1]) rfl rfl (LeSs.refl _) rfl rfl rfl rfl rfl rfl rfl rfl ?_
  exact g_fin ⟨.inl rfl, id, _, rfl, .qq (anyR_1 p nx l 0 s), by rw [← anyR_2 p nx l 0 s]; exact ⟨rfl, rfl, trivial⟩, rfl, rfl⟩

theorem tyOf1_ok (d : Desc) (l : List Fld) : FnOK Tryz.prog 130 [pS (fieldsP l), .one (.bx 1 0)] [(0, .map (encE strKey (tm d))), (1, .box [.mp 0])] (.bq (l.all (known d))) [(0, .map (encE strKey (tm d))), (1, .box [.mp 0])] := by
  have hA := fieldM_has 131 d l (fun y _ => !known d y) (fun _ s => s) (fun _ => True) (fun y _ _ _ => ⟨tyOf11_ok d y, fun _ => trivial⟩) () trivial
  rw [anyR_no, any_notP] at hA
  refine fn_ok T Tryz.func130 (by kernel_rfl) rfl rfl rfl rfl fun C hC => ?_
  repeat' first
    | refine g_go T hC true 400 rfl rfl ?_
    | refine g_cond rfl (fun h => ?_) (fun h => ?_)
    | refine g_end T hC (by kernel_rfl) ?_
    | refine g_splitD (fun h => ?_) (fun h => ?_)
    | refine g_splitG rfl rfl rfl (fun h => ?_) (fun h => ?_)
    | refine g_splitP rfl rfl (fun h => ?_) (fun h => ?_)
    | refine g_callR hC (hA) (nm [0, 1]) rfl rfl (LeSs.refl _) rfl rfl rfl rfl rfl rfl rfl rfl ?_
  exact g_fin ⟨.inl rfl, id, _, rfl, .qq (by simp), ⟨rfl, rfl, trivial⟩, rfl, rfl⟩
theorem tyOf2_ok (d : Desc) (t : NodeT) : FnOK Tryz.prog 134 [aggS (nodeTR t), .one (.bx 2 0)] [(0, .map (encE strKey (tm d))), (1, .box [.mp 0]), (2, .box [.cl 130 [] [.bx 1 0]])] (.bq (!t.f.all (known d)))
    [(0, .map (encE strKey (tm d))), (1, .box [.mp 0]), (2, .box [.cl 130 [] [.bx 1 0]])] := by
  refine fn_ok T Tryz.func134 (by kernel_rfl) rfl rfl rfl rfl fun C hC => ?_
  repeat' first
    | refine g_go T hC true 400 rfl rfl ?_
    | refine g_cond rfl (fun h => ?_) (fun h => ?_)
    | refine g_end T hC (by kernel_rfl) ?_
    | refine g_splitD (fun h => ?_) (fun h => ?_)
    | refine g_splitG rfl rfl rfl (fun h => ?_) (fun h => ?_)
    | refine g_splitP rfl rfl (fun h => ?_) (fun h => ?_)
    | refine g_callR hC (tyOf1_ok d t.f) (nm [0, 1]) rfl rfl (LeSs.refl _) rfl rfl rfl rfl rfl rfl rfl rfl ?_
  exact g_fin ⟨.inl rfl, id, _, rfl, .qq rfl, ⟨rfl, rfl, rfl, trivial⟩, rfl, rfl⟩
theorem typeM_idx (f : FuncId) (d : Desc) (l : List NodeT) (p : NodeT → Unit → Bool) (nx : NodeT → Unit → Unit) (inv : Unit → Prop)
    (hf : ∀ x ∈ l, ∀ s : Unit, inv s → FnOK Tryz.prog f [aggS (nodeTR x), .one (.bx 2 0)] [(0, .map (encE strKey (tm d))), (1, .box [.mp 0]), (2, .box [.cl 130 [] [.bx 1 0]])] (.bq (p x s)) ((fun s : Unit => [(0, .map (encE strKey (tm d))), (1, .box [.mp 0]), (2, .box [.cl 130 [] [.bx 1 0]])]) (nx x s)) ∧ (p x s = false → inv (nx x s))) (s : Unit) (hs : inv s) :
    FnOK Tryz.prog 116 [pS (.sl 2 (l.map nodeTR)), .one (.cl f [] [.bx 2 0])] [(0, .map (encE strKey (tm d))), (1, .box [.mp 0]), (2, .box [.cl 130 [] [.bx 1 0]])] (I (idxR p nx l 0 s).1) ((fun s : Unit => [(0, .map (encE strKey (tm d))), (1, .box [.mp 0]), (2, .box [.cl 130 [] [.bx 1 0]])]) (idxR p nx l 0 s).2) := by
  refine fn_ok T Tryz.func116 (by kernel_rfl) rfl rfl rfl rfl fun C hC => ?_
  have hs0 := hs
  refine g_len 0 rfl fun hl => ?_
  rw [List.length_map] at hl
  repeat' first
    | refine g_go T hC true 400 rfl rfl ?_
    | refine g_cond rfl (fun h => ?_) (fun h => ?_)
    | refine g_end T hC (by kernel_rfl) ?_
    | refine g_splitD (fun h => ?_) (fun h => ?_)
    | refine g_splitG rfl rfl rfl (fun h => ?_) (fun h => ?_)
    | refine g_splitP rfl rfl (fun h => ?_) (fun h => ?_)
  rw [List.length_map]
  refine g_loop (fun q : Nat × Unit => q.1 ≤ l.length ∧ inv q.2 ∧ idxR p nx (l.drop q.1) q.1 q.2 = idxR p nx l 0 s) (fun q => (fun s : Unit => ([(0, pS (.sl 2 (l.map nodeTR))), (1, .one (.cl f [] [.bx 2 0])), (7, I l.length), (8, I q.1)], [(0, some (.map (encE strKey (tm d)))), (1, some (.box [.mp 0])), (2, some (.box [.cl 130 [] [.bx 1 0]]))])) q.2) (fun q => l.length - q.1) hC
    (0, s) ⟨Nat.zero_le _, hs, rfl⟩ id ⟨rfl, ⟨rfl, rfl, rfl, rfl, trivial⟩, ⟨rfl, rfl, rfl, trivial⟩, rfl, fun _ _ => rfl⟩ ?_
  generalize idxR p nx l 0 s = res
  clear hs hs0
  rintro ⟨i, s⟩ ⟨hi, hv, hn⟩
  simp only at hi hv hn
  refine g_run' T hC true 200 rfl ?_
  refine g_cond rfl (fun hh => ?_) (fun hh => ?_)
  · have hlt : i < l.length := by simpa using hh
    clear hh
    obtain ⟨x, hx⟩ := exists_at hlt
    rw [drop_at hx] at hn
    simp only [idxR] at hn
    have hv2 := (hf x (List.mem_of_getElem? hx) s hv).2
    repeat' first
      | refine g_go T hC true 400 rfl rfl ?_
      | refine g_cond rfl (fun h => ?_) (fun h => ?_)
      | refine g_end T hC (by kernel_rfl) ?_
      | refine g_splitD (fun h => ?_) (fun h => ?_)
      | refine g_splitG rfl rfl rfl (fun h => ?_) (fun h => ?_)
      | refine g_splitP rfl rfl (fun h => ?_) (fun h => ?_)
      | refine g_idx T hC rfl rfl rfl (Int.natCast_nonneg _) (map_at hx) rfl rfl ?_
      | refine g_callR hC (hf x (List.mem_of_getElem? hx) s hv).1 id rfl rfl (LeSs.refl _) rfl rfl rfl rfl rfl rfl rfl rfl ?_
      | refine g_outR ?_
    · rw [if_pos (by assumption)] at hn
      subst hn
      exact g_fin ⟨.inl rfl, id, _, rfl, .refl _, ⟨rfl, rfl, rfl, trivial⟩, rfl, rfl⟩
    · have hpf : p x s = false := by assumption
      rw [hpf] at hn
      simp only [Bool.false_eq_true, if_false] at hn
      rw [wrap64 (by omega)]
      exact g_round (i + 1, nx x s) ⟨by simp only; omega, hv2 hpf, hn⟩ id (by simp only; omega) ⟨rfl, ⟨rfl, rfl, rfl, rfl, trivial⟩, ⟨rfl, rfl, rfl, trivial⟩, rfl, fun _ _ => rfl⟩
  · have hge : ¬ i < l.length := by simpa using hh
    rw [List.drop_eq_nil_of_le (by omega)] at hn
    simp only [idxR] at hn
    subst hn
    repeat' first
      | refine g_go T hC true 400 rfl rfl ?_
      | refine g_cond rfl (fun h => ?_) (fun h => ?_)
      | refine g_end T hC (by kernel_rfl) ?_
      | refine g_splitD (fun h => ?_) (fun h => ?_)
      | refine g_splitG rfl rfl rfl (fun h => ?_) (fun h => ?_)
      | refine g_splitP rfl rfl (fun h => ?_) (fun h => ?_)
      | refine g_outE ?_
    exact g_fin ⟨.inl rfl, id, _, rfl, .refl _, ⟨rfl, rfl, rfl, trivial⟩, rfl, rfl⟩
theorem typeM_has (f : FuncId) (d : Desc) (l : List NodeT) (p : NodeT → Unit → Bool) (nx : NodeT → Unit → Unit) (inv : Unit → Prop)
    (hf : ∀ x ∈ l, ∀ s : Unit, inv s → FnOK Tryz.prog f [aggS (nodeTR x), .one (.bx 2 0)] [(0, .map (encE strKey (tm d))), (1, .box [.mp 0]), (2, .box [.cl 130 [] [.bx 1 0]])] (.bq (p x s)) ((fun s : Unit => [(0, .map (encE strKey (tm d))), (1, .box [.mp 0]), (2, .box [.cl 130 [] [.bx 1 0]])]) (nx x s)) ∧ (p x s = false → inv (nx x s))) (s : Unit) (hs : inv s) :
    FnOK Tryz.prog 104 [pS (.sl 2 (l.map nodeTR)), .one (.cl f [] [.bx 2 0])] [(0, .map (encE strKey (tm d))), (1, .box [.mp 0]), (2, .box [.cl 130 [] [.bx 1 0]])] (.bq (anyR p nx l s).1) ((fun s : Unit => [(0, .map (encE strKey (tm d))), (1, .box [.mp 0]), (2, .box [.cl 130 [] [.bx 1 0]])]) (anyR p nx l s).2) := by
  refine fn_ok T Tryz.func104 (by kernel_rfl) rfl rfl rfl rfl fun C hC => ?_
  repeat' first
    | refine g_go T hC true 400 rfl rfl ?_
    | refine g_cond rfl (fun h => ?_) (fun h => ?_)
    | refine g_end T hC (by kernel_rfl) ?_
    | refine g_splitD (fun h => ?_) (fun h => ?_)
    | refine g_splitG rfl rfl rfl (fun h => ?_) (fun h => ?_)
    | refine g_splitP rfl rfl (fun h => ?_) (fun h => ?_)
    | refine g_callR hC (typeM_idx f d l p nx inv hf s hs) (nm [0, 1, 2]) rfl rfl (LeSs.refl _) rfl rfl rfl rfl rfl rfl rfl rfl ?_
  exact g_fin ⟨.inl rfl, id, _, rfl, .qq (anyR_1 p nx l 0 s), by rw [← anyR_2 p nx l 0 s]; exact ⟨rfl, rfl, rfl, trivial⟩, rfl, rfl⟩

end Hw.Z
namespace Hw.Z
open Go Go.Proofs Hw.M

theorem tyIdx_at {d : Desc} {i : Nat} {x : NodeT} (hx : d.types[i]? = some x) : (d.types.take i).any (fun t => decide (t.n = x.n)) = false ↔ tyIdx d x.n = (i : Int) := by
  constructor
  · exact fun h => idxOf_at hx (decide_eq_true rfl) h
  · intro h
    rcases idxOf_ge (p := fun t : NodeT => decide (t.n = x.n)) (l := d.types) with h1 | ⟨j, y, h1, _, _, h4⟩
    · simp only [tyIdx] at h; rw [h1] at h; omega
    · simp only [tyIdx] at h; rw [h1] at h
      obtain rfl : j = i := by omega
      exact h4
def noDup (d : Desc) : Bool := d.types.zipIdx.all fun x => decide (tyIdx d x.1.n = (x.2 : Int))
theorem all_and {α : Type} (p q : α → Bool) (l : List α) : (l.all fun x => p x && q x) = (l.all p && l.all q) := by
  induction l with
  | nil => rfl
  | cons a l ih =>
    simp only [List.all_cons, ih]
    cases p a <;> cases q a <;> cases l.all p <;> cases l.all q <;> rfl
theorem zipIdx_all {α : Type} (p : α → Bool) : ∀ (l : List α) (k : Nat), ((l.zipIdx k).all fun x => p x.1) = l.all p
  | [], _ => rfl
  | a :: l, k => by simp only [List.zipIdx_cons, List.all_cons, zipIdx_all p l (k + 1)]
theorem hasTypes_eq (d : Desc) : hasTypes d = (validD d && noDup d && d.globals.all (known d) && d.types.all fun t => t.f.all (known d)) := by
  have : d.types.zipIdx.all (tyOk d) = (noDup d && d.types.all fun t => t.f.all (known d)) := by
    have e : tyOk d = fun x : NodeT × Nat => decide (tyIdx d x.1.n = (x.2 : Int)) && x.1.f.all (known d) := rfl
    rw [e, all_and, zipIdx_all (fun t : NodeT => t.f.all (known d))]; rfl
  rw [hasTypes, this]
  cases validD d <;> cases noDup d <;> cases d.globals.all (known d) <;> cases (d.types.all fun t => t.f.all (known d)) <;> rfl
theorem noDup_no {d : Desc} {i : Nat} {x : NodeT} (hx : d.types[i]? = some x) (h : (d.types.take i).any (fun t => decide (t.n = x.n)) = true) : noDup d = false := by
  have : ¬ tyIdx d x.n = (i : Int) := fun e => by rw [(tyIdx_at hx).2 e] at h; cases h
  refine all_no (l := d.types.zipIdx) (i := i) (x := (x, i)) ?_ (decide_eq_false this)
  rw [List.getElem?_zipIdx, hx]; simp
theorem noDup_yes {d : Desc} (h : ∀ i x, d.types[i]? = some x → (d.types.take i).any (fun t => decide (t.n = x.n)) = false) : noDup d = true := by
  rw [noDup, List.all_eq_true]
  rintro ⟨x, i⟩ hx
  obtain ⟨j, hj⟩ := List.mem_iff_getElem?.1 hx
  obtain ⟨h1, h2⟩ := zipIdx_at hj
  simp only at h1 h2
  subst h2
  exact decide_eq_true ((tyIdx_at h1).1 (h _ _ h1))
theorem getK_entsF_any (s : Str) (l : List NodeT) (k : Nat) : (getK (entsF k l) s).isSome = l.any fun t => decide (t.n = s) := by
  rw [getK_entsF]
  have := idxOf_any (fun t : NodeT => decide (t.n = s)) l
  by_cases h : idxOf (fun t : NodeT => decide (t.n = s)) l < 0
  · rw [if_pos h]; rw [decide_eq_true h] at this
    cases e : (l.any fun t => decide (t.n = s)) with
    | false => rfl
    | true => rw [e] at this; cases this
  · rw [if_neg h]; rw [decide_eq_false h] at this
    cases e : (l.any fun t => decide (t.n = s)) with
    | true => rfl
    | false => rw [e] at this; cases this
theorem isSome_none {α : Type} {o : Option α} (h : o.isSome = false) : o = none := by cases o with | none => rfl | some _ => cases h

/-- What typesOf hands back. -/
def tyRes (d : Desc) : S := if hasTypes d = true then .one (.mp 0) else .one (.p (.k (.map none)))
def tyRL (d : Desc) : RL := if hasTypes d = true then [(0, .map (encE strKey (tm d)))] else []
theorem typesOf_ok (d : Desc) : FnOK Tryz.prog 65 [aggS (descR d)] [] (tyRes d) (tyRL d) := by
  have no : hasTypes d = false → tyRes d = .one (.p (.k (.map none))) ∧ tyRL d = [] := fun h => by simp [tyRes, tyRL, h]
  have yes : hasTypes d = true → tyRes d = .one (.mp 0) ∧ tyRL d = [(0, .map (encE strKey (tm d)))] := fun h => by simp [tyRes, tyRL, h]
  have hq := hasTypes_eq d
  have hB := typeM_has 134 d d.types (fun y _ => !y.f.all (known d)) (fun _ s => s) (fun _ => True) (fun y _ _ _ => ⟨tyOf2_ok d y, fun _ => trivial⟩) () trivial
  rw [anyR_no, any_notP] at hB
  refine fn_ok T Tryz.func65 (by kernel_rfl) rfl rfl rfl rfl fun C hC => ?_
  refine g_lenA rfl 0 1 rfl rfl fun hlen => ?_
  rw [List.length_map] at hlen
  have fail : ∀ {n sl tab}, hasTypes d = false → sg sl 2 = some (.one (.p (.k (.map none)))) → Goal Tryz.prog C (.fin .ret) [] n sl tab (retQ T [.tmp 2] [] (tyRes d) (tyRL d)) := fun h h2 => by
    obtain ⟨e1, e2⟩ := no h
    rw [e1, e2]
    exact g_fin ⟨.inl rfl, id, [.one (.p (.k (.map none)))], by simp only [rvsOf, rvOf, h2], .refl _, trivial, rfl, rfl⟩
  repeat' first
    | refine g_go T hC true 400 rfl rfl ?_
    | refine g_cond rfl (fun h => ?_) (fun h => ?_)
    | refine g_end T hC (by kernel_rfl) ?_
    | refine g_splitD (fun h => ?_) (fun h => ?_)
    | refine g_splitG rfl rfl rfl (fun h => ?_) (fun h => ?_)
    | refine g_splitP rfl rfl (fun h => ?_) (fun h => ?_)
    | refine g_call hC (astValid_ok d) rfl rfl (LeSs.refl _) rfl rfl rfl ?_
    | refine g_makeMap strKey hC rfl rfl rfl ?_
  · have hv : validD d = false := by simpa using h
    refine fail (by rw [hq, hv]; rfl) rfl
  · have hv : validD d = true := by simpa using h
    clear h
    rw [hv, Bool.true_and] at hq
    rw [List.length_map]
    refine g_loop (fun i : Nat => i ≤ d.types.length ∧ ∀ j x, j < i → d.types[j]? = some x → (d.types.take j).any (fun t => decide (t.n = x.n)) = false) (fun i => ([(1, .one (.bx 1001 0)), (3, .one (.bx 1003 0)), (14, .one (.p (.sl 2 (d.types.map nodeTR)))), (15, I d.types.length), (16, I i)], [(1001, some (.box ((descR d).map V.p))), (1003, some (.box [.mp 1012])), (1012, some (.map (encE strKey (entsF 0 (d.types.take i)))))])) (fun i => d.types.length - i) hC
      0 ⟨Nat.zero_le _, fun j x hj => by omega⟩ id ⟨rfl, ⟨rfl, rfl, rfl, rfl, rfl, trivial⟩, ⟨rfl, rfl, rfl, trivial⟩, rfl, fun _ _ => rfl⟩ ?_
    rintro i ⟨hi, hn⟩
    refine g_run' T hC true 200 rfl ?_
    refine g_cond rfl (fun h => ?_) (fun h => ?_)
    · have hlt : i < d.types.length := by simpa using h
      clear h
      obtain ⟨x, hx⟩ := exists_at hlt
      have hlen2 : (d.types.take i).length = i := by rw [List.length_take]; omega
      repeat' first
        | refine g_go T hC true 400 rfl rfl ?_
        | refine g_cond rfl (fun h => ?_) (fun h => ?_)
        | refine g_end T hC (by kernel_rfl) ?_
        | refine g_splitD (fun h => ?_) (fun h => ?_)
        | refine g_splitG rfl rfl rfl (fun h => ?_) (fun h => ?_)
        | refine g_splitP rfl rfl (fun h => ?_) (fun h => ?_)
        | refine g_idx T hC rfl rfl rfl (Int.natCast_nonneg _) (map_at (by assumption)) rfl rfl ?_
        | refine g_lookupT strKey hC (kt := 9) (et := 3) (c0 := .int .i64 0) rfl rfl rfl (by kernel_rfl) (by kernel_rfl) (by kernel_rfl) rfl rfl (getK_entsF_any x.n _ _) rfl rfl ?_
        | refine g_outR ?_
      · exact fail (by rw [hq, noDup_no hx h]; rfl) rfl
      · have hnone : getK (entsF 0 (d.types.take i)) x.n = none := isSome_none (by rw [getK_entsF_any]; exact h)
        refine g_mapSet strKey hC (kt := 9) (et := 3) (l' := entsF 0 (d.types.take (i + 1))) rfl rfl rfl rfl (by kernel_rfl) (by kernel_rfl) ?_ rfl ?_
        · rw [putK_new hnone, take_snoc' hx, entsF_snoc, hlen2]
          simp
        · repeat' first
            | refine g_go T hC true 400 rfl rfl ?_
            | refine g_cond rfl (fun h => ?_) (fun h => ?_)
            | refine g_end T hC (by kernel_rfl) ?_
            | refine g_splitD (fun h => ?_) (fun h => ?_)
            | refine g_splitG rfl rfl rfl (fun h => ?_) (fun h => ?_)
            | refine g_splitP rfl rfl (fun h => ?_) (fun h => ?_)
          rw [wrapS (by omega)]
          refine g_round (i + 1) ⟨by omega, fun j y hj hy => ?_⟩ id (by omega) ⟨rfl, ⟨rfl, rfl, rfl, rfl, rfl, trivial⟩, ⟨rfl, rfl, rfl, trivial⟩, rfl, fun _ _ => rfl⟩
          by_cases hji : j < i
          · exact hn j y hji hy
          · obtain rfl : j = i := by omega
            rw [hx] at hy; simp only [Option.some.injEq] at hy; subst hy
            exact h
    · have hge : ¬ i < d.types.length := by simpa using h
      have hnd : noDup d = true := noDup_yes fun j x hx => hn j x (by have := (List.getElem?_eq_some_iff.1 hx).1; omega) hx
      rw [hnd, Bool.true_and] at hq
      rw [List.take_of_length_le (by omega)]
      have htm : entsF 0 d.types = tm d := rfl
      rw [htm]
      clear h
      repeat' first
        | refine g_go T hC true 400 rfl rfl ?_
        | refine g_cond rfl (fun h => ?_) (fun h => ?_)
        | refine g_end T hC (by kernel_rfl) ?_
        | refine g_splitD (fun h => ?_) (fun h => ?_)
        | refine g_splitG rfl rfl rfl (fun h => ?_) (fun h => ?_)
        | refine g_splitP rfl rfl (fun h => ?_) (fun h => ?_)
        | refine g_outE ?_
        | refine g_callR hC (tyOf1_ok d d.globals) (nm [1012, 1003]) rfl rfl (LeSs.refl _) rfl rfl rfl rfl rfl rfl rfl rfl ?_
        | refine g_callR hC (hB) (nm [1012, 1003, 1008]) rfl rfl (LeSs.refl _) rfl rfl rfl rfl rfl rfl rfl rfl ?_
      · exact fail (by rw [hq]; simp_all [-List.all_eq_true, -List.all_eq_false]) rfl
      · exact fail (by rw [hq]; simp_all [-List.all_eq_true, -List.all_eq_false]) rfl
      · obtain ⟨e1, e2⟩ := yes (by rw [hq]; simp_all [-List.all_eq_true, -List.all_eq_false])
        rw [e1, e2]
        exact g_fin ⟨.inl rfl, nm [1012], _, rfl, .refl _, ⟨rfl, trivial⟩, rfl, rfl⟩
end Hw.Z
