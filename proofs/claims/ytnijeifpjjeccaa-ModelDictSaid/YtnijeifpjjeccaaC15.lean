/- The engine and the contracts. -/
import Derived.Test.YtnijeifpjjeccaaC14
set_option linter.unusedVariables false
set_option linter.unusedSimpArgs false
namespace Hw.Mo
open Go Go.Proofs Go.Shelf Hw.M

/-! models: the law of dictionaries, the walk -/
set_option maxHeartbeats 1000000 in
set_option maxRecDepth 100000 in
theorem modelDict_ok (l : List OpT) (a v : Int) (ha : 0 ≤ a ∧ a ≤ 65535) (hv : -32768 ≤ v ∧ v ≤ 32767) : FnOK Try.prog 3 [pS (opsP l), .one (.p (.k (.int .u16 a))), .one (.p (.k (.int .i16 v)))] [] (.bq true) [] := by
  by_cases h0 : shortB l = false ∨ l.all (okOp 1) = false
  · exact dictL_out l a v h0
  have hs : shortB l = true := by
    cases hs : shortB l with
    | true => rfl
    | false => exact absurd (.inl hs) h0
  have hall : l.all (okOp 1) = true := by
    cases hs : l.all (okOp 1) with
    | true => rfl
    | false => exact absurd (.inr hs) h0
  have hl40 : l.length ≤ 40 := by
    have := hs
    unfold shortB at this
    simp only [Bool.and_eq_true, decide_eq_true_eq] at this
    omega
  have hok : ∀ o ∈ l, okOp 1 o = true := List.all_eq_true.1 hall
  have hany : (l.any fun o => !okOp 1 o) = false := by
    rw [List.any_eq_false]
    intro o ho
    rw [hok o ho]; decide
  have hL := short_ok l
  rw [hs] at hL
  have hVA := rValidAll_ok 1 l
  rw [hall] at hVA
  have hN := new_ok (k := 1) (by decide)
  have hRun := mRun_yes 1 [] l (by decide) hany (by omega)
  have hvR := run_valid (k := 1) (R := []) (l := l) (by decide) hok
  have hRl := run_le1 l []
  generalize runS 1 [] l = zz at hRun hvR hRl
  obtain ⟨R, xs⟩ := zz
  simp only [List.length_nil, Nat.zero_add] at hRun hvR hRl
  obtain ⟨_, hT⟩ := valid1 hvR
  have hR40 : R.length ≤ 40 := by omega
  clear h0 hs hall hok hany hRl hl40
  have hK8 := ask_ok 1 R 8 [] _ hvR (by decide) (dict_size R)
  have hk1 : IntKind.i64.wrap (IntKind.i64.wrap (a.tmod 40) - 10) = a % 40 - 10 := by rw [Int.tmod_eq_emod_of_nonneg ha.1, wrap64 (n := a % 40) (by omega)]; exact wrap64 (by omega)
  have hv1 : IntKind.i64.wrap v = v := wrap64 (by omega)
  have hkb : -10 ≤ a % 40 - 10 ∧ a % 40 - 10 ≤ 29 := by omega
  generalize a % 40 - 10 = k at hk1 hkb
  refine fn_ok T Try.func3 (by kernel_rfl) rfl rfl rfl rfl fun C hC => ?_
  repeat' first
    | refine g_go T hC true 400 rfl rfl ?_
    | (exfalso; simp at h; done)
    | (exfalso; have h2 : (40 : Int) < (R.length : Int) := of_decide_eq_true h; omega)
    | (exfalso; have h2 : ((R.length : Nat) : Int) < 0 := of_decide_eq_true h; omega)
    | refine g_cond rfl (fun h => ?_) (fun h => ?_)
    | refine g_end T hC (by kernel_rfl) ?_
    | refine g_splitD (fun h => ?_) (fun h => ?_)
    | refine g_splitG rfl rfl rfl (fun h => ?_) (fun h => ?_)
    | refine g_splitP rfl rfl (fun h => ?_) (fun h => ?_)
    | refine g_call hC (awake_ok) rfl rfl (LeSs.refl _) rfl rfl rfl ?_
    | refine g_call hC (hL) rfl rfl (LeSs.refl _) rfl rfl rfl ?_
    | refine g_call hC (hVA) rfl rfl (LeSs.refl _) rfl rfl rfl ?_
    | refine g_call hC (hN) rfl rfl (LeSs.refl _) rfl rfl rfl ?_
    | refine g_call hC (hRun) rfl rfl (LeSs.refl _) rfl rfl rfl ?_
    | (refine g_rem hC rfl rfl (by decide) rfl rfl ?_)
    | (refine g_call hC hK8 rfl rfl (LeSs.cons (.refl _) (LeSs.cons (.refl _) (LeSs.cons (LeS.one (.nil 1)) .nil))) rfl rfl rfl ?_)
  rw [hk1, hv1]
  obtain ⟨P, hP⟩ : ∃ P, posC 1 R [k] = P := ⟨_, rfl⟩
  obtain ⟨Q, hQ⟩ : ∃ Q, Q = P + (if hasC 1 R [k] = true then 1 else 0) := ⟨_, rfl⟩
  refine g_loop (fun i : Nat => i ≤ R.length) (fun i => ([(7, I k), (8, I v), (9, .one (.bx 1009 0)), (15, I (lastK R i)), (16, I ((min i P : Nat) : Int)), (17, .one (.bx 1017 0)), (18, .one (.bx 1018 0)), (95, I R.length), (96, I i)], [(1009, some (.box [.p (ki 1), .p (rowsP R)])), (1017, some (.box [.p (ki (floorK R Q i).e), .p (ki (floorK R Q i).n), .p (.k (.slice none 0 0))])), (1018, some (.box [.p (ki (ceilK R Q i).e), .p (ki (ceilK R Q i).n), .p (.k (.slice none 0 0))]))])) (fun i => R.length - i) hC
    0 (Nat.zero_le _) id ⟨rfl, ⟨rfl, rfl, rfl, rfl, by rw [Nat.zero_min]; rfl, rfl, rfl, rfl, rfl, trivial⟩, ⟨rfl, by rw [show floorK R Q 0 = erR 12 by unfold floorK; rw [Nat.zero_min, if_pos rfl]]; rfl, by rw [show ceilK R Q 0 = erR 12 by unfold ceilK; rw [if_pos (Nat.zero_le _)]]; rfl, trivial⟩, rfl, fun _ _ => rfl⟩ ?_
  intro i hi
  refine g_run' T hC true 200 rfl ?_
  refine g_cond rfl (fun h => ?_) (fun h => ?_)
  · have hlt : i < R.length := by have := of_decide_eq_true h; omega
    clear h
    obtain ⟨hrk, hhas⟩ := key_rank hT hlt
    have hKb : -1048576 ≤ keyI R i ∧ keyI R i ≤ 1048576 := num_bd (hT.nums _ (List.mem_of_getElem? (rowA_lt hlt)) _ (List.mem_of_getElem? (at0_lt (l := rowA R i) (i := 0) (by rw [hT.wide _ (List.mem_of_getElem? (rowA_lt hlt))]; decide))))
    have hS7 := ask_ok 1 R 7 [(i : Int)] _ hvR (by simp [okOp, wordsL, numB]; omega) (dict_sel hlt)
    have hS6 := ask_ok 1 R 6 [keyI R i] _ hvR (by simp [okOp, wordsL, numB]; omega) (dict_rank R (keyI R i))
    have hS2 := ask_ok 1 R 2 [keyI R i] _ hvR (by simp [okOp, wordsL, numB]; omega) (dict_get hhas)
    rw [hrk] at hS6
    have hlast : ¬ keyI R i ≤ lastK R i := last_lt hT hlt (by omega)
    have hls : lastK R (i + 1) = keyI R i := by unfold lastK; rw [if_neg (by omega), Nat.add_sub_cancel]
    have hcase := dict_round hT k hlt hP hQ
    clear hrk hhas hQ hL hVA hN hRun hT hvR hK8 hk1 hv1 hP
    generalize keyI R i = K at *
    generalize lastK R i = L at *
    generalize floorK R Q i = F at *
    generalize ceilK R Q i = G at *
    obtain ⟨Fe, Fn⟩ := F
    obtain ⟨Ge, Gn⟩ := G
    generalize hm : min i P = m at *
    have hmb : m ≤ i := by omega
    rcases hcase with ⟨q1, q2, e1, e2, e3⟩ | ⟨q1, q2, e1, e2, e3⟩ | ⟨q1, q2, e1, e2, e3, e4⟩ | ⟨q1, q2, e1, e2, e3, e4⟩
    all_goals clear hm
    · repeat' first
        | refine g_go T hC true 400 rfl rfl ?_
        | (exfalso; subst e4; simp [okR] at h; done)
        | (exfalso; simp [okR] at h; done)
        | (exact absurd (of_decide_eq_true h) q2)
        | (exact absurd (of_decide_eq_true h) q1)
        | (exact absurd q2 (of_decide_eq_false h))
        | (exact absurd q1 (of_decide_eq_false h))
        | (exact absurd (of_decide_eq_true h) hlast)
        | refine g_cond rfl (fun h => ?_) (fun h => ?_)
        | refine g_end T hC (by kernel_rfl) ?_
        | refine g_splitD (fun h => ?_) (fun h => ?_)
        | refine g_splitG rfl rfl rfl (fun h => ?_) (fun h => ?_)
        | refine g_splitP rfl rfl (fun h => ?_) (fun h => ?_)
        | refine g_lit T hC rfl rfl rfl rfl rfl rfl rfl rfl rfl ?_
        | refine g_call hC (hS7) rfl rfl (LeSs.refl _) rfl rfl rfl ?_
        | refine g_call hC (hS6) rfl rfl (LeSs.refl _) rfl rfl rfl ?_
        | refine g_call hC (hS2) rfl rfl (LeSs.refl _) rfl rfl rfl ?_
      rw [wrapS (by omega), wrapS (by omega)]
      refine g_round (i + 1) (by omega) id (by omega) ?_
      simp only [hls, e1, e2, e3]
      exact ⟨rfl, ⟨rfl, rfl, rfl, rfl, rfl, rfl, rfl, rfl, rfl, trivial⟩, ⟨rfl, rfl, rfl, trivial⟩, rfl, fun _ _ => rfl⟩
    · repeat' first
        | refine g_go T hC true 400 rfl rfl ?_
        | (exfalso; subst e4; simp [okR] at h; done)
        | (exfalso; simp [okR] at h; done)
        | (exact absurd (of_decide_eq_true h) q2)
        | (exact absurd (of_decide_eq_true h) q1)
        | (exact absurd q2 (of_decide_eq_false h))
        | (exact absurd q1 (of_decide_eq_false h))
        | (exact absurd (of_decide_eq_true h) hlast)
        | refine g_cond rfl (fun h => ?_) (fun h => ?_)
        | refine g_end T hC (by kernel_rfl) ?_
        | refine g_splitD (fun h => ?_) (fun h => ?_)
        | refine g_splitG rfl rfl rfl (fun h => ?_) (fun h => ?_)
        | refine g_splitP rfl rfl (fun h => ?_) (fun h => ?_)
        | refine g_lit T hC rfl rfl rfl rfl rfl rfl rfl rfl rfl ?_
        | refine g_call hC (hS7) rfl rfl (LeSs.refl _) rfl rfl rfl ?_
        | refine g_call hC (hS6) rfl rfl (LeSs.refl _) rfl rfl rfl ?_
        | refine g_call hC (hS2) rfl rfl (LeSs.refl _) rfl rfl rfl ?_
      rw [wrapS (by omega)]
      refine g_round (i + 1) (by omega) id (by omega) ?_
      simp only [hls, e1, e2, e3]
      exact ⟨rfl, ⟨rfl, rfl, rfl, rfl, rfl, rfl, rfl, rfl, rfl, trivial⟩, ⟨rfl, rfl, rfl, trivial⟩, rfl, fun _ _ => rfl⟩
    · repeat' first
        | refine g_go T hC true 400 rfl rfl ?_
        | (exfalso; subst e4; simp [okR] at h; done)
        | (exfalso; simp [okR] at h; done)
        | (exact absurd (of_decide_eq_true h) q2)
        | (exact absurd (of_decide_eq_true h) q1)
        | (exact absurd q2 (of_decide_eq_false h))
        | (exact absurd q1 (of_decide_eq_false h))
        | (exact absurd (of_decide_eq_true h) hlast)
        | refine g_cond rfl (fun h => ?_) (fun h => ?_)
        | refine g_end T hC (by kernel_rfl) ?_
        | refine g_splitD (fun h => ?_) (fun h => ?_)
        | refine g_splitG rfl rfl rfl (fun h => ?_) (fun h => ?_)
        | refine g_splitP rfl rfl (fun h => ?_) (fun h => ?_)
        | refine g_lit T hC rfl rfl rfl rfl rfl rfl rfl rfl rfl ?_
        | refine g_call hC (hS7) rfl rfl (LeSs.refl _) rfl rfl rfl ?_
        | refine g_call hC (hS6) rfl rfl (LeSs.refl _) rfl rfl rfl ?_
        | refine g_call hC (hS2) rfl rfl (LeSs.refl _) rfl rfl rfl ?_
      rw [wrapS (by omega)]
      refine g_round (i + 1) (by omega) id (by omega) ?_
      simp only [hls, e1, e2, e3]
      exact ⟨rfl, ⟨rfl, rfl, rfl, rfl, rfl, rfl, rfl, rfl, rfl, trivial⟩, ⟨rfl, rfl, rfl, trivial⟩, rfl, fun _ _ => rfl⟩
    · repeat' first
        | refine g_go T hC true 400 rfl rfl ?_
        | (exfalso; subst e4; simp [okR] at h; done)
        | (exfalso; simp [okR] at h; done)
        | (exact absurd (of_decide_eq_true h) q2)
        | (exact absurd (of_decide_eq_true h) q1)
        | (exact absurd q2 (of_decide_eq_false h))
        | (exact absurd q1 (of_decide_eq_false h))
        | (exact absurd (of_decide_eq_true h) hlast)
        | refine g_cond rfl (fun h => ?_) (fun h => ?_)
        | refine g_end T hC (by kernel_rfl) ?_
        | refine g_splitD (fun h => ?_) (fun h => ?_)
        | refine g_splitG rfl rfl rfl (fun h => ?_) (fun h => ?_)
        | refine g_splitP rfl rfl (fun h => ?_) (fun h => ?_)
        | refine g_lit T hC rfl rfl rfl rfl rfl rfl rfl rfl rfl ?_
        | refine g_call hC (hS7) rfl rfl (LeSs.refl _) rfl rfl rfl ?_
        | refine g_call hC (hS6) rfl rfl (LeSs.refl _) rfl rfl rfl ?_
        | refine g_call hC (hS2) rfl rfl (LeSs.refl _) rfl rfl rfl ?_
      rw [wrapS (by omega)]
      refine g_round (i + 1) (by omega) id (by omega) ?_
      simp only [hls, e1, e2, e3]
      exact ⟨rfl, ⟨rfl, rfl, rfl, rfl, rfl, rfl, rfl, rfl, rfl, trivial⟩, ⟨rfl, rfl, rfl, trivial⟩, rfl, fun _ _ => rfl⟩
  · have hge : i = R.length := by have := of_decide_eq_false h; omega
    subst hge
    clear h
    obtain ⟨hF4, hca⟩ := dict_after hT k hP hQ
    have hA6 := ask_ok 1 R 6 [k] _ hvR (by simp [okOp, wordsL, numB]; omega) (dict_rank R k)
    rw [hP] at hA6
    have hA4 := ask_ok 1 R 4 [k] _ hvR (by simp [okOp, wordsL, numB]; omega) hF4
    have hPl : min R.length P = P := by have := posC_le 1 R [k]; omega
    rw [hPl]
    have hob : okOp 1 ⟨1, [k, v]⟩ = true := by simp [okOp, wordsL, numB]; omega
    obtain ⟨R', x', h1, hvT, hg⟩ := dict_put_get hvR k v (by omega) hob
    have hPut := mApply_yes 1 R ⟨1, [k, v]⟩ hvR hob
    rw [h1] at hPut
    have hG2 := ask_ok 1 R' 2 [k] _ hvT (by simp [okOp, wordsL, numB]; omega) hg
    have hQv := sameRes_ok (okR v) (okR v)
    rw [decide_eq_true rfl] at hQv
    have hQf := sameRes_ok (floorK R Q R.length) (floorK R Q R.length)
    rw [decide_eq_true rfl] at hQf
    have hOp := op_ok 1 [k, v]
    rcases hca with ⟨f1, f2⟩ | ⟨f2, f3⟩
    · have hA5 := ask_ok 1 R 5 [k] _ hvR (by simp [okOp, wordsL, numB]; omega) f2
      rw [f1] at hA4 hQf ⊢
      clear f1 f2 hF4 hT hQ hP hvR hvT h1 hg hob hL hVA hN hRun hK8
      repeat' first
        | refine g_go T hC true 400 rfl rfl ?_
        | (exfalso; simp [okR] at h; done)
        | refine g_cond rfl (fun h => ?_) (fun h => ?_)
        | refine g_end T hC (by kernel_rfl) ?_
        | refine g_splitD (fun h => ?_) (fun h => ?_)
        | refine g_splitG rfl rfl rfl (fun h => ?_) (fun h => ?_)
        | refine g_splitP rfl rfl (fun h => ?_) (fun h => ?_)
        | refine g_outE ?_
        | refine g_lit T hC rfl rfl rfl rfl rfl rfl rfl rfl rfl ?_
        | refine g_call hC (hA6) rfl rfl (LeSs.refl _) rfl rfl rfl ?_
        | refine g_call hC (hA4) rfl rfl (LeSs.refl _) rfl rfl rfl ?_
        | refine g_call hC (hA5) rfl rfl (LeSs.refl _) rfl rfl rfl ?_
        | refine g_call hC (hQf) rfl rfl (LeSs.refl _) rfl rfl rfl ?_
        | refine g_call hC (hOp) rfl rfl (LeSs.refl _) rfl rfl rfl ?_
        | refine g_call hC (hPut) rfl rfl (LeSs.refl _) rfl rfl rfl ?_
        | refine g_call hC (hG2) rfl rfl (LeSs.refl _) rfl rfl rfl ?_
        | refine g_call hC (hQv) rfl rfl (LeSs.refl _) rfl rfl rfl ?_
      all_goals exact g_fin ⟨.inl rfl, id, _, rfl, by first | exact .refl _ | exact LeS.qb rfl | exact LeS.qq rfl, trivial, rfl, rfl⟩
    · have hA5 := ask_ok 1 R 5 [k] _ hvR (by simp [okOp, wordsL, numB]; omega) f2
      have hQc := sameRes_ok (ceilK R Q R.length) (ceilK R Q R.length)
      rw [decide_eq_true rfl] at hQc
      generalize floorK R Q R.length = F at *
      generalize ceilK R Q R.length = G at *
      obtain ⟨Fe, Fn⟩ := F
      obtain ⟨Ge, Gn⟩ := G
      clear f2 hF4 hT hQ hP hvR hvT h1 hg hob hL hVA hN hRun hK8
      rcases f3 with f3 | ⟨f3, f4⟩
      · repeat' first
          | refine g_go T hC true 400 rfl rfl ?_
          | (exfalso; simp [okR] at h; done)
          | (exfalso; subst f3; simp [okR] at h; done)
          | refine g_cond rfl (fun h => ?_) (fun h => ?_)
          | refine g_end T hC (by kernel_rfl) ?_
          | refine g_splitD (fun h => ?_) (fun h => ?_)
          | refine g_splitG rfl rfl rfl (fun h => ?_) (fun h => ?_)
          | refine g_splitP rfl rfl (fun h => ?_) (fun h => ?_)
          | refine g_outE ?_
          | refine g_lit T hC rfl rfl rfl rfl rfl rfl rfl rfl rfl ?_
          | refine g_call hC (hA6) rfl rfl (LeSs.refl _) rfl rfl rfl ?_
          | refine g_call hC (hA4) rfl rfl (LeSs.refl _) rfl rfl rfl ?_
          | refine g_call hC (hA5) rfl rfl (LeSs.refl _) rfl rfl rfl ?_
          | refine g_call hC (hQf) rfl rfl (LeSs.refl _) rfl rfl rfl ?_
          | refine g_call hC (hQc) rfl rfl (LeSs.refl _) rfl rfl rfl ?_
          | refine g_call hC (hOp) rfl rfl (LeSs.refl _) rfl rfl rfl ?_
          | refine g_call hC (hPut) rfl rfl (LeSs.refl _) rfl rfl rfl ?_
          | refine g_call hC (hG2) rfl rfl (LeSs.refl _) rfl rfl rfl ?_
          | refine g_call hC (hQv) rfl rfl (LeSs.refl _) rfl rfl rfl ?_
        all_goals exact g_fin ⟨.inl rfl, id, _, rfl, by first | exact .refl _ | exact LeS.qb rfl | exact LeS.qq rfl, trivial, rfl, rfl⟩
      · repeat' first
          | refine g_go T hC true 400 rfl rfl ?_
          | (exfalso; simp [okR] at h; done)
          | (exact absurd (of_decide_eq_true h) f4)
          | (exfalso; subst f3; simp [okR] at h; done)
          | refine g_cond rfl (fun h => ?_) (fun h => ?_)
          | refine g_end T hC (by kernel_rfl) ?_
          | refine g_splitD (fun h => ?_) (fun h => ?_)
          | refine g_splitG rfl rfl rfl (fun h => ?_) (fun h => ?_)
          | refine g_splitP rfl rfl (fun h => ?_) (fun h => ?_)
          | refine g_outE ?_
          | refine g_lit T hC rfl rfl rfl rfl rfl rfl rfl rfl rfl ?_
          | refine g_call hC (hA6) rfl rfl (LeSs.refl _) rfl rfl rfl ?_
          | refine g_call hC (hA4) rfl rfl (LeSs.refl _) rfl rfl rfl ?_
          | refine g_call hC (hA5) rfl rfl (LeSs.refl _) rfl rfl rfl ?_
          | refine g_call hC (hQf) rfl rfl (LeSs.refl _) rfl rfl rfl ?_
          | refine g_call hC (hQc) rfl rfl (LeSs.refl _) rfl rfl rfl ?_
          | refine g_call hC (hOp) rfl rfl (LeSs.refl _) rfl rfl rfl ?_
          | refine g_call hC (hPut) rfl rfl (LeSs.refl _) rfl rfl rfl ?_
          | refine g_call hC (hG2) rfl rfl (LeSs.refl _) rfl rfl rfl ?_
          | refine g_call hC (hQv) rfl rfl (LeSs.refl _) rfl rfl rfl ?_
        all_goals exact g_fin ⟨.inl rfl, id, _, rfl, by first | exact .refl _ | exact LeS.qb rfl | exact LeS.qq rfl, trivial, rfl, rfl⟩
abbrev I16 := {n : Int // -32768 ≤ n ∧ n ≤ 32767}
theorem modelDict_row (l : List OpT) (a : U16) (v : I16) : FnOK Try.prog 3 [pS (opsP l), .one (.p (.k (.int .u16 a.1))), .one (.p (.k (.int .i16 v.1)))] [] (.bq true) [] := modelDict_ok l a.1 v.1 a.2 v.2
end Hw.Mo
