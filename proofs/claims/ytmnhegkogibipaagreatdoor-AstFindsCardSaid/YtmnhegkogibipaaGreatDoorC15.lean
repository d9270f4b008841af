/- The engine and the contracts. -/
import Derived.Test.YtmnhegkogibipaaGreatDoorC14
set_option linter.unusedVariables false
set_option linter.unusedSimpArgs false
namespace Hw.Z
open Go Go.Proofs Hw.M

/-! A description of at most 3,000 nodes -/
def smT (t : NodeT) (c : Int) : Bool × Int := if decide (100 < (t.n.size : Int)) = true then (false, c) else (fieldsF t.f c, c - t.f.length)
def smM (m : Ms) (c : Int) : Bool × Int := if (decide (100 < (m.n.size : Int)) || decide (100 < (m.t.size : Int))) = true then (false, c) else fewB m.x c
def smI (m : Iv) (c : Int) : Bool × Int := if (decide (100 < (m.n.size : Int)) || decide (100 < (m.t.size : Int))) = true then (false, c) else fewB m.x c
def smO (m : Pt) (c : Int) : Bool × Int := if decide (100 < (m.t.size : Int)) = true then (false, c) else fewB m.x c
def smB (m : Bd) (c : Int) : Bool × Int := if decide (100 < (m.p.size : Int)) = true then (false, c) else fewB m.x c
theorem smT_bound (t : NodeT) (c : Int) (h : 0 ≤ c) : (smT t c).2 ≤ c ∧ ((smT t c).1 = true → 0 ≤ (smT t c).2) := by
  unfold smT; split
  · exact ⟨Int.le_refl _, fun e => by cases e⟩
  · exact ⟨by simp only; omega, fun e => fieldsF_ge e⟩
theorem few_bound (x : Ex) (c : Int) (h : 0 ≤ c) : (fewB x c).2 ≤ c ∧ ((fewB x c).1 = true → 0 ≤ (fewB x c).2) := by
  have := fewB_bound x c h; exact ⟨this.2.1, this.2.2⟩
theorem smM_bound (t : Ms) (c : Int) (h : 0 ≤ c) : (smM t c).2 ≤ c ∧ ((smM t c).1 = true → 0 ≤ (smM t c).2) := by
  unfold smM; split
  · exact ⟨Int.le_refl _, fun e => by cases e⟩
  · exact few_bound t.x c h
theorem smI_bound (t : Iv) (c : Int) (h : 0 ≤ c) : (smI t c).2 ≤ c ∧ ((smI t c).1 = true → 0 ≤ (smI t c).2) := by
  unfold smI; split
  · exact ⟨Int.le_refl _, fun e => by cases e⟩
  · exact few_bound t.x c h
theorem smO_bound (t : Pt) (c : Int) (h : 0 ≤ c) : (smO t c).2 ≤ c ∧ ((smO t c).1 = true → 0 ≤ (smO t c).2) := by
  unfold smO; split
  · exact ⟨Int.le_refl _, fun e => by cases e⟩
  · exact few_bound t.x c h
theorem smB_bound (t : Bd) (c : Int) (h : 0 ≤ c) : (smB t c).2 ≤ c ∧ ((smB t c).1 = true → 0 ≤ (smB t c).2) := by
  unfold smB; split
  · exact ⟨Int.le_refl _, fun e => by cases e⟩
  · exact few_bound t.x c h
def sm1 (d : Desc) : Bool × Int := thr smT d.types (3000 - d.globals.length)
def sm2 (d : Desc) : Bool × Int := thr procF d.procs (sm1 d).2
def sm3 (d : Desc) : Bool × Int := thr smM d.measures (sm2 d).2
def sm4 (d : Desc) : Bool × Int := thr smI d.invs (sm3 d).2
def sm5 (d : Desc) : Bool × Int := thr smO d.pots (sm4 d).2
def sm6 (d : Desc) : Bool × Int := thr smB d.bounds (sm5 d).2
def headD (d : Desc) : Bool := decide (100 < (d.n.size : Int)) || decide (100 < (d.types.length : Int)) || decide (100 < (d.procs.length : Int)) || decide (100 < (d.measures.length : Int)) || decide (100 < (d.invs.length : Int)) || decide (100 < (d.pots.length : Int)) || decide (100 < (d.bounds.length : Int))
def smallF (d : Desc) : Bool := !headD d && fieldsF d.globals 3000 && (sm1 d).1 && (sm2 d).1 && (sm3 d).1 && (sm4 d).1 && (sm5 d).1 && (sm6 d).1

theorem small09_ok (d : Desc) : FnOK Tryz.prog 44 [aggS (descR d)] [] (.bq (smallF d)) [] := by
  have hF := fewFields_ok d.globals 3000 (by decide) (by decide)
  generalize hres : smallF d = res
  have hzh : headD d = true → res = false := fun h => by rw [← hres]; unfold smallF; rw [h]; simp
  have hzF : fieldsF d.globals 3000 = false → res = false := fun h => by rw [← hres]; unfold smallF; rw [h]; simp
  have hz1 : (sm1 d).1 = false → res = false := fun h => by rw [← hres]; unfold smallF; rw [h]; simp
  have hz2 : (sm2 d).1 = false → res = false := fun h => by rw [← hres]; unfold smallF; rw [h]; simp
  have hz3 : (sm3 d).1 = false → res = false := fun h => by rw [← hres]; unfold smallF; rw [h]; simp
  have hz4 : (sm4 d).1 = false → res = false := fun h => by rw [← hres]; unfold smallF; rw [h]; simp
  have hz5 : (sm5 d).1 = false → res = false := fun h => by rw [← hres]; unfold smallF; rw [h]; simp
  have hz6 : (sm6 d).1 = false → res = false := fun h => by rw [← hres]; unfold smallF; rw [h]; simp
  generalize hq : fieldsF d.globals 3000 = q at hF hzF
  refine fn_ok T Tryz.func44 (by kernel_rfl) rfl rfl rfl rfl fun C hC => ?_
  repeat' first
    | refine g_go T hC true 400 rfl rfl ?_
    | refine g_cond rfl (fun h => ?_) (fun h => ?_)
    | refine g_end T hC (by kernel_rfl) ?_
    | refine g_splitD (fun h => ?_) (fun h => ?_)
    | refine g_splitG rfl rfl rfl (fun h => ?_) (fun h => ?_)
    | refine g_splitP rfl rfl (fun h => ?_) (fun h => ?_)
    | refine g_callR hC (hF) (nm [1003]) rfl rfl (LeSs.refl _) rfl rfl rfl rfl rfl rfl rfl rfl ?_
    | refine g_retl T (.inl rfl) rfl ?_
  all_goals (try simp only [List.length_map] at *)
  all_goals first
    | (refine (hzh ?_).symm; clear hF hz1 hz2 hz3 hz4 hz5 hz6 hzh hzF; unfold headD; simp_all; done)
    | (refine (hzF ?_).symm; clear hF hz1 hz2 hz3 hz4 hz5 hz6 hzh hzF; simp_all; done)
    | skip
  have hq' : fieldsF d.globals 3000 = true := by rw [hq]; clear hF hz1 hz2 hz3 hz4 hz5 hz6 hzh hzF; simp_all
  have hg := fieldsF_ge hq'
  have hhd : headD d = false := by clear hF hz1 hz2 hz3 hz4 hz5 hz6 hzh hzF; unfold headD; simp_all
  have hlen : (d.types.length : Int) ≤ 100 ∧ (d.measures.length : Int) ≤ 100 ∧ (d.invs.length : Int) ≤ 100 ∧ (d.pots.length : Int) ≤ 100 ∧ (d.bounds.length : Int) ≤ 100 := by
    have hh := hhd
    unfold headD at hh
    simp only [Bool.or_eq_false_iff, decide_eq_false_iff_not] at hh
    refine ⟨?_, ?_, ?_, ?_, ?_⟩ <;> omega
  clear hF
  refine g_loop (fun p : Nat × Int => p.1 ≤ d.types.length ∧ 0 ≤ p.2 ∧ p.2 ≤ 3000 ∧ thr smT (d.types.drop p.1) p.2 = sm1 d) (fun p => ([(1, .one (.bx 1001 0)), (3, .one (.bx 1003 0)), (61, pS (.sl 2 (d.types.map nodeTR))), (62, I d.types.length), (63, I p.1)], [(1001, some (Res.box ((descR d).map V.p))), (1003, some (Res.box [.p (ki p.2)]))])) (fun p => d.types.length - p.1) hC
    (0, 3000 - d.globals.length) ⟨Nat.zero_le _, by simp only; omega, by simp only; omega, by simp only [List.drop_zero]; rfl⟩ id ⟨rfl, ⟨rfl, rfl, rfl, rfl, rfl, trivial⟩, ⟨rfl, rfl, trivial⟩, rfl, fun _ _ => rfl⟩ ?_
  rintro ⟨i, c⟩ ⟨hi, hc0, hc1, hn⟩
  simp only at hi hc0 hc1 hn
  refine g_run' T hC true 200 rfl ?_
  refine g_cond rfl (fun h => ?_) (fun h => ?_)
  · have hlt : i < d.types.length := by have := of_decide_eq_true h; omega
    clear h
    obtain ⟨x, hx⟩ := exists_at hlt
    rw [drop_at hx, thr] at hn
    have hb := smT_bound x c hc0
    have hX := fewFields_ok x.f c hc0 (by omega)
    obtain ⟨q1, hq1⟩ : ∃ q1, q1 = fieldsF x.f c := ⟨_, rfl⟩
    (try unfold FewOK at hX)
    rw [← hq1] at hX
    have hs : smT x c = if (decide (100 < (x.n.size : Int))) = true then (false, c) else (q1, c - x.f.length) := by rw [hq1]; rfl
    repeat' first
      | refine g_go T hC true 400 rfl rfl ?_
      | refine g_cond rfl (fun h => ?_) (fun h => ?_)
      | refine g_end T hC (by kernel_rfl) ?_
      | refine g_splitD (fun h => ?_) (fun h => ?_)
      | refine g_splitG rfl rfl rfl (fun h => ?_) (fun h => ?_)
      | refine g_splitP rfl rfl (fun h => ?_) (fun h => ?_)
      | refine g_idx T hC rfl rfl rfl (Int.natCast_nonneg _) (map_at hx) rfl rfl ?_
      | refine g_callR hC (hX) (nm [1003]) rfl rfl (LeSs.refl _) rfl rfl rfl rfl rfl rfl rfl rfl ?_
      | refine g_outR ?_
      | refine g_retl T (.inl rfl) rfl ?_
    all_goals clear hX
    all_goals first
      | (have hp : (smT x c).1 = false := by
           rw [hs]; split
           · rfl
           · first | (simp only; simpa using h) | (exfalso; rename_i hh; apply hh; clear hs hn hb hx hzh hzF; simp_all; done)
         rw [if_neg (by rw [hp]; decide)] at hn
         exact (hz1 (by rw [← hn])).symm)
      | (have hp : smT x c = (true, c - x.f.length) := by
           rw [hs, if_neg (by clear hs hn hb hx hzh hzF; simp_all)]; rw [show q1 = true by simpa using h]
         rw [if_pos (by rw [hp]), hp] at hn
         rw [hp] at hb
         rw [wrap64 (by omega)]
         exact g_round (i + 1, c - x.f.length) ⟨by simp only; omega, hb.2 rfl, by have := hb.1; simp only at this ⊢; omega, hn⟩ id (by simp only; omega) ⟨rfl, ⟨rfl, rfl, rfl, rfl, rfl, trivial⟩, ⟨rfl, rfl, trivial⟩, rfl, fun _ _ => rfl⟩)
  have hge : ¬ i < d.types.length := by have := of_decide_eq_false h; omega
  rw [List.drop_eq_nil_of_le (by omega), thr] at hn
  clear h hge hi hz1
  obtain ⟨c1, rfl⟩ : ∃ c1, c1 = c := ⟨_, rfl⟩
  have hs1 := hn.symm
  clear hn
  have hP := procs_has d.procs c1 hc0 (by omega)
  have hbP := thr_bound (p := procF) procF_bound d.procs c1 hc0
  have hs2 : sm2 d = thr procF d.procs c1 := by unfold sm2; rw [hs1]
  rw [← hs2] at hP hbP
  obtain ⟨q2, c2, hp2⟩ : ∃ q2 c2, sm2 d = (q2, c2) := ⟨_, _, rfl⟩
  rw [hp2] at hP hbP
  simp only at hP hbP
  rw [hp2] at hz2
  repeat' first
    | refine g_go T hC true 400 rfl rfl ?_
    | refine g_cond rfl (fun h => ?_) (fun h => ?_)
    | refine g_end T hC (by kernel_rfl) ?_
    | refine g_splitD (fun h => ?_) (fun h => ?_)
    | refine g_splitG rfl rfl rfl (fun h => ?_) (fun h => ?_)
    | refine g_splitP rfl rfl (fun h => ?_) (fun h => ?_)
    | refine g_outE ?_
    | refine g_callR hC (hP) (nm [1003]) rfl rfl (LeSs.refl _) rfl rfl rfl rfl rfl rfl rfl rfl ?_
    | refine g_retl T (.inl rfl) rfl ?_
  all_goals (try simp only [List.length_map] at *)
  · exact (hz2 (by simpa using h)).symm
  have hq2 : q2 = true := by simpa using h
  subst hq2
  have hg2 := hbP.2 rfl
  have hl2 : c2 ≤ 3000 := by have := hbP.1; omega
  clear hP hbP h hz2 hs2 hc0 hc1
  have hF := hp2
  clear hF
  refine g_loop (fun p : Nat × Int => p.1 ≤ d.measures.length ∧ 0 ≤ p.2 ∧ p.2 ≤ 3000 ∧ thr smM (d.measures.drop p.1) p.2 = sm3 d) (fun p => ([(1, .one (.bx 1001 0)), (3, .one (.bx 1003 0)), (83, pS (.sl 7 (d.measures.map measureR))), (84, I d.measures.length), (85, I p.1)], [(1001, some (Res.box ((descR d).map V.p))), (1003, some (Res.box [.p (ki p.2)]))])) (fun p => d.measures.length - p.1) hC
    (0, c2) ⟨Nat.zero_le _, by simp only; omega, by simp only; omega, by simp only [List.drop_zero]; unfold sm3; rw [hp2]⟩ id ⟨rfl, ⟨rfl, rfl, rfl, rfl, rfl, trivial⟩, ⟨rfl, rfl, trivial⟩, rfl, fun _ _ => rfl⟩ ?_
  rintro ⟨i, c⟩ ⟨hi, hc0, hc1, hn⟩
  simp only at hi hc0 hc1 hn
  refine g_run' T hC true 200 rfl ?_
  refine g_cond rfl (fun h => ?_) (fun h => ?_)
  · have hlt : i < d.measures.length := by have := of_decide_eq_true h; omega
    clear h
    obtain ⟨x, hx⟩ := exists_at hlt
    rw [drop_at hx, thr] at hn
    have hb := smM_bound x c hc0
    have hX := few_ok (SizeOf.sizeOf x.x + 1) x.x c (by omega) hc0 (by omega)
    obtain ⟨q1, hq1⟩ : ∃ q1, q1 = (fewB x.x c).1 := ⟨_, rfl⟩
    (try unfold FewOK at hX)
    rw [← hq1] at hX
    have hs : smM x c = if (decide (100 < (x.n.size : Int)) || decide (100 < (x.t.size : Int))) = true then (false, c) else (q1, (fewB x.x c).2) := by rw [hq1]; rfl
    repeat' first
      | refine g_go T hC true 400 rfl rfl ?_
      | refine g_cond rfl (fun h => ?_) (fun h => ?_)
      | refine g_end T hC (by kernel_rfl) ?_
      | refine g_splitD (fun h => ?_) (fun h => ?_)
      | refine g_splitG rfl rfl rfl (fun h => ?_) (fun h => ?_)
      | refine g_splitP rfl rfl (fun h => ?_) (fun h => ?_)
      | refine g_idx T hC rfl rfl rfl (Int.natCast_nonneg _) (map_at hx) rfl rfl ?_
      | refine g_callR hC (hX) (nm [1003]) rfl rfl (LeSs.refl _) rfl rfl rfl rfl rfl rfl rfl rfl ?_
      | refine g_outR ?_
      | refine g_retl T (.inl rfl) rfl ?_
    all_goals clear hX
    all_goals first
      | (have hp : (smM x c).1 = false := by
           rw [hs]; split
           · rfl
           · first | (simp only; simpa using h) | (exfalso; rename_i hh; apply hh; clear hs hn hb hx hzh hzF; simp_all; done)
         rw [if_neg (by rw [hp]; decide)] at hn
         exact (hz3 (by rw [← hn])).symm)
      | (have hp : smM x c = (true, (fewB x.x c).2) := by
           rw [hs, if_neg (by clear hs hn hb hx hzh hzF; simp_all)]; rw [show q1 = true by simpa using h]
         rw [if_pos (by rw [hp]), hp] at hn
         rw [hp] at hb
         rw [wrap64 (by omega)]
         exact g_round (i + 1, (fewB x.x c).2) ⟨by simp only; omega, hb.2 rfl, by have := hb.1; simp only at this ⊢; omega, hn⟩ id (by simp only; omega) ⟨rfl, ⟨rfl, rfl, rfl, rfl, rfl, trivial⟩, ⟨rfl, rfl, trivial⟩, rfl, fun _ _ => rfl⟩)
  have hge : ¬ i < d.measures.length := by have := of_decide_eq_false h; omega
  rw [List.drop_eq_nil_of_le (by omega), thr] at hn
  clear h hge hi hz3
  obtain ⟨c3, rfl⟩ : ∃ c3, c3 = c := ⟨_, rfl⟩
  have hs3 := hn.symm
  clear hn
  have hF := hs3
  repeat' first
    | refine g_go T hC true 400 rfl rfl ?_
    | refine g_cond rfl (fun h => ?_) (fun h => ?_)
    | refine g_end T hC (by kernel_rfl) ?_
    | refine g_splitD (fun h => ?_) (fun h => ?_)
    | refine g_splitG rfl rfl rfl (fun h => ?_) (fun h => ?_)
    | refine g_splitP rfl rfl (fun h => ?_) (fun h => ?_)
    | refine g_outE ?_
  rw [List.length_map]
  clear hF
  refine g_loop (fun p : Nat × Int => p.1 ≤ d.invs.length ∧ 0 ≤ p.2 ∧ p.2 ≤ 3000 ∧ thr smI (d.invs.drop p.1) p.2 = sm4 d) (fun p => ([(1, .one (.bx 1001 0)), (3, .one (.bx 1003 0)), (107, pS (.sl 6 (d.invs.map invR))), (108, I d.invs.length), (109, I p.1)], [(1001, some (Res.box ((descR d).map V.p))), (1003, some (Res.box [.p (ki p.2)]))])) (fun p => d.invs.length - p.1) hC
    (0, c3) ⟨Nat.zero_le _, by simp only; omega, by simp only; omega, by simp only [List.drop_zero]; unfold sm4; rw [hs3]⟩ id ⟨rfl, ⟨rfl, rfl, rfl, rfl, rfl, trivial⟩, ⟨rfl, rfl, trivial⟩, rfl, fun _ _ => rfl⟩ ?_
  rintro ⟨i, c⟩ ⟨hi, hc0, hc1, hn⟩
  simp only at hi hc0 hc1 hn
  refine g_run' T hC true 200 rfl ?_
  refine g_cond rfl (fun h => ?_) (fun h => ?_)
  · have hlt : i < d.invs.length := by have := of_decide_eq_true h; omega
    clear h
    obtain ⟨x, hx⟩ := exists_at hlt
    rw [drop_at hx, thr] at hn
    have hb := smI_bound x c hc0
    have hX := few_ok (SizeOf.sizeOf x.x + 1) x.x c (by omega) hc0 (by omega)
    obtain ⟨q1, hq1⟩ : ∃ q1, q1 = (fewB x.x c).1 := ⟨_, rfl⟩
    (try unfold FewOK at hX)
    rw [← hq1] at hX
    have hs : smI x c = if (decide (100 < (x.n.size : Int)) || decide (100 < (x.t.size : Int))) = true then (false, c) else (q1, (fewB x.x c).2) := by rw [hq1]; rfl
    repeat' first
      | refine g_go T hC true 400 rfl rfl ?_
      | refine g_cond rfl (fun h => ?_) (fun h => ?_)
      | refine g_end T hC (by kernel_rfl) ?_
      | refine g_splitD (fun h => ?_) (fun h => ?_)
      | refine g_splitG rfl rfl rfl (fun h => ?_) (fun h => ?_)
      | refine g_splitP rfl rfl (fun h => ?_) (fun h => ?_)
      | refine g_idx T hC rfl rfl rfl (Int.natCast_nonneg _) (map_at hx) rfl rfl ?_
      | refine g_callR hC (hX) (nm [1003]) rfl rfl (LeSs.refl _) rfl rfl rfl rfl rfl rfl rfl rfl ?_
      | refine g_outR ?_
      | refine g_retl T (.inl rfl) rfl ?_
    all_goals clear hX
    all_goals first
      | (have hp : (smI x c).1 = false := by
           rw [hs]; split
           · rfl
           · first | (simp only; simpa using h) | (exfalso; rename_i hh; apply hh; clear hs hn hb hx hzh hzF; simp_all; done)
         rw [if_neg (by rw [hp]; decide)] at hn
         exact (hz4 (by rw [← hn])).symm)
      | (have hp : smI x c = (true, (fewB x.x c).2) := by
           rw [hs, if_neg (by clear hs hn hb hx hzh hzF; simp_all)]; rw [show q1 = true by simpa using h]
         rw [if_pos (by rw [hp]), hp] at hn
         rw [hp] at hb
         rw [wrap64 (by omega)]
         exact g_round (i + 1, (fewB x.x c).2) ⟨by simp only; omega, hb.2 rfl, by have := hb.1; simp only at this ⊢; omega, hn⟩ id (by simp only; omega) ⟨rfl, ⟨rfl, rfl, rfl, rfl, rfl, trivial⟩, ⟨rfl, rfl, trivial⟩, rfl, fun _ _ => rfl⟩)
  have hge : ¬ i < d.invs.length := by have := of_decide_eq_false h; omega
  rw [List.drop_eq_nil_of_le (by omega), thr] at hn
  clear h hge hi hz4
  obtain ⟨c4, rfl⟩ : ∃ c4, c4 = c := ⟨_, rfl⟩
  have hs4 := hn.symm
  clear hn
  have hF := hs4
  repeat' first
    | refine g_go T hC true 400 rfl rfl ?_
    | refine g_cond rfl (fun h => ?_) (fun h => ?_)
    | refine g_end T hC (by kernel_rfl) ?_
    | refine g_splitD (fun h => ?_) (fun h => ?_)
    | refine g_splitG rfl rfl rfl (fun h => ?_) (fun h => ?_)
    | refine g_splitP rfl rfl (fun h => ?_) (fun h => ?_)
    | refine g_outE ?_
  rw [List.length_map]
  clear hF
  refine g_loop (fun p : Nat × Int => p.1 ≤ d.pots.length ∧ 0 ≤ p.2 ∧ p.2 ≤ 3000 ∧ thr smO (d.pots.drop p.1) p.2 = sm5 d) (fun p => ([(1, .one (.bx 1001 0)), (3, .one (.bx 1003 0)), (131, pS (.sl 5 (d.pots.map potR))), (132, I d.pots.length), (133, I p.1)], [(1001, some (Res.box ((descR d).map V.p))), (1003, some (Res.box [.p (ki p.2)]))])) (fun p => d.pots.length - p.1) hC
    (0, c4) ⟨Nat.zero_le _, by simp only; omega, by simp only; omega, by simp only [List.drop_zero]; unfold sm5; rw [hs4]⟩ id ⟨rfl, ⟨rfl, rfl, rfl, rfl, rfl, trivial⟩, ⟨rfl, rfl, trivial⟩, rfl, fun _ _ => rfl⟩ ?_
  rintro ⟨i, c⟩ ⟨hi, hc0, hc1, hn⟩
  simp only at hi hc0 hc1 hn
  refine g_run' T hC true 200 rfl ?_
  refine g_cond rfl (fun h => ?_) (fun h => ?_)
  · have hlt : i < d.pots.length := by have := of_decide_eq_true h; omega
    clear h
    obtain ⟨x, hx⟩ := exists_at hlt
    rw [drop_at hx, thr] at hn
    have hb := smO_bound x c hc0
    have hX := few_ok (SizeOf.sizeOf x.x + 1) x.x c (by omega) hc0 (by omega)
    obtain ⟨q1, hq1⟩ : ∃ q1, q1 = (fewB x.x c).1 := ⟨_, rfl⟩
    (try unfold FewOK at hX)
    rw [← hq1] at hX
    have hs : smO x c = if (decide (100 < (x.t.size : Int))) = true then (false, c) else (q1, (fewB x.x c).2) := by rw [hq1]; rfl
    repeat' first
      | refine g_go T hC true 400 rfl rfl ?_
      | refine g_cond rfl (fun h => ?_) (fun h => ?_)
      | refine g_end T hC (by kernel_rfl) ?_
      | refine g_splitD (fun h => ?_) (fun h => ?_)
      | refine g_splitG rfl rfl rfl (fun h => ?_) (fun h => ?_)
      | refine g_splitP rfl rfl (fun h => ?_) (fun h => ?_)
      | refine g_idx T hC rfl rfl rfl (Int.natCast_nonneg _) (map_at hx) rfl rfl ?_
      | refine g_callR hC (hX) (nm [1003]) rfl rfl (LeSs.refl _) rfl rfl rfl rfl rfl rfl rfl rfl ?_
      | refine g_outR ?_
      | refine g_retl T (.inl rfl) rfl ?_
    all_goals clear hX
    all_goals first
      | (have hp : (smO x c).1 = false := by
           rw [hs]; split
           · rfl
           · first | (simp only; simpa using h) | (exfalso; rename_i hh; apply hh; clear hs hn hb hx hzh hzF; simp_all; done)
         rw [if_neg (by rw [hp]; decide)] at hn
         exact (hz5 (by rw [← hn])).symm)
      | (have hp : smO x c = (true, (fewB x.x c).2) := by
           rw [hs, if_neg (by clear hs hn hb hx hzh hzF; simp_all)]; rw [show q1 = true by simpa using h]
         rw [if_pos (by rw [hp]), hp] at hn
         rw [hp] at hb
         rw [wrap64 (by omega)]
         exact g_round (i + 1, (fewB x.x c).2) ⟨by simp only; omega, hb.2 rfl, by have := hb.1; simp only at this ⊢; omega, hn⟩ id (by simp only; omega) ⟨rfl, ⟨rfl, rfl, rfl, rfl, rfl, trivial⟩, ⟨rfl, rfl, trivial⟩, rfl, fun _ _ => rfl⟩)
  have hge : ¬ i < d.pots.length := by have := of_decide_eq_false h; omega
  rw [List.drop_eq_nil_of_le (by omega), thr] at hn
  clear h hge hi hz5
  obtain ⟨c5, rfl⟩ : ∃ c5, c5 = c := ⟨_, rfl⟩
  have hs5 := hn.symm
  clear hn
  have hF := hs5
  repeat' first
    | refine g_go T hC true 400 rfl rfl ?_
    | refine g_cond rfl (fun h => ?_) (fun h => ?_)
    | refine g_end T hC (by kernel_rfl) ?_
    | refine g_splitD (fun h => ?_) (fun h => ?_)
    | refine g_splitG rfl rfl rfl (fun h => ?_) (fun h => ?_)
    | refine g_splitP rfl rfl (fun h => ?_) (fun h => ?_)
    | refine g_outE ?_
  rw [List.length_map]
  clear hF
  refine g_loop (fun p : Nat × Int => p.1 ≤ d.bounds.length ∧ 0 ≤ p.2 ∧ p.2 ≤ 3000 ∧ thr smB (d.bounds.drop p.1) p.2 = sm6 d) (fun p => ([(1, .one (.bx 1001 0)), (3, .one (.bx 1003 0)), (149, pS (.sl 5 (d.bounds.map boundR))), (150, I d.bounds.length), (151, I p.1)], [(1001, some (Res.box ((descR d).map V.p))), (1003, some (Res.box [.p (ki p.2)]))])) (fun p => d.bounds.length - p.1) hC
    (0, c5) ⟨Nat.zero_le _, by simp only; omega, by simp only; omega, by simp only [List.drop_zero]; unfold sm6; rw [hs5]⟩ id ⟨rfl, ⟨rfl, rfl, rfl, rfl, rfl, trivial⟩, ⟨rfl, rfl, trivial⟩, rfl, fun _ _ => rfl⟩ ?_
  rintro ⟨i, c⟩ ⟨hi, hc0, hc1, hn⟩
  simp only at hi hc0 hc1 hn
  refine g_run' T hC true 200 rfl ?_
  refine g_cond rfl (fun h => ?_) (fun h => ?_)
  · have hlt : i < d.bounds.length := by have := of_decide_eq_true h; omega
    clear h
    obtain ⟨x, hx⟩ := exists_at hlt
    rw [drop_at hx, thr] at hn
    have hb := smB_bound x c hc0
    have hX := few_ok (SizeOf.sizeOf x.x + 1) x.x c (by omega) hc0 (by omega)
    obtain ⟨q1, hq1⟩ : ∃ q1, q1 = (fewB x.x c).1 := ⟨_, rfl⟩
    (try unfold FewOK at hX)
    rw [← hq1] at hX
    have hs : smB x c = if (decide (100 < (x.p.size : Int))) = true then (false, c) else (q1, (fewB x.x c).2) := by rw [hq1]; rfl
    repeat' first
      | refine g_go T hC true 400 rfl rfl ?_
      | refine g_cond rfl (fun h => ?_) (fun h => ?_)
      | refine g_end T hC (by kernel_rfl) ?_
      | refine g_splitD (fun h => ?_) (fun h => ?_)
      | refine g_splitG rfl rfl rfl (fun h => ?_) (fun h => ?_)
      | refine g_splitP rfl rfl (fun h => ?_) (fun h => ?_)
      | refine g_idx T hC rfl rfl rfl (Int.natCast_nonneg _) (map_at hx) rfl rfl ?_
      | refine g_callR hC (hX) (nm [1003]) rfl rfl (LeSs.refl _) rfl rfl rfl rfl rfl rfl rfl rfl ?_
      | refine g_outR ?_
      | refine g_retl T (.inl rfl) rfl ?_
    all_goals clear hX
    all_goals first
      | (have hp : (smB x c).1 = false := by
           rw [hs]; split
           · rfl
           · first | (simp only; simpa using h) | (exfalso; rename_i hh; apply hh; clear hs hn hb hx hzh hzF; simp_all; done)
         rw [if_neg (by rw [hp]; decide)] at hn
         exact (hz6 (by rw [← hn])).symm)
      | (have hp : smB x c = (true, (fewB x.x c).2) := by
           rw [hs, if_neg (by clear hs hn hb hx hzh hzF; simp_all)]; rw [show q1 = true by simpa using h]
         rw [if_pos (by rw [hp]), hp] at hn
         rw [hp] at hb
         rw [wrap64 (by omega)]
         exact g_round (i + 1, (fewB x.x c).2) ⟨by simp only; omega, hb.2 rfl, by have := hb.1; simp only at this ⊢; omega, hn⟩ id (by simp only; omega) ⟨rfl, ⟨rfl, rfl, rfl, rfl, rfl, trivial⟩, ⟨rfl, rfl, trivial⟩, rfl, fun _ _ => rfl⟩)
  have hge : ¬ i < d.bounds.length := by have := of_decide_eq_false h; omega
  rw [List.drop_eq_nil_of_le (by omega), thr] at hn
  clear h hge hi hz6
  obtain ⟨c6, rfl⟩ : ∃ c6, c6 = c := ⟨_, rfl⟩
  have hs6 := hn.symm
  clear hn
  repeat' first
    | refine g_go T hC true 400 rfl rfl ?_
    | refine g_cond rfl (fun h => ?_) (fun h => ?_)
    | refine g_end T hC (by kernel_rfl) ?_
    | refine g_splitD (fun h => ?_) (fun h => ?_)
    | refine g_splitG rfl rfl rfl (fun h => ?_) (fun h => ?_)
    | refine g_splitP rfl rfl (fun h => ?_) (fun h => ?_)
    | refine g_outE ?_
    | refine g_retl T (.inl rfl) rfl ?_
  rw [← hres]
  unfold smallF
  rw [hhd, hq', hs1, hp2, hs3, hs4, hs5, hs6]
  rfl
theorem small_facts {d : Desc} (h : smallF d = true) : headD d = false ∧ fieldsF d.globals 3000 = true ∧ (sm1 d).1 = true ∧ (sm2 d).1 = true ∧ (sm3 d).1 = true ∧ (sm4 d).1 = true ∧ (sm5 d).1 = true ∧ (sm6 d).1 = true := by
  unfold smallF at h
  simp only [Bool.and_eq_true, Bool.not_eq_true'] at h
  obtain ⟨⟨⟨⟨⟨⟨⟨h1, h2⟩, h3⟩, h4⟩, h5⟩, h6⟩, h7⟩, h8⟩ := h
  exact ⟨h1, h2, h3, h4, h5, h6, h7, h8⟩
end Hw.Z
