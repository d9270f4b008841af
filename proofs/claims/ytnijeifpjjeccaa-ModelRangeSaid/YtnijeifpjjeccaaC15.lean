/- The engine and the contracts. -/
import Derived.Test.YtnijeifpjjeccaaC14
set_option linter.unusedVariables false
set_option linter.unusedSimpArgs false
namespace Hw.Mo
open Go Go.Proofs Go.Shelf Hw.M

/-! models: counts and sums of rectangles, plain -/
def valR (c : Int) (A : Rw) (R : Rws) : Int := if c = 3 then cntB A R else sumB A R
theorem pts_val {R : Rws} {c : Int} (hc : c = 3 ∨ c = 4) (A : Rw) : stepS 5 R ⟨c, A⟩ = (R, okR (valR c A R)) := by
  rcases hc with rfl | rfl <;> rfl
theorem cntB_cons (A : Rw) (r : Rw) (R : Rws) : cntB A (r :: R) = (if inBox A r = true then 1 else 0) + cntB A R := by
  simp only [cntB, List.filter_cons]
  split
  · simp only [List.length_cons]; omega
  · omega
theorem sumB_cons (A : Rw) (r : Rw) (R : Rws) : sumB A (r :: R) = (if inBox A r = true then at0 r 2 else 0) + sumB A R := by
  simp only [sumB, List.filter_cons]
  split
  · simp only [List.map_cons, List.sum_cons]
  · omega
theorem val_add (c : Int) {A1 A2 A3 : Rw} : ∀ {R : Rws}, (∀ r ∈ R, (inBox A3 r = true ↔ inBox A1 r = true ∨ inBox A2 r = true) ∧ ¬ (inBox A1 r = true ∧ inBox A2 r = true)) → valR c A1 R + valR c A2 R = valR c A3 R
  | [], _ => by unfold valR; split <;> rfl
  | r :: R, h => by
    have ih := val_add c (R := R) fun x hx => h x (List.mem_cons_of_mem _ hx)
    obtain ⟨h1, h2⟩ := h r (List.mem_cons_self ..)
    unfold valR at ih ⊢
    split at ih
    · rename_i hc
      rw [if_pos hc, if_pos hc, if_pos hc, cntB_cons, cntB_cons, cntB_cons]
      by_cases a1 : inBox A1 r = true
      · have a2 : ¬ inBox A2 r = true := fun e => h2 ⟨a1, e⟩
        rw [if_pos a1, if_neg a2, if_pos (h1.2 (.inl a1))]; omega
      · by_cases a2 : inBox A2 r = true
        · rw [if_neg a1, if_pos a2, if_pos (h1.2 (.inr a2))]; omega
        · rw [if_neg a1, if_neg a2, if_neg (fun e => (h1.1 e).elim a1 a2)]; omega
    · rename_i hc
      rw [if_neg hc, if_neg hc, if_neg hc, sumB_cons, sumB_cons, sumB_cons]
      by_cases a1 : inBox A1 r = true
      · have a2 : ¬ inBox A2 r = true := fun e => h2 ⟨a1, e⟩
        rw [if_pos a1, if_neg a2, if_pos (h1.2 (.inl a1))]; omega
      · by_cases a2 : inBox A2 r = true
        · rw [if_neg a1, if_pos a2, if_pos (h1.2 (.inr a2))]; omega
        · rw [if_neg a1, if_neg a2, if_neg (fun e => (h1.1 e).elim a1 a2)]; omega
theorem cntB_none {A : Rw} : ∀ {R : Rws}, (∀ r ∈ R, ¬ inBox A r = true) → cntB A R = 0
  | [], _ => rfl
  | r :: R, h => by rw [cntB_cons, if_neg (h r (List.mem_cons_self ..)), cntB_none fun x hx => h x (List.mem_cons_of_mem _ hx)]; rfl
theorem sumB_none {A : Rw} : ∀ {R : Rws}, (∀ r ∈ R, ¬ inBox A r = true) → sumB A R = 0
  | [], _ => rfl
  | r :: R, h => by rw [sumB_cons, if_neg (h r (List.mem_cons_self ..)), sumB_none fun x hx => h x (List.mem_cons_of_mem _ hx)]; rfl
theorem val_none {c : Int} {A : Rw} {R : Rws} (h : ∀ r ∈ R, ¬ inBox A r = true) : valR c A R = 0 := by
  unfold valR; split
  · exact cntB_none h
  · exact sumB_none h
theorem inBox_iff {a b c d : Int} {r : Rw} : inBox [a, b, c, d] r = true ↔ a ≤ at0 r 0 ∧ at0 r 0 ≤ b ∧ c ≤ at0 r 1 ∧ at0 r 1 ≤ d := by
  simp [inBox, at0, and_assoc]
theorem val_bound {c : Int} {A : Rw} {R : Rws} (hR : R.length ≤ 500) (h : ∀ r ∈ R, -1048576 ≤ at0 r 2 ∧ at0 r 2 ≤ 1048576) : -524288000 ≤ valR c A R ∧ valR c A R ≤ 524288000 := by
  unfold valR; split
  · have := cntB_bound (A := A) hR; omega
  · have := sumB_bound (A := A) hR h; omega
theorem cntB_app (A : Rw) : ∀ (R S : Rws), cntB A (R ++ S) = cntB A R + cntB A S
  | [], S => by simp [cntB]
  | r :: R, S => by rw [List.cons_append, cntB_cons, cntB_cons, cntB_app A R S]; omega
/-- The point itself: once, or not at all. -/
theorem cnt_point {R : Rws} (h : TabOk 3 (ltC 2) R) (a b : Int) : cntB [a, a, b, b] R = if hasC 2 R [a, b] = true then 1 else 0 := by
  have hne : ∀ r ∈ R, (inBox [a, a, b, b] r = true ↔ r.take 2 = [a, b]) := fun r hr => by
    obtain ⟨x, y, z, rfl⟩ := len3 (h.wide r hr)
    rw [inBox_iff]
    simp [at0]; omega
  have hsp := posC_spec h pos_lt [a, b]
  have hlo : ∀ r ∈ R.take (posC 2 R [a, b]), ¬ inBox [a, a, b, b] r = true := fun r hr e => by
    have h1 := hsp.1 r hr
    have h2 := (hne r (List.mem_of_mem_take hr)).1 e
    rw [← ltC_key, show ([a, b] : Rw).take 2 = [a, b] from rfl, ← h2, ltC_key, ltC_irr] at h1
    cases h1
  have hsum : cntB [a, a, b, b] R = cntB [a, a, b, b] (R.drop (posC 2 R [a, b])) := by
    conv => lhs; rw [← List.take_append_drop (posC 2 R [a, b]) R]
    rw [cntB_app, cntB_none hlo, Int.zero_add]
  rw [hsum]
  cases hq : hasC 2 R [a, b] with
  | false =>
    rw [if_neg Bool.false_ne_true]
    refine cntB_none fun r hr e => ?_
    have h1 := posC_gt h (by decide) (by simp) hq r hr
    have h2 := (hne r (List.mem_of_mem_drop hr)).1 e
    rw [← ltC_key, h2] at h1
    have : ltC 2 [a, b] [a, b] = true := h1
    rw [ltC_irr] at this
    cases this
  | true =>
    obtain ⟨r, hr, hlt, hrk⟩ := hasC_yes hq
    have hd : R.drop (posC 2 R [a, b]) = r :: R.drop (posC 2 R [a, b] + 1) := by
      obtain ⟨hi, rfl⟩ := List.getElem?_eq_some_iff.1 hr
      exact List.drop_eq_getElem_cons hi
    have hrm := List.mem_of_getElem? hr
    have hpw : ∀ s ∈ R.drop (posC 2 R [a, b] + 1), ltC 2 r s = true := by
      have := h.asc.sublist (List.drop_sublist (posC 2 R [a, b]) R)
      rw [hd] at this
      exact (List.pairwise_cons.1 this).1
    rw [hd, cntB_cons, if_pos ((hne r hrm).2 (by rw [hrk]; rfl)), if_pos rfl, cntB_none fun s hs e => ?_]
    · rfl
    · have h1 := hpw s hs
      have h2 := (hne s (List.mem_of_mem_drop hs)).1 e
      have h3 : s.take 2 = r.take 2 := by rw [h2, hrk]; rfl
      rw [← ltC_key, h3, ltC_key, ltC_irr] at h1
      cases h1
theorem pts_len {R : Rws} {o : OpT} : (pointsS R o).1.length ≤ R.length + 1 := by
  unfold pointsS
  simp only
  repeat' first | (simp only; omega) | (simp only [insR_len (posC_le _ _ _)]; omega) | (have := erase_le' R (posC 2 R o.args); simp only; omega) | split
theorem run_le5 : ∀ (l : List OpT) (R : Rws), (runS 5 R l).1.length ≤ R.length + l.length
  | [], R => by simp [runS]
  | o :: l, R => by
    have h1 := run_le5 l (stepS 5 R o).1
    have h2 : (stepS 5 R o).1.length ≤ R.length + 1 := pts_len
    simp only [runS, List.length_cons]
    omega
end Hw.Mo
namespace Hw.Mo
open Go Go.Proofs Go.Shelf Hw.M

/-! models: the law of rectangles -/
theorem step5 (R : Rws) (o : OpT) : stepS 5 R o = pointsS R o := rfl
theorem pts_add (R : Rws) (a b w : Int) (hR : R.length < 500) : stepS 5 R ⟨1, [a, b, w]⟩ = if hasC 2 R [a, b] = true then (R, erR 15) else (insR R (posC 2 R [a, b]) [a, b, w], okR 0) := by
  have hp : posC 2 R [a, b, w] = posC 2 R [a, b] := (posC_key 2 R [a, b, w]).symm
  have hh : hasC 2 R [a, b, w] = hasC 2 R [a, b] := (hasC_key 2 R [a, b, w]).symm
  have h5 : ¬ R.length = 500 := by omega
  rw [step5]
  simp [pointsS, hp, hh, h5]
theorem pts_rem (R : Rws) (a b : Int) : stepS 5 R ⟨2, [a, b]⟩ = if hasC 2 R [a, b] = true then (R.eraseIdx (posC 2 R [a, b]), okR (at0 (rowA R (posC 2 R [a, b])) 2)) else (R, erR 12) := by
  rw [step5]
  simp [pointsS]
theorem range_out (l : List OpT) (x y z : Int) (h0 : shortB l = false ∨ l.all (okOp 5) = false) : FnOK Try.prog 7 [pS (opsP l), .one (.p (.k (.int .u8 x))), .one (.p (.k (.int .u8 y))), .one (.p (.k (.int .u8 z)))] [] (.bq true) [] := by
  have hL := short_ok l
  have hA := rValidAll_ok 5 l
  cases hs : shortB l with
  | false =>
    rw [hs] at hL
    refine fn_ok T Try.func7 (by kernel_rfl) rfl rfl rfl rfl fun C hC => ?_
    repeat' first
      | refine g_go T hC true 400 rfl rfl ?_
      | (exfalso; simp at h; done)
      | refine g_cond rfl (fun h => ?_) (fun h => ?_)
      | refine g_end T hC (by kernel_rfl) ?_
      | refine g_splitD (fun h => ?_) (fun h => ?_)
      | refine g_splitG rfl rfl rfl (fun h => ?_) (fun h => ?_)
      | refine g_splitP rfl rfl (fun h => ?_) (fun h => ?_)
      | refine g_call hC (awake_ok) rfl rfl (LeSs.refl _) rfl rfl rfl ?_
      | refine g_call hC (hL) rfl rfl (LeSs.refl _) rfl rfl rfl ?_
      | refine g_call hC (hA) rfl rfl (LeSs.refl _) rfl rfl rfl ?_
    all_goals exact g_fin ⟨.inl rfl, id, _, rfl, .refl _, trivial, rfl, rfl⟩
  | true =>
    rw [hs] at hL
    rw [h0.resolve_left (by rw [hs]; decide)] at hA
    refine fn_ok T Try.func7 (by kernel_rfl) rfl rfl rfl rfl fun C hC => ?_
    repeat' first
      | refine g_go T hC true 400 rfl rfl ?_
      | (exfalso; simp at h; done)
      | refine g_cond rfl (fun h => ?_) (fun h => ?_)
      | refine g_end T hC (by kernel_rfl) ?_
      | refine g_splitD (fun h => ?_) (fun h => ?_)
      | refine g_splitG rfl rfl rfl (fun h => ?_) (fun h => ?_)
      | refine g_splitP rfl rfl (fun h => ?_) (fun h => ?_)
      | refine g_call hC (awake_ok) rfl rfl (LeSs.refl _) rfl rfl rfl ?_
      | refine g_call hC (hL) rfl rfl (LeSs.refl _) rfl rfl rfl ?_
      | refine g_call hC (hA) rfl rfl (LeSs.refl _) rfl rfl rfl ?_
    all_goals exact g_fin ⟨.inl rfl, id, _, rfl, .refl _, trivial, rfl, rfl⟩
theorem sort_two (X Y : Int) : ∃ lo hi, sortI [X, Y] = [lo, hi] ∧ lo ≤ hi ∧ (lo = X ∨ lo = Y) ∧ (hi = X ∨ hi = Y) := by
  obtain ⟨lo, hi, e⟩ := len2 (l := sortI [X, Y]) (by rw [sortI_len]; rfl)
  have hp := sortI_perm [X, Y]
  have ha := sortI_asc [X, Y]
  rw [e] at hp ha
  have h1 : lo ∈ [X, Y] := hp.mem_iff.1 (by simp)
  have h2 : hi ∈ [X, Y] := hp.mem_iff.1 (by simp)
  exact ⟨lo, hi, e, by simpa using ha, by simpa using h1, by simpa using h2⟩
theorem pts_ok4 {c a b d e : Int} (hc : c = 3 ∨ c = 4) (h : (-1048576 ≤ a ∧ a ≤ 1048576) ∧ (-1048576 ≤ b ∧ b ≤ 1048576) ∧ (-1048576 ≤ d ∧ d ≤ 1048576) ∧ -1048576 ≤ e ∧ e ≤ 1048576) : okOp 5 ⟨c, [a, b, d, e]⟩ = true := by
  rcases hc with rfl | rfl <;> simp [okOp, wordsL, numB] <;> omega
theorem modelRange_ok (l : List OpT) (x y z : Int) (hx : 0 ≤ x ∧ x ≤ 255) (hy : 0 ≤ y ∧ y ≤ 255) (hz : 0 ≤ z ∧ z ≤ 255) : FnOK Try.prog 7 [pS (opsP l), .one (.p (.k (.int .u8 x))), .one (.p (.k (.int .u8 y))), .one (.p (.k (.int .u8 z)))] [] (.bq true) [] := by
  by_cases h0 : shortB l = false ∨ l.all (okOp 5) = false
  · exact range_out l x y z h0
  have hs : shortB l = true := by
    cases hs : shortB l with
    | true => rfl
    | false => exact absurd (.inl hs) h0
  have hall : l.all (okOp 5) = true := by
    cases hs : l.all (okOp 5) with
    | true => rfl
    | false => exact absurd (.inr hs) h0
  have hl40 : l.length ≤ 40 := by
    have := hs
    unfold shortB at this
    simp only [Bool.and_eq_true, decide_eq_true_eq] at this
    omega
  have hok : ∀ o ∈ l, okOp 5 o = true := List.all_eq_true.1 hall
  have hany : (l.any fun o => !okOp 5 o) = false := by
    rw [List.any_eq_false]
    intro o ho
    rw [hok o ho]; decide
  have hL := short_ok l
  rw [hs] at hL
  have hVA := rValidAll_ok 5 l
  rw [hall] at hVA
  have hN := new_ok (k := 5) (by decide)
  have hRun := mRun_yes 5 [] l (by decide) hany (by omega)
  have hvR := run_valid (k := 5) (R := []) (l := l) (by decide) hok
  have hRl := run_le5 l []
  generalize runS 5 [] l = zz at hRun hvR hRl
  obtain ⟨R, xs⟩ := zz
  simp only [List.length_nil, Nat.zero_add] at hRun hvR hRl
  obtain ⟨_, hT⟩ := valid5 hvR
  have hnum : ∀ r ∈ R, ∀ j, j < 3 → -1048576 ≤ at0 r j ∧ at0 r j ≤ 1048576 := fun r hr j hj => num_bd (hT.nums r hr _ (List.mem_of_getElem? (at0_lt (l := r) (i := j) (by rw [hT.wide r hr]; exact hj))))
  have hx1 : IntKind.i64.wrap ((IntKind.i64.wrap x).tmod 20 - 2) = x % 20 - 2 := by rw [wrap64 (n := x) (by omega), Int.tmod_eq_emod_of_nonneg hx.1]; exact wrap64 (by omega)
  have hy1 : IntKind.i64.wrap ((IntKind.i64.wrap y).tmod 20 - 2) = y % 20 - 2 := by rw [wrap64 (n := y) (by omega), Int.tmod_eq_emod_of_nonneg hy.1]; exact wrap64 (by omega)
  have hz1 : (IntKind.i64.wrap z).tmod 20 = z % 20 := by rw [wrap64 (n := z) (by omega), Int.tmod_eq_emod_of_nonneg hz.1]
  have hH : 0 ≤ z % 20 ∧ z % 20 ≤ 19 := by omega
  have hS := sort_ok [x % 20 - 2, y % 20 - 2] (by simp)
  obtain ⟨lo, hi, hsort, hle, hlo, hhi⟩ := sort_two (x % 20 - 2) (y % 20 - 2)
  rw [hsort] at hS
  have hlo2 : -2 ≤ lo ∧ lo ≤ 17 := by omega
  have hhi2 : -2 ≤ hi ∧ hi ≤ 17 := by omega
  generalize z % 20 = H at hz1 hH
  generalize x % 20 - 2 = X at *
  generalize y % 20 - 2 = Y at *
  refine fn_ok T Try.func7 (by kernel_rfl) rfl rfl rfl rfl fun C hC => ?_
  repeat' first
    | refine g_go T hC true 400 rfl rfl ?_
    | (exfalso; simp at h; done)
    | (exfalso; first | (simp only [decide_eq_true_eq, decide_eq_false_iff_not, List.length_map, Bool.not_eq_true', Bool.not_eq_false'] at *; omega) | (simp at h; done))
    | refine g_cond rfl (fun h => ?_) (fun h => ?_)
    | refine g_end T hC (by kernel_rfl) ?_
    | refine g_splitD (fun h => ?_) (fun h => ?_)
    | refine g_splitG rfl rfl rfl (fun h => ?_) (fun h => ?_)
    | refine g_splitP rfl rfl (fun h => ?_) (fun h => ?_)
    | refine g_call hC (awake_ok) rfl rfl (LeSs.refl _) rfl rfl rfl ?_
    | refine g_call hC (hL) rfl rfl (LeSs.refl _) rfl rfl rfl ?_
    | refine g_call hC (hVA) rfl rfl (LeSs.refl _) rfl rfl rfl ?_
    | refine g_call hC (hN) rfl rfl (LeSs.refl _) rfl rfl rfl ?_
    | refine g_call hC (hRun) rfl rfl (LeSs.refl _) rfl rfl rfl ?_
    | (refine g_rem hC rfl rfl (by decide) rfl rfl ?_)
    | (rw [hx1, hy1]; refine g_litA T hC (d := 72) rfl rfl rfl rfl rfl rfl rfl rfl rfl rfl ?_)
    | refine g_callR hC (hS) (nm [1072]) rfl rfl (LeSs.refl _) rfl rfl rfl rfl rfl rfl rfl rfl ?_
    | refine g_lit T hC rfl rfl rfl rfl rfl rfl rfl rfl rfl ?_
  rw [hz1]
  refine g_freeze rfl (id := 1072) (e := 1) (rows := [lo, hi].map intR) rfl [(13, pS (intsP [lo, hi]))] ⟨⟨_, rfl, FrS.ar⟩, trivial⟩ [] trivial ?_
  have hA4 : valR 3 [lo, lo, hi, hi] R = if hasC 2 R [lo, hi] = true then 1 else 0 := cnt_point hT lo hi
  have hp1 : IntKind.i64.wrap (hi + 1) = hi + 1 := wrap64 (by omega)
  have hm1 : IntKind.i64.wrap (lo - 1) = lo - 1 := wrap64 (by omega)
  refine g_loop (fun i : Nat => i ≤ 2) (fun i => ([(9, .one (.bx 1009 0)), (13, pS (intsP [lo, hi])), (14, I (-1048576)), (15, I H), (78, pS (intsP [3, 4])), (79, I 2), (80, I i)], [(1009, some (.box [.p (ki 5), .p (rowsP R)]))])) (fun i => 2 - i) hC
    0 (Nat.zero_le _) id ⟨rfl, ⟨rfl, rfl, rfl, rfl, rfl, rfl, rfl, trivial⟩, ⟨rfl, trivial⟩, rfl, fun _ _ => rfl⟩ ?_
  intro i hi2
  refine g_run' T hC true 200 rfl ?_
  refine g_cond rfl (fun h => ?_) (fun h => ?_)
  · have hlt : i < 2 := by have := of_decide_eq_true h; omega
    clear h
    obtain ⟨c, hci⟩ := exists_at (l := [(3 : Int), 4]) (i := i) hlt
    have hc : c = 3 ∨ c = 4 := by simpa using List.mem_of_getElem? hci
    have hK1 := ask_ok 5 R c [lo, hi, -1048576, H] _ hvR (pts_ok4 hc (by omega)) (pts_val hc _)
    have hK2 := ask_ok 5 R c [hi + 1, 1048576, -1048576, H] _ hvR (pts_ok4 hc (by omega)) (pts_val hc _)
    have hK3 := ask_ok 5 R c [lo, 1048576, -1048576, H] _ hvR (pts_ok4 hc (by omega)) (pts_val hc _)
    have hK4 := ask_ok 5 R c [lo, lo - 1, -1048576, H] _ hvR (pts_ok4 hc (by omega)) (pts_val hc _)
    have hnone : valR c [lo, lo - 1, -1048576, H] R = 0 := val_none fun r _ e => by rw [inBox_iff] at e; omega
    rw [hnone] at hK4
    have hadd : valR c [lo, hi, -1048576, H] R + valR c [hi + 1, 1048576, -1048576, H] R = valR c [lo, 1048576, -1048576, H] R := val_add c fun r hr => by
      have := hnum r hr 0 (by decide)
      rw [inBox_iff, inBox_iff, inBox_iff]; omega
    have hb := val_bound (c := c) (A := [lo, 1048576, -1048576, H]) (R := R) (by omega) fun r hr => hnum r hr 2 (by decide)
    have hw : IntKind.i64.wrap (valR c [lo, hi, -1048576, H] R + valR c [hi + 1, 1048576, -1048576, H] R) = valR c [lo, 1048576, -1048576, H] R := by rw [hadd]; exact wrap64 (by omega)
    have hQ := sameRes_ok (okR 0) (okR 0)
    rw [decide_eq_true rfl] at hQ
    repeat' first
      | refine g_go T hC true 400 rfl rfl ?_
      | (exfalso; simp at h; done)
      | (exfalso; simp [hw, okR] at h; done)
      | refine g_cond rfl (fun h => ?_) (fun h => ?_)
      | refine g_end T hC (by kernel_rfl) ?_
      | refine g_splitD (fun h => ?_) (fun h => ?_)
      | refine g_splitG rfl rfl rfl (fun h => ?_) (fun h => ?_)
      | refine g_splitP rfl rfl (fun h => ?_) (fun h => ?_)
      | refine g_idx T hC rfl rfl rfl (Int.natCast_nonneg _) (map_at hci) rfl rfl ?_
      | refine g_idx T hC rfl rfl rfl (by decide) rfl rfl rfl ?_
      | refine g_lit T hC rfl rfl rfl rfl rfl rfl rfl rfl rfl ?_
      | refine g_call hC (hK1) rfl rfl (LeSs.refl _) rfl rfl rfl ?_
      | (rw [hp1]; refine g_call hC hK2 rfl rfl (LeSs.refl _) rfl rfl rfl ?_)
      | refine g_call hC (hK3) rfl rfl (LeSs.refl _) rfl rfl rfl ?_
      | (rw [hm1]; refine g_call hC hK4 rfl rfl (LeSs.refl _) rfl rfl rfl ?_)
      | refine g_call hC (hQ) rfl rfl (LeSs.refl _) rfl rfl rfl ?_
    rw [wrapS (by omega)]
    exact g_round (i + 1) (by omega) id (by omega) ⟨rfl, ⟨rfl, rfl, rfl, rfl, rfl, rfl, rfl, trivial⟩, ⟨rfl, trivial⟩, rfl, fun _ _ => rfl⟩
  · clear h
    have hRs : R.length < 500 := by omega
    have hK5 := ask_ok 5 R 3 [lo, lo, hi, hi] _ hvR (pts_ok4 (.inl rfl) (by omega)) (pts_val (.inl rfl) _)
    have hO1 : okOp 5 ⟨1, [lo, hi, 5]⟩ = true := by simp [okOp, wordsL, numB]; omega
    have hO2 : okOp 5 ⟨2, [lo, hi]⟩ = true := by simp [okOp, wordsL, numB]; omega
    have hB1 := mApply_yes 5 R ⟨1, [lo, hi, 5]⟩ hvR hO1
    have hB2 := mApply_yes 5 R ⟨2, [lo, hi]⟩ hvR hO2
    rw [pts_add R lo hi 5 hRs] at hB1
    rw [pts_rem R lo hi] at hB2
    rw [hA4] at hK5
    cases hq : hasC 2 R [lo, hi] with
    | true =>
      rw [hq, if_pos rfl] at hB1 hB2 hK5
      repeat' first
        | refine g_go T hC true 400 rfl rfl ?_
        | (exfalso; simp [okR, erR] at h; done)
        | refine g_cond rfl (fun h => ?_) (fun h => ?_)
        | refine g_end T hC (by kernel_rfl) ?_
        | refine g_splitD (fun h => ?_) (fun h => ?_)
        | refine g_splitG rfl rfl rfl (fun h => ?_) (fun h => ?_)
        | refine g_splitP rfl rfl (fun h => ?_) (fun h => ?_)
        | refine g_outE ?_
        | refine g_idx T hC rfl rfl rfl (by decide) rfl rfl rfl ?_
        | refine g_lit T hC rfl rfl rfl rfl rfl rfl rfl rfl rfl ?_
        | refine g_call hC (hK5) rfl rfl (LeSs.refl _) rfl rfl rfl ?_
        | refine g_call hC (op_ok 1 [lo, hi, 5]) rfl rfl (LeSs.refl _) rfl rfl rfl ?_
        | refine g_call hC (op_ok 2 [lo, hi]) rfl rfl (LeSs.refl _) rfl rfl rfl ?_
        | refine g_call hC (hB1) rfl rfl (LeSs.refl _) rfl rfl rfl ?_
        | refine g_call hC (hB2) rfl rfl (LeSs.refl _) rfl rfl rfl ?_
      all_goals exact g_fin ⟨.inl rfl, id, _, rfl, by first | exact .refl _ | exact LeS.qb rfl | exact LeS.qq rfl, trivial, rfl, rfl⟩
    | false =>
      rw [hq, if_neg Bool.false_ne_true] at hB1 hB2 hK5
      repeat' first
        | refine g_go T hC true 400 rfl rfl ?_
        | (exfalso; simp [okR, erR] at h; done)
        | refine g_cond rfl (fun h => ?_) (fun h => ?_)
        | refine g_end T hC (by kernel_rfl) ?_
        | refine g_splitD (fun h => ?_) (fun h => ?_)
        | refine g_splitG rfl rfl rfl (fun h => ?_) (fun h => ?_)
        | refine g_splitP rfl rfl (fun h => ?_) (fun h => ?_)
        | refine g_outE ?_
        | refine g_idx T hC rfl rfl rfl (by decide) rfl rfl rfl ?_
        | refine g_lit T hC rfl rfl rfl rfl rfl rfl rfl rfl rfl ?_
        | refine g_call hC (hK5) rfl rfl (LeSs.refl _) rfl rfl rfl ?_
        | refine g_call hC (op_ok 1 [lo, hi, 5]) rfl rfl (LeSs.refl _) rfl rfl rfl ?_
        | refine g_call hC (op_ok 2 [lo, hi]) rfl rfl (LeSs.refl _) rfl rfl rfl ?_
        | refine g_call hC (hB1) rfl rfl (LeSs.refl _) rfl rfl rfl ?_
        | refine g_call hC (hB2) rfl rfl (LeSs.refl _) rfl rfl rfl ?_
      all_goals exact g_fin ⟨.inl rfl, id, _, rfl, by first | exact .refl _ | exact LeS.qb rfl | exact LeS.qq rfl, trivial, rfl, rfl⟩
abbrev B8 := {n : Int // 0 ≤ n ∧ n ≤ 255}
theorem modelRange_row (l : List OpT) (x y z : B8) : FnOK Try.prog 7 [pS (opsP l), .one (.p (.k (.int .u8 x.1))), .one (.p (.k (.int .u8 y.1))), .one (.p (.k (.int .u8 z.1)))] [] (.bq true) [] := modelRange_ok l x.1 y.1 z.1 x.2 y.2 z.2
end Hw.Mo
