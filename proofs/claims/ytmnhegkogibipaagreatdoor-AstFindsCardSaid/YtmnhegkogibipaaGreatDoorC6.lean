/- The engine and the contracts. -/
import Derived.Test.YtmnhegkogibipaaGreatDoorC5
set_option linter.unusedVariables false
set_option linter.unusedSimpArgs false
namespace Hw.Z
open Go Go.Proofs Hw.M

mutual
def stB : Sm → Int → Int → Bool × Int
  | .mk op s e l els, d, c => if (decide (0 ≤ c - 1) && (shapeP (.mk op s e l els) && e.all exprOk)) = true then
      (if (if decide (0 < (l.length : Int)) && decide (60 < d + 1) then (false, c - 1) else stQ l (d + 1) (c - 1)).1 = true then
        (if decide (0 < (els.length : Int)) && decide (60 < d + 1) then (false, (if decide (0 < (l.length : Int)) && decide (60 < d + 1) then (false, c - 1) else stQ l (d + 1) (c - 1)).2)
          else stQ els (d + 1) (if decide (0 < (l.length : Int)) && decide (60 < d + 1) then (false, c - 1) else stQ l (d + 1) (c - 1)).2)
        else (false, (if decide (0 < (l.length : Int)) && decide (60 < d + 1) then (false, c - 1) else stQ l (d + 1) (c - 1)).2))
      else (false, c - 1)
def stQ : List Sm → Int → Int → Bool × Int
  | [], _, c => (true, c)
  | x :: r, d, c => if (stB x d c).1 = true then stQ r d (stB x d c).2 else (false, (stB x d c).2)
end
/-- The program's way through statements. -/
def stP (l : List Sm) (d c : Int) : Bool × Int := if decide (0 < (l.length : Int)) && decide (60 < d) then (false, c) else stQ l d c
theorem stB_eq (s : Sm) (d c : Int) : stB s d c = if (decide (0 ≤ c - 1) && (shapeP s && s.e.all exprOk)) = true then
    (if (stP s.l (d + 1) (c - 1)).1 = true then stP s.els (d + 1) (stP s.l (d + 1) (c - 1)).2 else (false, (stP s.l (d + 1) (c - 1)).2)) else (false, c - 1) := by
  cases s; rfl
theorem stP_nil (d c : Int) : stP [] d c = (true, c) := rfl

theorem bump_ge {n k : Int} (h : 0 ≤ k) : n ≤ bump n k := by
  unfold bump
  by_cases q : n ≤ 200
  · rw [if_pos q]; omega
  · rw [if_neg q]; omega
theorem stN_gt (s : Sm) (d n : Int) (h0 : 0 ≤ n) (h1 : n ≤ 200) : n < stN s d n := by
  rw [stN_eq]
  split
  · omega
  · have a1 := (stL_bound s.l (d + 1) 0 (by omega) (by omega)).1
    have a2 := (stL_bound s.els (d + 1) 0 (by omega) (by omega)).1
    have b1 := bump_ge (n := n + 1) a1
    have b2 := bump_ge (n := bump (n + 1) (stL s.l (d + 1) 0)) a2
    omega
theorem stL_ge : ∀ (l : List Sm) (d n : Int), 0 ≤ n → n ≤ 200 → n ≤ stL l d n
  | [], d, n, _, _ => by simp only [stL]; omega
  | s :: r, d, n, h0, h1 => by
    have h2 := stN_gt s d n h0 h1
    simp only [stL]
    by_cases h3 : 200 < stN s d n
    · rw [if_pos h3]; omega
    · rw [if_neg h3]
      have := stL_ge r d (stN s d n) (by omega) (by omega)
      omega
theorem stL_deep {l : List Sm} {d : Int} (h : 0 < (l.length : Int)) (hd : 60 < d) (n : Int) : stL l d n = 201 := by
  cases l with
  | nil => simp at h
  | cons s r =>
    have : stN s d n = 201 := by rw [stN_eq, if_pos (by simp [hd])]
    simp only [stL, this]; rfl
/-- What the program's way says of the reference's count. -/
def Says (r : Bool × Int) (k t : Int) : Prop := r.1 = decide (k ≤ t) ∧ (k ≤ t → r.2 = t - k)
theorem Says.of_le {r : Bool × Int} {k t : Int} (h : k ≤ t) (e : r = (true, t - k)) : Says r k t := by subst e; exact ⟨(decide_eq_true h).symm, fun _ => rfl⟩
theorem Says.of_gt {r : Bool × Int} {k t : Int} (h : t < k) (e : r.1 = false) : Says r k t := ⟨by rw [e]; exact (decide_eq_false (by omega)).symm, fun h' => by omega⟩
theorem Says.le {r : Bool × Int} {k t : Int} (h : Says r k t) (h1 : k ≤ t) : r = (true, t - k) := Prod.ext (h.1.trans (decide_eq_true h1)) (h.2 h1)
theorem Says.gt {r : Bool × Int} {k t : Int} (h : Says r k t) (h1 : t < k) : r.1 = false := h.1.trans (decide_eq_false (by omega))
mutual
theorem stB_count : ∀ (s : Sm) (d c n : Int), 0 ≤ n → 0 ≤ c → n + c ≤ 200 → d ≤ 60 → Says (stB s d c) (stN s d n) (n + c)
  | .mk op s e l els, d, c, n, h0, h1, h2, hd => by
    have hgt := stN_gt (.mk op s e l els) d n h0 (by omega)
    have eB : stB (.mk op s e l els) d c = if (decide (0 ≤ c - 1) && shapeS (.mk op s e l els)) = true then
        (if (stP l (d + 1) (c - 1)).1 = true then stP els (d + 1) (stP l (d + 1) (c - 1)).2 else (false, (stP l (d + 1) (c - 1)).2)) else (false, c - 1) := by
      rw [stB_eq, shapeP_S]; rfl
    rw [eB]
    by_cases hs : shapeS (.mk op s e l els) = true
    · have eN : stN (.mk op s e l els) d n = bump (bump (n + 1) (stL l (d + 1) 0)) (stL els (d + 1) 0) := by
        rw [stN_eq, if_neg (by simp [hs]; omega)]; rfl
      rw [hs, Bool.and_true]
      by_cases hc : 0 ≤ c - 1
      · rw [if_pos (decide_eq_true hc)]
        have a1 := (stL_bound l (d + 1) 0 (by omega) (by omega)).1
        have a2 := (stL_bound els (d + 1) 0 (by omega) (by omega)).1
        have hl := stP_count l (d + 1) (c - 1) (by omega) (by omega)
        by_cases k1 : stL l (d + 1) 0 ≤ c - 1
        · rw [hl.le k1, if_pos rfl]
          have hm := stP_count els (d + 1) (c - 1 - stL l (d + 1) 0) (by omega) (by omega)
          simp only
          have eb : bump (n + 1) (stL l (d + 1) 0) = n + 1 + stL l (d + 1) 0 := if_pos (by omega)
          have eb2 : bump (n + 1 + stL l (d + 1) 0) (stL els (d + 1) 0) = n + 1 + stL l (d + 1) 0 + stL els (d + 1) 0 := if_pos (by omega)
          rw [eN, eb, eb2]
          by_cases k2 : stL els (d + 1) 0 ≤ c - 1 - stL l (d + 1) 0
          · rw [hm.le k2]
            exact .of_le (by omega) (Prod.ext rfl (by simp only; omega))
          · exact .of_gt (by omega) (hm.gt (by omega))
        · have e1 := hl.gt (by omega)
          rw [e1]
          refine .of_gt ?_ rfl
          rw [eN]
          have eb : bump (n + 1) (stL l (d + 1) 0) = n + 1 + stL l (d + 1) 0 := if_pos (by omega)
          rw [eb]
          have := bump_ge (n := n + 1 + stL l (d + 1) 0) a2
          omega
      · rw [if_neg (by simp; omega)]
        exact .of_gt (by omega) rfl
    · have hs' : shapeS (.mk op s e l els) = false := by simpa using hs
      have eN : stN (.mk op s e l els) d n = 201 := by rw [stN_eq, if_pos (by simp [hs'])]
      rw [hs', Bool.and_false, if_neg (by simp), eN]
      exact .of_gt (by omega) rfl
theorem stQ_count : ∀ (l : List Sm) (d c n : Int), 0 ≤ n → 0 ≤ c → n + c ≤ 200 → d ≤ 60 → Says (stQ l d c) (stL l d n) (n + c)
  | [], d, c, n, h0, h1, h2, hd => by
    have e1 : stL [] d n = n := by simp only [stL]
    rw [e1]; exact .of_le (by omega) (by simp only [stQ]; exact Prod.ext rfl (by simp only; omega))
  | x :: r, d, c, n, h0, h1, h2, hd => by
    have hx := stB_count x d c n h0 h1 h2 hd
    have hg := stN_gt x d n h0 (by omega)
    by_cases k : stN x d n ≤ n + c
    · have e1 : stL (x :: r) d n = stL r d (stN x d n) := by simp only [stL]; exact if_neg (by omega)
      have e2 : stQ (x :: r) d c = stQ r d (n + c - stN x d n) := by simp only [stQ]; rw [hx.le k]; rfl
      rw [e1, e2]
      have := stQ_count r d (n + c - stN x d n) (stN x d n) (by omega) (by omega) (by omega) hd
      rw [show stN x d n + (n + c - stN x d n) = n + c by omega] at this
      exact this
    · have e2 : (stQ (x :: r) d c).1 = false := by simp only [stQ]; rw [hx.gt (by omega)]; rfl
      refine .of_gt ?_ e2
      simp only [stL]
      by_cases h3 : 200 < stN x d n
      · rw [if_pos h3]; omega
      · rw [if_neg h3]
        have := stL_ge r d (stN x d n) (by omega) (by omega)
        omega
theorem stP_count : ∀ (l : List Sm) (d c : Int), 0 ≤ c → c ≤ 200 → Says (stP l d c) (stL l d 0) c
  | l, d, c, h0, h1 => by
    unfold stP
    by_cases hd : 60 < d
    · by_cases hl : 0 < (l.length : Int)
      · rw [if_pos (by simp [hl, hd]; omega), stL_deep hl hd]
        exact .of_gt (by omega) rfl
      · have : l = [] := List.eq_nil_of_length_eq_zero (by omega)
        subst this
        rw [if_neg (by simp)]
        exact .of_le (by simp only [stL]; omega) (by simp only [stQ, stL]; exact Prod.ext rfl (by simp only; omega))
    · rw [if_neg (by simp [hd])]
      have := stQ_count l d c 0 (by omega) h0 (by omega) (by omega)
      rw [Int.zero_add] at this
      exact this
end
end Hw.Z
namespace Hw.Z
open Go Go.Proofs Hw.M

theorem stB_bound_of {c : Int} (h : 0 ≤ c) : True := trivial
mutual
theorem stB_bound : ∀ (s : Sm) (d c : Int), 0 ≤ c → -1 ≤ (stB s d c).2 ∧ (stB s d c).2 ≤ c ∧ ((stB s d c).1 = true → 0 ≤ (stB s d c).2)
  | .mk op s e l els, d, c, h => by
    have eB : stB (.mk op s e l els) d c = if (decide (0 ≤ c - 1) && (shapeP (.mk op s e l els) && e.all exprOk)) = true then
        (if (stP l (d + 1) (c - 1)).1 = true then stP els (d + 1) (stP l (d + 1) (c - 1)).2 else (false, (stP l (d + 1) (c - 1)).2)) else (false, c - 1) := rfl
    rw [eB]
    by_cases hc : (decide (0 ≤ c - 1) && (shapeP (.mk op s e l els) && e.all exprOk)) = true
    · rw [if_pos hc]
      have h0 : 0 ≤ c - 1 := by simp only [Bool.and_eq_true, decide_eq_true_eq] at hc; exact hc.1
      have h1 := stP_bound l (d + 1) (c - 1) h0
      by_cases h2 : (stP l (d + 1) (c - 1)).1 = true
      · rw [if_pos h2]
        have h3 := stP_bound els (d + 1) _ (h1.2.2 h2)
        exact ⟨h3.1, by omega, h3.2.2⟩
      · rw [if_neg h2]; exact ⟨h1.1, by simp only; omega, fun e => by cases e⟩
    · rw [if_neg hc]; exact ⟨by simp only; omega, by simp only; omega, fun e => by cases e⟩
theorem stQ_bound : ∀ (l : List Sm) (d c : Int), 0 ≤ c → -1 ≤ (stQ l d c).2 ∧ (stQ l d c).2 ≤ c ∧ ((stQ l d c).1 = true → 0 ≤ (stQ l d c).2)
  | [], d, c, h => by simp only [stQ]; exact ⟨by omega, by omega, fun _ => h⟩
  | x :: r, d, c, h => by
    have h1 := stB_bound x d c h
    simp only [stQ]
    by_cases h2 : (stB x d c).1 = true
    · rw [if_pos h2]
      have h3 := stQ_bound r d _ (h1.2.2 h2)
      exact ⟨h3.1, by omega, h3.2.2⟩
    · rw [if_neg h2]; exact ⟨h1.1, h1.2.1, fun e => by cases e⟩
theorem stP_bound : ∀ (l : List Sm) (d c : Int), 0 ≤ c → -1 ≤ (stP l d c).2 ∧ (stP l d c).2 ≤ c ∧ ((stP l d c).1 = true → 0 ≤ (stP l d c).2)
  | l, d, c, h => by
    unfold stP
    by_cases h2 : (decide (0 < (l.length : Int)) && decide (60 < d)) = true
    · rw [if_pos h2]; exact ⟨by simp only; omega, by simp only; omega, fun e => by cases e⟩
    · rw [if_neg h2]; exact stQ_bound l d c h
end
theorem stmts1_ok (x : Ex) : FnOK Tryz.prog 211 [aggS (exprC x)] [] (.bq (!exprOk x)) [] := by
  refine fn_ok T Tryz.func211 (by kernel_rfl) rfl rfl rfl rfl fun C hC => ?_
  repeat' first
    | refine g_go T hC true 400 rfl rfl ?_
    | refine g_cond rfl (fun h => ?_) (fun h => ?_)
    | refine g_end T hC (by kernel_rfl) ?_
    | refine g_splitD (fun h => ?_) (fun h => ?_)
    | refine g_splitG rfl rfl rfl (fun h => ?_) (fun h => ?_)
    | refine g_splitP rfl rfl (fun h => ?_) (fun h => ?_)
    | refine g_call hC (validExpr_ok _) rfl rfl (LeSs.refl _) rfl rfl rfl ?_
    | refine g_retq T (.inl rfl) rfl ?_
  rfl
theorem any_not (l : List Ex) : (l.any fun x => !exprOk x) = !l.all exprOk := by
  induction l with
  | nil => rfl
  | cons a l ih => simp only [List.any_cons, List.all_cons, ih, Bool.not_and]
set_option maxHeartbeats 1000000 in
theorem astStmts_ok : ∀ (N : Nat) (l : List Sm) (d c : Int), sizeOf l < N → 0 ≤ d → d ≤ 61 → 0 ≤ c → c ≤ 200 → FnOK Tryz.prog 168 [pS (stmtsP l), I d, .one (.bx 0 0)] [(0, .box [.p (ki c)])] (.bq (stP l d c).1) [(0, .box [.p (ki (stP l d c).2)])] := by
  intro N
  induction N with
  | zero => intro l d c h; omega
  | succ N ih =>
    intro l d c hN hd1 hd2 hc1 hc2
    refine fn_ok T Tryz.func168 (by kernel_rfl) rfl rfl rfl rfl fun C hC => ?_
    refine g_len 0 rfl fun hlen => ?_
    rw [List.length_map] at hlen
    repeat' first
      | refine g_go T hC true 400 rfl rfl ?_
      | refine g_cond rfl (fun h => ?_) (fun h => ?_)
      | refine g_end T hC (by kernel_rfl) ?_
      | refine g_splitD (fun h => ?_) (fun h => ?_)
      | refine g_splitG rfl rfl rfl (fun h => ?_) (fun h => ?_)
      | refine g_splitP rfl rfl (fun h => ?_) (fun h => ?_)
    all_goals (try simp only [List.length_map] at *)
    · have e : stP l d c = (false, c) := by unfold stP; rw [if_pos (by simp_all)]
      rw [e]
      exact g_fin ⟨.inl rfl, id, _, rfl, .qb rfl, ⟨rfl, trivial⟩, rfl, rfl⟩
    all_goals
      have hlow : l = [] ∨ d ≤ 60 := by
        by_cases hz : d ≤ 60
        · exact .inr hz
        · left
          have : ¬ 0 < (l.length : Int) := fun h0 => by simp_all <;> omega
          exact List.eq_nil_of_length_eq_zero (by omega)
      have e : stP l d c = stQ l d c := by
        unfold stP
        rcases hlow with rfl | hlow
        · rw [if_neg (by simp)]
        · rw [if_neg (by simp; omega)]
      rw [e]
      clear e h
      generalize hR : stQ l d c = RES
      refine g_loop (fun q : Nat × Int => q.1 ≤ l.length ∧ 0 ≤ q.2 ∧ q.2 ≤ 200 ∧ stQ (l.drop q.1) d q.2 = RES) (fun q => ([(1, I d), (2, .one (.bx 0 0)), (16, pS (stmtsP l)), (17, I l.length), (18, I q.1)], [(0, some (.box [.p (ki q.2)]))])) (fun q => l.length - q.1) hC
        (0, c) ⟨Nat.zero_le _, hc1, hc2, hR⟩ id ⟨rfl, ⟨rfl, rfl, rfl, rfl, rfl, trivial⟩, ⟨rfl, trivial⟩, rfl, fun _ _ => rfl⟩ ?_
      clear hR
      rintro ⟨i, q⟩ ⟨hi, hq1, hq2, hn⟩
      simp only at hi hq1 hq2 hn
      refine g_run' T hC true 200 rfl ?_
      refine g_cond rfl (fun h => ?_) (fun h => ?_)
      rotate_left
      · have hge : ¬ i < l.length := by simpa using h
        rw [List.drop_eq_nil_of_le (by omega)] at hn
        simp only [stQ] at hn
        subst hn
        repeat' first
          | refine g_go T hC true 400 rfl rfl ?_
          | refine g_cond rfl (fun h => ?_) (fun h => ?_)
          | refine g_end T hC (by kernel_rfl) ?_
          | refine g_splitD (fun h => ?_) (fun h => ?_)
          | refine g_splitG rfl rfl rfl (fun h => ?_) (fun h => ?_)
          | refine g_splitP rfl rfl (fun h => ?_) (fun h => ?_)
          | refine g_outE ?_
        exact g_fin ⟨.inl rfl, id, _, rfl, .qb rfl, ⟨rfl, trivial⟩, rfl, rfl⟩
      have hlt : i < l.length := by simpa using h
      clear h
      have hd : d ≤ 60 := by
        rcases hlow with rfl | hlow
        · simp at hlt
        · exact hlow
      obtain ⟨x, hx⟩ := exists_at hlt
      have hsz := size_at hx
      have hss := size_sub x
      have hbs := stB_bound x d q hq1
      rw [drop_at hx] at hn
      simp only [stQ] at hn
      have no : ∀ r : Bool × Int, r.1 = false → stB x d q = r → r = RES := fun r h1 h2 => by
        rw [h2, if_neg (by rw [h1]; simp)] at hn
        rw [← hn]; exact Prod.ext h1 rfl
      have eB := stB_eq x d q
      have w1 : IntKind.i64.wrap (d + 1) = d + 1 := wrap64 (by omega)
      have hA := exprN_any 211 x.e (fun y => !exprOk y) (fun y _ => stmts1_ok y)
      rw [any_not] at hA
      have b1 := fun h0 => stP_bound x.l (d + 1) (q - 1) h0
      have nn : (!decide (0 ≤ q - 1)) = false → 0 ≤ q - 1 := fun h => by simpa using h
      have k1 := fun (h0 : (!decide (0 ≤ q - 1)) = false) => ih x.l (d + 1) (q - 1) (by omega) (by omega) (by omega) (nn h0) (by omega)
      have k2 := fun (h0 : (!decide (0 ≤ q - 1)) = false) (h1 : (!(stP x.l (d + 1) (q - 1)).1) = false) => ih x.els (d + 1) (stP x.l (d + 1) (q - 1)).2 (by omega) (by omega) (by omega) ((b1 (nn h0)).2.2 (by simpa using h1)) (by have := (b1 (nn h0)).2.1; omega)
      clear ih hsz hss
      generalize hr1 : stP x.l (d + 1) (q - 1) = r1 at *
      generalize hr2 : stP x.els (d + 1) r1.2 = r2 at *
      generalize hsb : stB x d q = sb at *
      repeat' first
        | refine g_go T hC true 400 rfl rfl ?_
        | refine g_cond rfl (fun h => ?_) (fun h => ?_)
        | refine g_end T hC (by kernel_rfl) ?_
        | refine g_splitD (fun h => ?_) (fun h => ?_)
        | refine g_splitG rfl rfl rfl (fun h => ?_) (fun h => ?_)
        | refine g_splitP rfl rfl (fun h => ?_) (fun h => ?_)
        | refine g_idx T hC rfl rfl rfl (Int.natCast_nonneg _) (map_atS (by assumption)) rfl rfl ?_
        | refine g_callR hC (take_ok q (by omega) (by omega)) (nm [0]) rfl rfl (LeSs.refl _) rfl rfl rfl rfl rfl rfl rfl rfl ?_
        | refine g_call hC (astShape_ok _) rfl rfl (LeSs.refl _) rfl rfl rfl ?_
        | refine g_call hC (hA) rfl rfl (LeSs.refl _) rfl rfl rfl ?_
        | rw [w1]
        | refine g_callR hC (k1 (by assumption)) (nm [0]) rfl rfl (LeSs.refl _) rfl rfl rfl rfl rfl rfl rfl rfl ?_
        | refine g_callR hC (k2 (by assumption) (by assumption)) (nm [0]) rfl rfl (LeSs.refl _) rfl rfl rfl rfl rfl rfl rfl rfl ?_
        | refine g_outR ?_
      all_goals clear k1 k2 hA w1 hx hr1 hr2 hsb b1 nn
      all_goals first
        | (have e : sb = (false, q - 1) := by clear hn no hbs hlow; rw [eB]; clear eB; exact if_neg (fun hcc => by simp only [Bool.and_eq_true, decide_eq_true_eq] at hcc; obtain ⟨hk1, hk2, hk3⟩ := hcc; simp_all [-List.all_eq_true, -List.all_eq_false] <;> omega)
           have e2 := no _ rfl e
           subst e2
           exact g_fin ⟨.inl rfl, id, _, rfl, .qb rfl, ⟨rfl, trivial⟩, rfl, rfl⟩)
        | (have e : sb = (false, r1.2) := by clear hn no hbs hlow; rw [eB]; clear eB; rw [if_pos (by simp_all [-List.all_eq_true, -List.all_eq_false]), if_neg (by simp_all [-List.all_eq_true, -List.all_eq_false])]
           have e2 := no _ rfl e
           subst e2
           exact g_fin ⟨.inl rfl, id, _, rfl, .qb rfl, ⟨rfl, trivial⟩, rfl, rfl⟩)
        | (have e : sb = r2 := by clear hn no hbs hlow; rw [eB]; clear eB; rw [if_pos (by simp_all [-List.all_eq_true, -List.all_eq_false]), if_pos (by simp_all [-List.all_eq_true, -List.all_eq_false])]
           have h2 : r2.1 = false := by simpa using h
           have e2 := no _ h2 e
           have e3 : RES = (false, r2.2) := by rw [← e2]; exact Prod.ext h2 rfl
           subst e3
           exact g_fin ⟨.inl rfl, id, _, rfl, .qb rfl, ⟨rfl, trivial⟩, rfl, rfl⟩)
        | (have e : sb = r2 := by clear hn no hbs hlow; rw [eB]; clear eB; rw [if_pos (by simp_all [-List.all_eq_true, -List.all_eq_false]), if_pos (by simp_all [-List.all_eq_true, -List.all_eq_false])]
           have h2 : r2.1 = true := by simpa using h
           rw [e, if_pos h2] at hn
           rw [e] at hbs
           rw [wrapS (by omega)]
           exact g_round (i + 1, r2.2) ⟨by simp only; omega, hbs.2.2 h2, by simp only; omega, hn⟩ id (by simp only; omega) ⟨rfl, ⟨rfl, rfl, rfl, rfl, rfl, trivial⟩, ⟨rfl, trivial⟩, rfl, fun _ _ => rfl⟩)
end Hw.Z
namespace Hw.Z
open Go Go.Proofs Hw.M

theorem astTyp_ok (s : Str) : FnOK Tryz.prog 164 [Sr s] [] (.bq (isType s)) [] := by
  refine fn_ok T Tryz.func164 (by kernel_rfl) rfl rfl rfl rfl fun C hC => ?_
  repeat' first
    | refine g_go T hC true 400 rfl rfl ?_
    | refine g_cond rfl (fun h => ?_) (fun h => ?_)
    | refine g_end T hC (by kernel_rfl) ?_
    | refine g_splitD (fun h => ?_) (fun h => ?_)
    | refine g_splitG rfl rfl rfl (fun h => ?_) (fun h => ?_)
    | refine g_splitP rfl rfl (fun h => ?_) (fun h => ?_)
    | refine g_call hC (lexName_ok _) rfl rfl (LeSs.refl _) rfl rfl rfl ?_
    | refine g_retq T (.inl rfl) rfl ?_
    | refine g_retl T (.inl rfl) rfl ?_
  all_goals simp_all [isType]
theorem astOpen_ok (s : Str) : FnOK Tryz.prog 165 [Sr s] [] (.bq (isOpen s)) [] := by
  refine fn_ok T Tryz.func165 (by kernel_rfl) rfl rfl rfl rfl fun C hC => ?_
  repeat' first
    | refine g_go T hC true 400 rfl rfl ?_
    | refine g_cond rfl (fun h => ?_) (fun h => ?_)
    | refine g_end T hC (by kernel_rfl) ?_
    | refine g_splitD (fun h => ?_) (fun h => ?_)
    | refine g_splitG rfl rfl rfl (fun h => ?_) (fun h => ?_)
    | refine g_splitP rfl rfl (fun h => ?_) (fun h => ?_)
    | refine g_call hC (lexName_ok _) rfl rfl (LeSs.refl _) rfl rfl rfl ?_
    | refine g_retq T (.inl rfl) rfl ?_
    | refine g_retl T (.inl rfl) rfl ?_
  all_goals simp_all [isOpen]
theorem fields1_ok (f : Fld) : FnOK Tryz.prog 163 [aggS (fieldR f)] [] (.bq (!fieldOk f)) [] := by
  refine fn_ok T Tryz.func163 (by kernel_rfl) rfl rfl rfl rfl fun C hC => ?_
  repeat' first
    | refine g_go T hC true 400 rfl rfl ?_
    | refine g_cond rfl (fun h => ?_) (fun h => ?_)
    | refine g_end T hC (by kernel_rfl) ?_
    | refine g_splitD (fun h => ?_) (fun h => ?_)
    | refine g_splitG rfl rfl rfl (fun h => ?_) (fun h => ?_)
    | refine g_splitP rfl rfl (fun h => ?_) (fun h => ?_)
    | refine g_call hC (lexName_ok _) rfl rfl (LeSs.refl _) rfl rfl rfl ?_
    | refine g_call hC (astTyp_ok _) rfl rfl (LeSs.refl _) rfl rfl rfl ?_
    | refine g_retq T (.inl rfl) rfl ?_
    | refine g_retl T (.inl rfl) rfl ?_
  all_goals simp_all [fieldOk]
theorem any_notP {α : Type} (p : α → Bool) (l : List α) : (l.any fun x => !p x) = !l.all p := by
  induction l with
  | nil => rfl
  | cons a l ih => simp only [List.any_cons, List.all_cons, ih, Bool.not_and]
theorem astFields_ok (l : List Fld) (m : Int) : FnOK Tryz.prog 102 [pS (fieldsP l), I m] [] (.bq (fieldsOk l m)) [] := by
  have hA := fieldN_any 163 l (fun y => !fieldOk y) (fun y _ => fields1_ok y)
  rw [any_notP] at hA
  refine fn_ok T Tryz.func102 (by kernel_rfl) rfl rfl rfl rfl fun C hC => ?_
  repeat' first
    | refine g_go T hC true 400 rfl rfl ?_
    | refine g_cond rfl (fun h => ?_) (fun h => ?_)
    | refine g_end T hC (by kernel_rfl) ?_
    | refine g_splitD (fun h => ?_) (fun h => ?_)
    | refine g_splitG rfl rfl rfl (fun h => ?_) (fun h => ?_)
    | refine g_splitP rfl rfl (fun h => ?_) (fun h => ?_)
    | refine g_call hC (hA) rfl rfl (LeSs.refl _) rfl rfl rfl ?_
    | refine g_retq T (.inl rfl) rfl ?_
    | refine g_retl T (.inl rfl) rfl ?_
  all_goals (try simp only [List.length_map] at *)
  all_goals (simp_all [fieldsOk, -List.all_eq_true, -List.all_eq_false] <;> (intros; omega))
theorem astProcedure_ok (p : Pr) : FnOK Tryz.prog 107 [aggS (procR p)] [] (.bq (procOk p)) [] := by
  have hc := stP_count p.body 1 200 (by omega) (by omega)
  refine fn_ok T Tryz.func107 (by kernel_rfl) rfl rfl rfl rfl fun C hC => ?_
  repeat' first
    | refine g_go T hC true 400 rfl rfl ?_
    | refine g_cond rfl (fun h => ?_) (fun h => ?_)
    | refine g_end T hC (by kernel_rfl) ?_
    | refine g_splitD (fun h => ?_) (fun h => ?_)
    | refine g_splitG rfl rfl rfl (fun h => ?_) (fun h => ?_)
    | refine g_splitP rfl rfl (fun h => ?_) (fun h => ?_)
    | refine g_call hC (lexName_ok _) rfl rfl (LeSs.refl _) rfl rfl rfl ?_
    | refine g_call hC (astFields_ok _ _) rfl rfl (LeSs.refl _) rfl rfl rfl ?_
    | refine g_call hC (astTyp_ok _) rfl rfl (LeSs.refl _) rfl rfl rfl ?_
    | refine g_callR hC (astStmts_ok (sizeOf p.body + 1) p.body 1 200 (by omega) (by omega) (by omega) (by omega) (by omega)) (nm [1030]) rfl rfl (LeSs.refl _) rfl rfl rfl rfl rfl rfl rfl rfl ?_
    | refine g_retl T (.inl rfl) rfl ?_
    | refine g_retq T (.inl rfl) rfl ?_
  all_goals (have hc1 := hc.1; clear hc; simp_all [procOk])
theorem formulas1_ok (b : Bd) : FnOK Tryz.prog 167 [aggS (boundR b)] [] (.bq (!boundOk b)) [] := by
  refine fn_ok T Tryz.func167 (by kernel_rfl) rfl rfl rfl rfl fun C hC => ?_
  repeat' first
    | refine g_go T hC true 400 rfl rfl ?_
    | refine g_cond rfl (fun h => ?_) (fun h => ?_)
    | refine g_end T hC (by kernel_rfl) ?_
    | refine g_splitD (fun h => ?_) (fun h => ?_)
    | refine g_splitG rfl rfl rfl (fun h => ?_) (fun h => ?_)
    | refine g_splitP rfl rfl (fun h => ?_) (fun h => ?_)
    | refine g_call hC (lexName_ok _) rfl rfl (LeSs.refl _) rfl rfl rfl ?_
    | refine g_call hC (validExpr_ok b.x) rfl rfl (LeSs.refl _) rfl rfl rfl ?_
    | refine g_retq T (.inl rfl) rfl ?_
    | refine g_retl T (.inl rfl) rfl ?_
  all_goals simp_all [boundOk]
theorem maxI_gt (a b t : Int) : decide (t < maxI a b) = (decide (t < a) || decide (t < b)) := by
  unfold maxI
  by_cases h : b > a
  · rw [if_pos h]; by_cases h2 : t < b <;> simp [h2]; omega
  · rw [if_neg h]; by_cases h2 : t < a <;> simp [h2]; omega
def sizesOk (d : Desc) : Bool := !decide (12 < (d.measures.length : Int)) && !decide (12 < (d.invs.length : Int)) && !decide (12 < (d.pots.length : Int)) && !decide (12 < (d.bounds.length : Int))
theorem sizes_eq (d : Desc) : decide (12 < maxI (maxI (maxI (d.measures.length : Int) (d.invs.length : Int)) (d.pots.length : Int)) (d.bounds.length : Int)) = !sizesOk d := by
  rw [maxI_gt, maxI_gt, maxI_gt]
  simp only [sizesOk, Bool.not_and, Bool.not_not]
theorem astFormulas_ok (d : Desc) : FnOK Tryz.prog 103 [aggS (descR d)] [] (.bq (sizesOk d && formulasOk d)) [] := by
  have hA := boundN_any 167 d.bounds (fun y => !boundOk y) (fun y _ => formulas1_ok y)
  rw [any_notP] at hA
  refine fn_ok T Tryz.func103 (by kernel_rfl) rfl rfl rfl rfl fun C hC => ?_
  repeat' first
    | refine g_go T hC true 400 rfl rfl ?_
    | refine g_cond rfl (fun h => ?_) (fun h => ?_)
    | refine g_end T hC (by kernel_rfl) ?_
    | refine g_splitD (fun h => ?_) (fun h => ?_)
    | refine g_splitG rfl rfl rfl (fun h => ?_) (fun h => ?_)
    | refine g_splitP rfl rfl (fun h => ?_) (fun h => ?_)
    | refine g_max4 hC rfl rfl rfl rfl rfl rfl ?_
    | refine g_retl T (.inl rfl) rfl ?_
  · simp only [List.length_map] at h
    rw [sizes_eq] at h
    have : sizesOk d = false := by simpa using h
    rw [this]; rfl
  · simp only [List.length_map] at h
    rw [sizes_eq] at h
    have hsz : sizesOk d = true := by simpa using h
    rw [hsz, Bool.true_and]
    simp only [sizesOk, Bool.and_eq_true, Bool.not_eq_true', decide_eq_false_iff_not] at hsz
    obtain ⟨⟨⟨hl1, hl2⟩, hl3⟩, hl4⟩ := hsz
    clear h
    rw [List.length_map]
    refine g_loop (fun i : Nat => i ≤ (d.measures).length ∧ ((d.measures).take i).all (measOk) = true) (fun i => ([(1, .one (.bx 1001 0)), (24, .one (.p (.sl 7 (d.measures.map measureR)))), (25, I d.measures.length), (26, I i)], [(1001, some (.box ((descR d).map V.p)))])) (fun i => (d.measures).length - i) hC
      0 ⟨Nat.zero_le _, by simp⟩ id ⟨rfl, ⟨rfl, rfl, rfl, rfl, trivial⟩, ⟨rfl, trivial⟩, rfl, fun _ _ => rfl⟩ ?_
    rintro i ⟨hi, hn⟩
    refine g_run' T hC true 200 rfl ?_
    refine g_cond rfl (fun h => ?_) (fun h => ?_)
    · have hlt : i < (d.measures).length := by first | simpa using h | (have h' := of_decide_eq_true h; simp only [List.length_map, List.length_zip] at h' ⊢; omega)
      clear h
      obtain ⟨x, hx⟩ := exists_at hlt
      repeat' first
        | refine g_go T hC true 400 rfl rfl ?_
        | refine g_cond rfl (fun h => ?_) (fun h => ?_)
        | refine g_end T hC (by kernel_rfl) ?_
        | refine g_splitD (fun h => ?_) (fun h => ?_)
        | refine g_splitG rfl rfl rfl (fun h => ?_) (fun h => ?_)
        | refine g_splitP rfl rfl (fun h => ?_) (fun h => ?_)
        | refine g_idx T hC rfl rfl rfl (Int.natCast_nonneg _) (map_at (by assumption)) rfl rfl ?_
        | refine g_call hC (lexName_ok _) rfl rfl (LeSs.refl _) rfl rfl rfl ?_
        | refine g_call hC (validExpr_ok x.x) rfl rfl (LeSs.refl _) rfl rfl rfl ?_
        | refine g_outR ?_
        | refine g_retl T (.inl rfl) rfl ?_
      all_goals first
        | (have hp : (measOk) x = true := by clear hn hx hlt hi; simp_all [measOk, -List.all_eq_true, -List.all_eq_false] <;> omega
           have hlt' := hlt
           try simp only [List.length_zip, List.length_zipIdx] at hlt'
           rw [wrap64 (by omega)]
           refine g_round (i + 1) ⟨by omega, ?_⟩ id (by omega) ⟨rfl, ⟨rfl, rfl, rfl, rfl, trivial⟩, ⟨rfl, trivial⟩, rfl, fun _ _ => rfl⟩
           rw [all_take (p := measOk) hx, hn, Bool.true_and]; exact hp)
        | (have hp : (measOk) x = false := by clear hn hx hlt hi; simp_all [measOk, -List.all_eq_true, -List.all_eq_false] <;> omega
           have hno := all_no (p := measOk) hx hp
           simp only [formulasOk, hno, Bool.false_and])
    have hge : ¬ i < (d.measures).length := by first | simpa using h | (have h' := of_decide_eq_false h; simp only [List.length_map, List.length_zip] at h' ⊢; omega)
    have hall : (d.measures).all (measOk) = true := all_end (p := measOk) (by omega) hn
    clear h hge hn hi
    repeat' first
      | refine g_go T hC true 400 rfl rfl ?_
      | refine g_cond rfl (fun h => ?_) (fun h => ?_)
      | refine g_end T hC (by kernel_rfl) ?_
      | refine g_splitD (fun h => ?_) (fun h => ?_)
      | refine g_splitG rfl rfl rfl (fun h => ?_) (fun h => ?_)
      | refine g_splitP rfl rfl (fun h => ?_) (fun h => ?_)
      | refine g_outE ?_
    rw [List.length_map]
    refine g_loop (fun i : Nat => i ≤ (d.invs).length ∧ ((d.invs).take i).all (invOk) = true) (fun i => ([(1, .one (.bx 1001 0)), (58, .one (.p (.sl 6 (d.invs.map invR)))), (59, I d.invs.length), (60, I i)], [(1001, some (.box ((descR d).map V.p)))])) (fun i => (d.invs).length - i) hC
      0 ⟨Nat.zero_le _, by simp⟩ id ⟨rfl, ⟨rfl, rfl, rfl, rfl, trivial⟩, ⟨rfl, trivial⟩, rfl, fun _ _ => rfl⟩ ?_
    rintro i ⟨hi, hn⟩
    refine g_run' T hC true 200 rfl ?_
    refine g_cond rfl (fun h => ?_) (fun h => ?_)
    · have hlt : i < (d.invs).length := by first | simpa using h | (have h' := of_decide_eq_true h; simp only [List.length_map, List.length_zip] at h' ⊢; omega)
      clear h
      obtain ⟨x, hx⟩ := exists_at hlt
      repeat' first
        | refine g_go T hC true 400 rfl rfl ?_
        | refine g_cond rfl (fun h => ?_) (fun h => ?_)
        | refine g_end T hC (by kernel_rfl) ?_
        | refine g_splitD (fun h => ?_) (fun h => ?_)
        | refine g_splitG rfl rfl rfl (fun h => ?_) (fun h => ?_)
        | refine g_splitP rfl rfl (fun h => ?_) (fun h => ?_)
        | refine g_idx T hC rfl rfl rfl (Int.natCast_nonneg _) (map_at (by assumption)) rfl rfl ?_
        | refine g_call hC (lexName_ok _) rfl rfl (LeSs.refl _) rfl rfl rfl ?_
        | refine g_call hC (astOpen_ok _) rfl rfl (LeSs.refl _) rfl rfl rfl ?_
        | refine g_call hC (validExpr_ok x.x) rfl rfl (LeSs.refl _) rfl rfl rfl ?_
        | refine g_outR ?_
        | refine g_retl T (.inl rfl) rfl ?_
      all_goals first
        | (have hp : (invOk) x = true := by clear hn hx hlt hi; simp_all [invOk, -List.all_eq_true, -List.all_eq_false] <;> omega
           have hlt' := hlt
           try simp only [List.length_zip, List.length_zipIdx] at hlt'
           rw [wrap64 (by omega)]
           refine g_round (i + 1) ⟨by omega, ?_⟩ id (by omega) ⟨rfl, ⟨rfl, rfl, rfl, rfl, trivial⟩, ⟨rfl, trivial⟩, rfl, fun _ _ => rfl⟩
           rw [all_take (p := invOk) hx, hn, Bool.true_and]; exact hp)
        | (have hp : (invOk) x = false := by clear hn hx hlt hi; simp_all [invOk, -List.all_eq_true, -List.all_eq_false] <;> omega
           have hno := all_no (p := invOk) hx hp
           simp only [formulasOk, hno, Bool.false_and, Bool.and_false])
    have hge : ¬ i < (d.invs).length := by first | simpa using h | (have h' := of_decide_eq_false h; simp only [List.length_map, List.length_zip] at h' ⊢; omega)
    have hall : (d.invs).all (invOk) = true := all_end (p := invOk) (by omega) hn
    clear h hge hn hi
    rename_i hall1
    repeat' first
      | refine g_go T hC true 400 rfl rfl ?_
      | refine g_cond rfl (fun h => ?_) (fun h => ?_)
      | refine g_end T hC (by kernel_rfl) ?_
      | refine g_splitD (fun h => ?_) (fun h => ?_)
      | refine g_splitG rfl rfl rfl (fun h => ?_) (fun h => ?_)
      | refine g_splitP rfl rfl (fun h => ?_) (fun h => ?_)
      | refine g_outE ?_
    rw [List.length_map]
    refine g_loop (fun i : Nat => i ≤ (d.pots).length ∧ ((d.pots).take i).all (potOk) = true) (fun i => ([(1, .one (.bx 1001 0)), (82, .one (.p (.sl 5 (d.pots.map potR)))), (83, I d.pots.length), (84, I i)], [(1001, some (.box ((descR d).map V.p)))])) (fun i => (d.pots).length - i) hC
      0 ⟨Nat.zero_le _, by simp⟩ id ⟨rfl, ⟨rfl, rfl, rfl, rfl, trivial⟩, ⟨rfl, trivial⟩, rfl, fun _ _ => rfl⟩ ?_
    rintro i ⟨hi, hn⟩
    refine g_run' T hC true 200 rfl ?_
    refine g_cond rfl (fun h => ?_) (fun h => ?_)
    · have hlt : i < (d.pots).length := by first | simpa using h | (have h' := of_decide_eq_true h; simp only [List.length_map, List.length_zip] at h' ⊢; omega)
      clear h
      obtain ⟨x, hx⟩ := exists_at hlt
      repeat' first
        | refine g_go T hC true 400 rfl rfl ?_
        | refine g_cond rfl (fun h => ?_) (fun h => ?_)
        | refine g_end T hC (by kernel_rfl) ?_
        | refine g_splitD (fun h => ?_) (fun h => ?_)
        | refine g_splitG rfl rfl rfl (fun h => ?_) (fun h => ?_)
        | refine g_splitP rfl rfl (fun h => ?_) (fun h => ?_)
        | refine g_idx T hC rfl rfl rfl (Int.natCast_nonneg _) (map_at (by assumption)) rfl rfl ?_
        | refine g_call hC (astOpen_ok _) rfl rfl (LeSs.refl _) rfl rfl rfl ?_
        | refine g_call hC (validExpr_ok x.x) rfl rfl (LeSs.refl _) rfl rfl rfl ?_
        | refine g_outR ?_
        | refine g_retl T (.inl rfl) rfl ?_
      all_goals first
        | (have hp : (potOk) x = true := by clear hn hx hlt hi; simp_all [potOk, -List.all_eq_true, -List.all_eq_false] <;> omega
           have hlt' := hlt
           try simp only [List.length_zip, List.length_zipIdx] at hlt'
           rw [wrap64 (by omega)]
           refine g_round (i + 1) ⟨by omega, ?_⟩ id (by omega) ⟨rfl, ⟨rfl, rfl, rfl, rfl, trivial⟩, ⟨rfl, trivial⟩, rfl, fun _ _ => rfl⟩
           rw [all_take (p := potOk) hx, hn, Bool.true_and]; exact hp)
        | (have hp : (potOk) x = false := by clear hn hx hlt hi; simp_all [potOk, -List.all_eq_true, -List.all_eq_false] <;> omega
           have hno := all_no (p := potOk) hx hp
           simp only [formulasOk, hno, Bool.false_and, Bool.and_false])
    have hge : ¬ i < (d.pots).length := by first | simpa using h | (have h' := of_decide_eq_false h; simp only [List.length_map, List.length_zip] at h' ⊢; omega)
    have hall : (d.pots).all (potOk) = true := all_end (p := potOk) (by omega) hn
    clear h hge hn hi
    rename_i hall2
    repeat' first
      | refine g_go T hC true 400 rfl rfl ?_
      | refine g_cond rfl (fun h => ?_) (fun h => ?_)
      | refine g_end T hC (by kernel_rfl) ?_
      | refine g_splitD (fun h => ?_) (fun h => ?_)
      | refine g_splitG rfl rfl rfl (fun h => ?_) (fun h => ?_)
      | refine g_splitP rfl rfl (fun h => ?_) (fun h => ?_)
      | refine g_outE ?_
      | refine g_call hC (hA) rfl rfl (LeSs.refl _) rfl rfl rfl ?_
      | refine g_retq T (.inl rfl) rfl ?_
    simp only [formulasOk, hall, hall1, hall2, Bool.true_and, Bool.not_not]
theorem valid1_ok (t : NodeT) : FnOK Tryz.prog 105 [aggS (nodeTR t)] [] (.bq (!typeOk t)) [] := by
  refine fn_ok T Tryz.func105 (by kernel_rfl) rfl rfl rfl rfl fun C hC => ?_
  repeat' first
    | refine g_go T hC true 400 rfl rfl ?_
    | refine g_cond rfl (fun h => ?_) (fun h => ?_)
    | refine g_end T hC (by kernel_rfl) ?_
    | refine g_splitD (fun h => ?_) (fun h => ?_)
    | refine g_splitG rfl rfl rfl (fun h => ?_) (fun h => ?_)
    | refine g_splitP rfl rfl (fun h => ?_) (fun h => ?_)
    | refine g_call hC (lexName_ok _) rfl rfl (LeSs.refl _) rfl rfl rfl ?_
    | refine g_call hC (astFields_ok _ _) rfl rfl (LeSs.refl _) rfl rfl rfl ?_
    | refine g_retq T (.inl rfl) rfl ?_
    | refine g_retl T (.inl rfl) rfl ?_
  all_goals simp_all [typeOk]
theorem valid2_ok (p : Pr) : FnOK Tryz.prog 106 [aggS (procR p)] [] (.bq (!procOk p)) [] := by
  refine fn_ok T Tryz.func106 (by kernel_rfl) rfl rfl rfl rfl fun C hC => ?_
  repeat' first
    | refine g_go T hC true 400 rfl rfl ?_
    | refine g_cond rfl (fun h => ?_) (fun h => ?_)
    | refine g_end T hC (by kernel_rfl) ?_
    | refine g_splitD (fun h => ?_) (fun h => ?_)
    | refine g_splitG rfl rfl rfl (fun h => ?_) (fun h => ?_)
    | refine g_splitP rfl rfl (fun h => ?_) (fun h => ?_)
    | refine g_call hC (astProcedure_ok p) rfl rfl (LeSs.refl _) rfl rfl rfl ?_
    | refine g_retq T (.inl rfl) rfl ?_
  rfl
theorem astValid_ok (d : Desc) : FnOK Tryz.prog 47 [aggS (descR d)] [] (.bq (validD d)) [] := by
  have hA := typeN_any 105 d.types (fun y => !typeOk y) (fun y _ => valid1_ok y)
  rw [any_notP] at hA
  have hB := procN_any 106 d.procs (fun y => !procOk y) (fun y _ => valid2_ok y)
  rw [any_notP] at hB
  have hv : validD d = (isName d.n && !decide (12 < (d.types.length : Int)) && fieldsOk d.globals 8 && !decide (40 < (d.procs.length : Int)) && (sizesOk d && formulasOk d) && d.types.all typeOk && d.procs.all procOk) := by
    simp only [validD, validPre, sizesOk]
    generalize isName d.n = a1
    generalize decide (12 < (d.types.length : Int)) = a2
    generalize fieldsOk d.globals 8 = a3
    generalize decide (40 < (d.procs.length : Int)) = a4
    generalize formulasOk d = a5
    generalize d.types.all typeOk = a6
    generalize d.procs.all procOk = a7
    generalize decide (12 < (d.measures.length : Int)) = a8
    generalize decide (12 < (d.invs.length : Int)) = a9
    generalize decide (12 < (d.pots.length : Int)) = a10
    generalize decide (12 < (d.bounds.length : Int)) = a11
    cases a1 <;> cases a3 <;> cases a5 <;> cases a6 <;> cases a7 <;> simp [Bool.and_assoc]
  rw [hv]
  refine fn_ok T Tryz.func47 (by kernel_rfl) rfl rfl rfl rfl fun C hC => ?_
  repeat' first
    | refine g_go T hC true 400 rfl rfl ?_
    | refine g_cond rfl (fun h => ?_) (fun h => ?_)
    | refine g_end T hC (by kernel_rfl) ?_
    | refine g_splitD (fun h => ?_) (fun h => ?_)
    | refine g_splitG rfl rfl rfl (fun h => ?_) (fun h => ?_)
    | refine g_splitP rfl rfl (fun h => ?_) (fun h => ?_)
    | refine g_call hC (lexName_ok _) rfl rfl (LeSs.refl _) rfl rfl rfl ?_
    | refine g_call hC (astFields_ok _ _) rfl rfl (LeSs.refl _) rfl rfl rfl ?_
    | refine g_call hC (astFormulas_ok _) rfl rfl (LeSs.refl _) rfl rfl rfl ?_
    | refine g_call hC (hA) rfl rfl (LeSs.refl _) rfl rfl rfl ?_
    | refine g_call hC (hB) rfl rfl (LeSs.refl _) rfl rfl rfl ?_
    | refine g_retq T (.inl rfl) rfl ?_
    | refine g_retl T (.inl rfl) rfl ?_
  all_goals (try simp only [List.length_map] at *)
  all_goals clear hA hB hv
  all_goals try generalize (sizesOk d && formulasOk d) = q at *
  all_goals (simp_all [-List.all_eq_true, -List.all_eq_false] <;> (intros; omega))
end Hw.Z
