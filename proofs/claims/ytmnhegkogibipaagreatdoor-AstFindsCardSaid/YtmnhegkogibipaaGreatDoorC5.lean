/- The engine and the contracts. -/
import Derived.Test.YtmnhegkogibipaaGreatDoorC4
set_option linter.unusedVariables false
set_option linter.unusedSimpArgs false
namespace Hw.Z
open Go Go.Proofs Hw.M

theorem take_ok (c : Int) (h : -1000000 ≤ c) (h2 : c ≤ 1000000) : FnOK Tryz.prog 209 [.one (.bx 0 0)] [(0, .box [.p (ki c)])] (.bq (decide (0 ≤ c - 1))) [(0, .box [.p (ki (c - 1))])] := by
  refine fn_ok T Tryz.func209 (by kernel_rfl) rfl rfl rfl rfl fun C hC => ?_
  repeat' first
    | refine g_go T hC true 400 rfl rfl ?_
    | refine g_cond rfl (fun h => ?_) (fun h => ?_)
    | refine g_end T hC (by kernel_rfl) ?_
    | refine g_splitD (fun h => ?_) (fun h => ?_)
    | refine g_splitG rfl rfl rfl (fun h => ?_) (fun h => ?_)
    | refine g_splitP rfl rfl (fun h => ?_) (fun h => ?_)
  rw [wrap64 (by omega)]
  exact g_fin ⟨.inl rfl, id, _, rfl, .qq rfl, ⟨rfl, trivial⟩, rfl, rfl⟩
def partsN (op : Int) : Int := if partsS op = -2 then 2 else partsS op
theorem partsS_mid {op : Int} (h1 : 9 ≤ op) (h2 : op ≤ 23) (h3 : op ≠ 18) (h4 : op ≠ 21) : partsS op = 2 := by
  unfold partsS
  rw [if_neg (by simp; omega), if_neg (by simp; omega), if_neg (by omega), if_neg (by omega), if_pos (by simp; omega)]
theorem partsS_out {op : Int} (h1 : op < 1 ∨ 24 < op) : partsS op = -2 := by
  unfold partsS
  rw [if_neg (by simp; omega), if_neg (by simp; omega), if_neg (by omega), if_neg (by omega), if_neg (by simp; omega)]
theorem astParts_ok (op : Int) : FnOK Tryz.prog 234 [I op] [] (.tup [I (partsN op), .bq (!decide (partsS op = -2))]) [] := by
  have key : ∀ n b, (n = partsN op ∧ b = !decide (partsS op = -2)) → LeS (.tup [I n, Bo b]) (.tup [I (partsN op), .bq (!decide (partsS op = -2))]) := fun n b h => by
    obtain ⟨rfl, rfl⟩ := h; exact LeS.tup (.cons (.refl _) (.cons (LeS.qb rfl) .nil))
  have key2 : ∀ n b, (n = partsN op ∧ b = !decide (partsS op = -2)) → LeS (.tup [I n, .bq b]) (.tup [I (partsN op), .bq (!decide (partsS op = -2))]) := fun n b h => by
    obtain ⟨rfl, rfl⟩ := h; exact LeS.refl _
  refine fn_ok T Tryz.func234 (by kernel_rfl) rfl rfl rfl rfl fun C hC => ?_
  repeat' first
    | refine g_go T hC true 400 rfl rfl ?_
    | refine g_condS rfl (fun h => ?_) (fun h => ?_)
    | refine g_end T hC (by kernel_rfl) ?_
    | refine g_splitD (fun h => ?_) (fun h => ?_)
    | refine g_splitG rfl rfl rfl (fun h => ?_) (fun h => ?_)
    | refine g_splitP rfl rfl (fun h => ?_) (fun h => ?_)
  all_goals
    first
      | refine g_fin ⟨.inl rfl, id, _, rfl, key _ _ ?_, trivial, rfl, rfl⟩
      | refine g_fin ⟨.inl rfl, id, _, rfl, key2 _ _ ?_, trivial, rfl, rfl⟩
    clear key key2
    first
      | (obtain rfl := of_decide_eq_true h; exact ⟨rfl, rfl⟩)
      | (simp only [decide_eq_true_eq, decide_eq_false_iff_not] at *
         by_cases h23 : op ≤ 23
         · have e := partsS_mid (op := op) (by omega) h23 (by omega) (by omega)
           exact ⟨by rw [partsN, e]; rfl, by rw [e]; simp [h23]⟩
         · have e := partsS_out (op := op) (by omega)
           exact ⟨by rw [partsN, e]; rfl, by rw [e]; simp [h23]⟩)
      | (simp only [decide_eq_true_eq, decide_eq_false_iff_not] at *
         have e := partsS_out (op := op) (by omega)
         exact ⟨by rw [partsN, e]; rfl, by rw [e]; rfl⟩)

def nPart (e : Ex) : Bool := if e.op = 1 then decide (0 ≤ e.n) && decide (e.n ≤ 1099511627776) else if e.op = 2 then decide (e.n = 0) || decide (e.n = 1) else decide (e.n = 0)
theorem nodeS_eq (e : Ex) : nodeS e = (!decide (partsS e.op = -2) && !(decide (0 ≤ partsS e.op) && !decide ((e.l.length : Int) = partsS e.op)) && !(decide (partsS e.op = -1) && decide (6 < (e.l.length : Int))) && namedS e && nPart e) := rfl
theorem nodeS_eq2 (e : Ex) : nodeS e = (!decide (partsS e.op = -2) && (namedS e && nPart e) && !(decide (0 ≤ partsS e.op) && !decide ((e.l.length : Int) = partsS e.op)) && !(decide (partsS e.op = -1) && decide (6 < (e.l.length : Int)))) := by
  rw [nodeS_eq]
  generalize decide (partsS e.op = -2) = a
  generalize (decide (0 ≤ partsS e.op) && !decide ((e.l.length : Int) = partsS e.op)) = b
  generalize (decide (partsS e.op = -1) && decide (6 < (e.l.length : Int))) = c
  cases a <;> cases b <;> cases c <;> cases namedS e <;> cases nPart e <;> rfl
theorem partsS_ge (op : Int) : -2 ≤ partsS op ∧ (partsS op < 0 → partsS op = -1 ∨ partsS op = -2) := by
  unfold partsS
  repeat' split
  all_goals omega
theorem astNamed_ok (e : Ex) : FnOK Tryz.prog 235 [aggS (exprC e)] [] (.bq (namedS e && nPart e)) [] := by
  refine fn_ok T Tryz.func235 (by kernel_rfl) rfl rfl rfl rfl fun C hC => ?_
  repeat' first
    | refine g_go T hC true 400 rfl rfl ?_
    | refine g_condS rfl (fun h => ?_) (fun h => ?_)
    | refine g_end T hC (by kernel_rfl) ?_
    | refine g_splitD (fun h => ?_) (fun h => ?_)
    | refine g_splitG rfl rfl rfl (fun h => ?_) (fun h => ?_)
    | refine g_splitP rfl rfl (fun h => ?_) (fun h => ?_)
    | refine g_call hC (lexName_ok _) rfl rfl (LeSs.refl _) rfl rfl rfl ?_
    | refine g_retl T (.inl rfl) rfl ?_
    | refine g_retq T (.inl rfl) rfl ?_
  all_goals (simp_all [namedS, nPart] <;> omega)
mutual
def exB : Ex → Int → Int → Bool × Int
  | .mk op n s l, d, c => if (decide (0 ≤ c - 1) && !decide (60 < d) && nodeS (.mk op n s l)) = true then exL l (d + 1) (c - 1) else (false, c - 1)
def exL : List Ex → Int → Int → Bool × Int
  | [], _, c => (true, c)
  | x :: r, d, c => if (exB x d c).1 = true then exL r d (exB x d c).2 else (false, (exB x d c).2)
end
theorem exB_eq (e : Ex) (d c : Int) : exB e d c = if (decide (0 ≤ c - 1) && !decide (60 < d) && nodeS e) = true then exL e.l (d + 1) (c - 1) else (false, c - 1) := by
  cases e; rfl
mutual
theorem exB_bound : ∀ (e : Ex) (d c : Int), 0 ≤ c → -1 ≤ (exB e d c).2 ∧ (exB e d c).2 ≤ c ∧ ((exB e d c).1 = true → 0 ≤ (exB e d c).2)
  | .mk op n s l, d, c, h => by
    simp only [exB]
    split
    · rename_i h'
      simp only [Bool.and_eq_true, decide_eq_true_eq] at h'
      have := exL_bound l (d + 1) (c - 1) h'.1.1
      exact ⟨this.1, by omega, this.2.2⟩
    · simp only; exact ⟨by omega, by omega, fun e => by cases e⟩
theorem exL_bound : ∀ (l : List Ex) (d c : Int), 0 ≤ c → -1 ≤ (exL l d c).2 ∧ (exL l d c).2 ≤ c ∧ ((exL l d c).1 = true → 0 ≤ (exL l d c).2)
  | [], d, c, h => by simp only [exL]; exact ⟨by omega, by omega, fun _ => h⟩
  | x :: r, d, c, h => by
    simp only [exL]
    have h1 := exB_bound x d c h
    split
    · rename_i h2
      have h3 := exL_bound r d _ (h1.2.2 h2)
      exact ⟨h3.1, by omega, h3.2.2⟩
    · exact ⟨h1.1, h1.2.1, fun e => by cases e⟩
end
theorem anyR_ex (d : Int) : ∀ (l : List Ex) (c : Int), anyR (fun x c => !(exB x d c).1) (fun x c => (exB x d c).2) l c = (!(exL l d c).1, (exL l d c).2)
  | [], c => rfl
  | x :: r, c => by
    simp only [anyR, exL]
    cases h : (exB x d c).1 with
    | true => simp only [Bool.not_true, Bool.false_eq_true, if_false, if_true]; exact anyR_ex d r _
    | false => rfl

theorem expr1_ok (x : Ex) (dp c : Int) (h1 : 0 ≤ dp) (h2 : dp ≤ 60) (h : FnOK Tryz.prog 191 [aggS (exprC x), I (dp + 1), .one (.bx 0 0)] [(0, .box [.p (ki c)])] (.bq (exB x (dp + 1) c).1) [(0, .box [.p (ki (exB x (dp + 1) c).2)])]) :
    FnOK Tryz.prog 236 [aggS (exprC x), .one (.bx 1 0), .one (.bx 2 0)] [(0, .box [.p (ki c)]), (1, .box [.p (ki dp)]), (2, .box [.bx 0 0])] (.bq (!(exB x (dp + 1) c).1))
      [(0, .box [.p (ki (exB x (dp + 1) c).2)]), (1, .box [.p (ki dp)]), (2, .box [.bx 0 0])] := by
  refine fn_ok T Tryz.func236 (by kernel_rfl) rfl rfl rfl rfl fun C hC => ?_
  repeat' first
    | refine g_go T hC true 400 rfl rfl ?_
    | refine g_cond rfl (fun h => ?_) (fun h => ?_)
    | refine g_end T hC (by kernel_rfl) ?_
    | refine g_splitD (fun h => ?_) (fun h => ?_)
    | refine g_splitG rfl rfl rfl (fun h => ?_) (fun h => ?_)
    | refine g_splitP rfl rfl (fun h => ?_) (fun h => ?_)
  rw [wrap64 (by omega)]
  repeat' first
    | refine g_go T hC true 400 rfl rfl ?_
    | refine g_cond rfl (fun h => ?_) (fun h => ?_)
    | refine g_end T hC (by kernel_rfl) ?_
    | refine g_splitD (fun h => ?_) (fun h => ?_)
    | refine g_splitG rfl rfl rfl (fun h => ?_) (fun h => ?_)
    | refine g_splitP rfl rfl (fun h => ?_) (fun h => ?_)
    | refine g_callR hC (h) (nm [0]) rfl rfl (LeSs.refl _) rfl rfl rfl rfl rfl rfl rfl rfl ?_
  exact g_fin ⟨.inl rfl, id, _, rfl, .qq rfl, ⟨rfl, rfl, rfl, trivial⟩, rfl, rfl⟩
theorem astExpr_ok : ∀ (N : Nat) (e : Ex) (d c : Int), sizeOf e < N → 0 ≤ d → d ≤ 61 → 0 ≤ c → c ≤ 1000 → FnOK Tryz.prog 191 [aggS (exprC e), I d, .one (.bx 0 0)] [(0, .box [.p (ki c)])] (.bq (exB e d c).1) [(0, .box [.p (ki (exB e d c).2)])] := by
  intro N
  induction N with
  | zero => intro e d c h; omega
  | succ N ih =>
    intro e d c hN hd1 hd2 hc1 hc2
    have no : (decide (0 ≤ c - 1) && !decide (60 < d) && nodeS e) = false → (exB e d c) = (false, c - 1) := fun h => by rw [exB_eq, h]; rfl
    have yes : (decide (0 ≤ c - 1) && !decide (60 < d) && nodeS e) = true → (exB e d c) = exL e.l (d + 1) (c - 1) := fun h => by rw [exB_eq, if_pos h]
    refine fn_ok T Tryz.func191 (by kernel_rfl) rfl rfl rfl rfl fun C hC => ?_
    repeat' first
      | refine g_go T hC true 400 rfl rfl ?_
      | refine g_cond rfl (fun h => ?_) (fun h => ?_)
      | refine g_end T hC (by kernel_rfl) ?_
      | refine g_splitD (fun h => ?_) (fun h => ?_)
      | refine g_splitG rfl rfl rfl (fun h => ?_) (fun h => ?_)
      | refine g_splitP rfl rfl (fun h => ?_) (fun h => ?_)
      | refine g_call hC (astParts_ok _) rfl rfl (LeSs.refl _) rfl rfl rfl ?_
      | refine g_callR hC (take_ok c (by omega) (by omega)) (nm [0]) rfl rfl (LeSs.refl _) rfl rfl rfl rfl rfl rfl rfl rfl ?_
      | refine g_call hC (astNamed_ok _) rfl rfl (LeSs.refl _) rfl rfl rfl ?_
    all_goals (try simp only [List.length_map] at *)
    all_goals first
      | (have hn : (decide (0 ≤ c - 1) && !decide (60 < d) && nodeS e) = false := by clear ih no yes; rw [nodeS_eq2]; have := partsS_ge e.op; generalize (namedS e && nPart e) = q at *; simp_all [partsN] <;> omega
         rw [no hn]
         exact g_fin ⟨.inl rfl, id, _, rfl, .qb rfl, ⟨rfl, trivial⟩, rfl, rfl⟩)
      | (have hy : (decide (0 ≤ c - 1) && !decide (60 < d) && nodeS e) = true := by clear ih no yes; rw [nodeS_eq2]; have := partsS_ge e.op; generalize (namedS e && nPart e) = q at *; simp_all [partsN] <;> omega
         rw [yes hy]
         simp only [Bool.and_eq_true, Bool.not_eq_true', decide_eq_true_eq, decide_eq_false_iff_not] at hy
         have hh : FnOK Tryz.prog 150 [pS (exprsP e.l), .one (.cl 236 [] [.bx 1 0, .bx 2 0])] [(0, .box [.p (ki (c - 1))]), (1, .box [.p (ki d)]), (2, .box [.bx 0 0])]
             (.bq (!(exL e.l (d + 1) (c - 1)).1)) [(0, .box [.p (ki (exL e.l (d + 1) (c - 1)).2)]), (1, .box [.p (ki d)]), (2, .box [.bx 0 0])] := by
           have := exprS_has 236 d e.l (fun x c => !(exB x (d + 1) c).1) (fun x c => (exB x (d + 1) c).2) (fun c => 0 ≤ c ∧ c ≤ 1000) (fun x hx c hc => ⟨expr1_ok x d c (by omega) (by omega) (ih x (d + 1) c (by have := List.sizeOf_lt_of_mem hx; have := sizeE_sub e; omega) (by omega) (by omega) hc.1 hc.2), fun hp => by
             have hb := exB_bound x (d + 1) c hc.1
             exact ⟨hb.2.2 (by simpa using hp), by omega⟩⟩) (c - 1) ⟨by omega, by omega⟩
           rw [anyR_ex] at this
           exact this
         repeat' first
           | refine g_go T hC true 400 rfl rfl ?_
           | refine g_cond rfl (fun h => ?_) (fun h => ?_)
           | refine g_end T hC (by kernel_rfl) ?_
           | refine g_splitD (fun h => ?_) (fun h => ?_)
           | refine g_splitG rfl rfl rfl (fun h => ?_) (fun h => ?_)
           | refine g_splitP rfl rfl (fun h => ?_) (fun h => ?_)
           | refine g_callR hC (hh) (nm [0, 1004, 1005]) rfl rfl (LeSs.refl _) rfl rfl rfl rfl rfl rfl rfl rfl ?_
         exact g_fin ⟨.inl rfl, id, _, rfl, .qq (by simp), ⟨rfl, trivial⟩, rfl, rfl⟩)
end Hw.Z
namespace Hw.Z
open Go Go.Proofs Hw.M

/-! The program's count of an expression is the reference's. -/
theorem countL_ge : ∀ (l : List Ex) (d n : Int), n ≤ countL l d n
  | [], d, n => by simp only [countL]; omega
  | e :: es, d, n => by
    simp only [countL]
    have h1 := (countS_bound e (d + 1)).1
    have h2 := countL_ge es d (n + countS e (d + 1))
    split <;> omega
mutual
theorem exB_count : ∀ (e : Ex) (d c : Int), 0 ≤ c → c ≤ 1000 → (exB e d c).1 = decide (countS e d ≤ c) ∧ (countS e d ≤ c → (exB e d c).2 = c - countS e d)
  | .mk op n s l, d, c, h0, h1 => by
    by_cases hb : (decide (60 < d) || !nodeS (.mk op n s l)) = true
    · have e1 : countS (.mk op n s l) d = 1001 := by simp only [countS]; exact if_pos hb
      have e2 : exB (.mk op n s l) d c = (false, c - 1) := by
        simp only [exB]; refine if_neg fun h => ?_
        simp only [Bool.and_eq_true, Bool.or_eq_true, Bool.not_eq_true'] at h hb
        rcases hb with hb | hb
        · rw [hb] at h; simp at h
        · rw [hb] at h; simp at h
      rw [e1, e2]
      exact ⟨(decide_eq_false (by omega)).symm, fun h => by omega⟩
    · have e1 : countS (.mk op n s l) d = countL l d 1 := by simp only [countS]; exact if_neg hb
      simp only [Bool.or_eq_true, decide_eq_true_eq, Bool.not_eq_true', not_or, Bool.not_eq_false] at hb
      rw [e1]
      by_cases hc : 0 ≤ c - 1
      · have e2 : exB (.mk op n s l) d c = exL l (d + 1) (c - 1) := by simp only [exB]; exact if_pos (by simp [hc, hb.2]; omega)
        rw [e2]
        have := exL_count l d (c - 1) 1 (by omega) (by omega) (by omega)
        rw [show 1 + (c - 1) = c by omega] at this
        exact this
      · have e2 : exB (.mk op n s l) d c = (false, c - 1) := by simp only [exB]; exact if_neg fun h => by simp only [Bool.and_eq_true, decide_eq_true_eq] at h; omega
        rw [e2]
        have := countL_ge l d 1
        exact ⟨(decide_eq_false (by omega)).symm, fun h => by omega⟩
theorem exL_count : ∀ (l : List Ex) (d c n : Int), 0 ≤ c → 1 ≤ n → n + c ≤ 1000 → (exL l (d + 1) c).1 = decide (countL l d n ≤ n + c) ∧ (countL l d n ≤ n + c → (exL l (d + 1) c).2 = n + c - countL l d n)
  | [], d, c, n, h0, h1, h2 => by
    have e1 : countL [] d n = n := by simp only [countL]
    rw [e1]; simp only [exL]; exact ⟨(decide_eq_true (by omega)).symm, fun _ => by omega⟩
  | x :: r, d, c, n, h0, h1, h2 => by
    have hx := exB_count x (d + 1) c h0 (by omega)
    have hk := (countS_bound x (d + 1)).1
    by_cases hc : countS x (d + 1) ≤ c
    · have e1 : countL (x :: r) d n = countL r d (n + countS x (d + 1)) := by simp only [countL]; exact if_neg (by omega)
      have e2 : exL (x :: r) (d + 1) c = exL r (d + 1) (c - countS x (d + 1)) := by
        simp only [exL]; rw [hx.1, decide_eq_true hc, if_pos rfl, hx.2 hc]
      rw [e1, e2]
      have := exL_count r d (c - countS x (d + 1)) (n + countS x (d + 1)) (by omega) (by omega) (by omega)
      rw [show n + countS x (d + 1) + (c - countS x (d + 1)) = n + c by omega] at this
      exact this
    · have e2 : exL (x :: r) (d + 1) c = (false, (exB x (d + 1) c).2) := by
        simp only [exL]; rw [hx.1, decide_eq_false hc]; exact if_neg (by simp)
      have hg := countL_ge r d (n + countS x (d + 1))
      have hbig : n + c < countL (x :: r) d n := by
        simp only [countL]
        by_cases h3 : 1000 < n + countS x (d + 1)
        · rw [if_pos h3]; omega
        · rw [if_neg h3]; omega
      rw [e2]
      exact ⟨(decide_eq_false (by omega)).symm, fun h => by omega⟩
end
theorem exB_ok (e : Ex) : (exB e 1 1000).1 = exprOk e := (exB_count e 1 1000 (by omega) (by omega)).1
theorem validExpr_ok (e : Ex) : FnOK Tryz.prog 147 [aggS (exprC e)] [] (.bq (exprOk e)) [] := by
  refine fn_ok T Tryz.func147 (by kernel_rfl) rfl rfl rfl rfl fun C hC => ?_
  repeat' first
    | refine g_go T hC true 400 rfl rfl ?_
    | refine g_cond rfl (fun h => ?_) (fun h => ?_)
    | refine g_end T hC (by kernel_rfl) ?_
    | refine g_splitD (fun h => ?_) (fun h => ?_)
    | refine g_splitG rfl rfl rfl (fun h => ?_) (fun h => ?_)
    | refine g_splitP rfl rfl (fun h => ?_) (fun h => ?_)
    | refine g_callR hC (astExpr_ok (sizeOf e + 1) e 1 1000 (by omega) (by omega) (by omega) (by omega) (by omega)) (nm [1005]) rfl rfl (LeSs.refl _) rfl rfl rfl rfl rfl rfl rfl rfl ?_
  exact g_fin ⟨.inl rfl, id, _, rfl, .qq (exB_ok e), trivial, rfl, rfl⟩

/-! Statements -/
def shapeP (s : Sm) : Bool := (if s.op = 1 ∨ s.op = 2 then isName s.s else decide (s.s = (⟨#[]⟩ : ByteArray))) && !(!decide (s.op = 3) && (decide (0 < (s.els.length : Int)) || (!decide (s.op = 4) && decide (0 < (s.l.length : Int))))) &&
  (if s.op = 1 ∨ s.op = 3 ∨ s.op = 4 then decide ((s.e.length : Int) = 1) else if s.op = 2 then decide ((s.e.length : Int) = 2) else if s.op = 5 then decide ((s.e.length : Int) ≤ 1)
    else if s.op = 6 then decide ((s.e.length : Int) = 1) && decide ((s.e[0]?).map Ex.op = some 7) else false)
theorem shapeP_S (s : Sm) : (shapeP s && s.e.all exprOk) = shapeS s := by
  have hz : ∀ n : Nat, decide ((n : Int) = 0) = !decide (0 < (n : Int)) := fun n => by
    by_cases h : (n : Int) = 0
    · rw [decide_eq_true h, decide_eq_false (by omega)]; rfl
    · rw [decide_eq_false h, decide_eq_true (by omega)]; rfl
  have h1 : ∀ n : Nat, (!decide ((n : Int) < 1) && !decide (1 < (n : Int))) = decide ((n : Int) = 1) := fun n => by
    by_cases h : (n : Int) = 1
    · simp [h]
    · rw [decide_eq_false h]; by_cases h2 : (n : Int) < 1 <;> simp [h2] <;> omega
  have h2 : ∀ n : Nat, (!decide ((n : Int) < 2) && !decide (2 < (n : Int))) = decide ((n : Int) = 2) := fun n => by
    by_cases h : (n : Int) = 2
    · simp [h]
    · rw [decide_eq_false h]; by_cases h2 : (n : Int) < 2 <;> simp [h2] <;> omega
  have h3 : ∀ n : Nat, (!decide ((n : Int) < 0) && !decide (1 < (n : Int))) = decide ((n : Int) ≤ 1) := fun n => by
    by_cases h : (n : Int) ≤ 1
    · simp [h] <;> omega
    · simp [h] <;> omega
  simp only [shapeS, shapeB, shapeP, simpleS, exprsOk, h1, h2, h3, hz]
  generalize s.e.all exprOk = A
  generalize isName s.s = B
  generalize decide (s.s = (⟨#[]⟩ : ByteArray)) = E
  generalize decide (0 < (s.els.length : Int)) = X
  generalize decide (0 < (s.l.length : Int)) = Y
  generalize decide ((s.e[0]?).map Ex.op = some 7) = Z
  generalize decide ((s.e.length : Int) = 1) = N1
  generalize decide ((s.e.length : Int) = 2) = N2
  generalize decide ((s.e.length : Int) ≤ 1) = N3
  by_cases o1 : s.op = 1
  · simp only [o1, Int.reduceEq, true_or, or_true, false_or, or_false, if_true, if_false, decide_true, decide_false]; revert A B E X Y Z N1 N2 N3; decide
  by_cases o2 : s.op = 2
  · simp only [o2, Int.reduceEq, true_or, or_true, false_or, or_false, if_true, if_false, decide_true, decide_false]; revert A B E X Y Z N1 N2 N3; decide
  by_cases o3 : s.op = 3
  · simp only [o3, Int.reduceEq, true_or, or_true, false_or, or_false, if_true, if_false, decide_true, decide_false]; revert A B E X Y Z N1 N2 N3; decide
  by_cases o4 : s.op = 4
  · simp only [o4, Int.reduceEq, true_or, or_true, false_or, or_false, if_true, if_false, decide_true, decide_false]; revert A B E X Y Z N1 N2 N3; decide
  by_cases o5 : s.op = 5
  · simp only [o5, Int.reduceEq, true_or, or_true, false_or, or_false, if_true, if_false, decide_true, decide_false]; revert A B E X Y Z N1 N2 N3; decide
  by_cases o6 : s.op = 6
  · simp only [o6, Int.reduceEq, true_or, or_true, false_or, or_false, if_true, if_false, decide_true, decide_false]; revert A B E X Y Z N1 N2 N3; decide
  simp only [o1, o2, o3, o4, o5, o6, or_self, if_false, Bool.and_false, Bool.false_and]
theorem astShape_ok (s : Sm) : FnOK Tryz.prog 210 [aggS (stmtC s)] [] (.bq (shapeP s)) [] := by
  refine fn_ok T Tryz.func210 (by kernel_rfl) rfl rfl rfl rfl fun C hC => ?_
  repeat' first
    | refine g_go T hC true 400 rfl rfl ?_
    | refine g_condS rfl (fun h => ?_) (fun h => ?_)
    | refine g_end T hC (by kernel_rfl) ?_
    | refine g_splitD (fun h => ?_) (fun h => ?_)
    | refine g_splitG rfl rfl rfl (fun h => ?_) (fun h => ?_)
    | refine g_splitP rfl rfl (fun h => ?_) (fun h => ?_)
    | refine g_call hC (lexName_ok _) rfl rfl (LeSs.refl _) rfl rfl rfl ?_
    | refine g_retl T (.inl rfl) rfl ?_
    | refine g_retq T (.inl rfl) rfl ?_
    | (obtain ⟨x, hx⟩ := exists_at (l := s.e) (i := 0) (by have := of_decide_eq_true h; simp only [List.length_map] at this; omega); refine g_idx T hC rfl rfl rfl (Int.le_refl _) (map_atE0 hx) rfl rfl ?_)
  all_goals (try simp only [List.length_map] at *)
  all_goals (simp_all [shapeP] <;> omega)
end Hw.Z
