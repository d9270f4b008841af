/- The engine and the contracts. -/
import Derived.Test.YtmnhegkogibipaaGreatDoorC5
import Derived.Test.YtmnhegkogibipaaGreatDoorC9
import Derived.Test.YtmnhegkogibipaaGreatDoorC7
set_option linter.unusedVariables false
set_option linter.unusedSimpArgs false
namespace Hw.Z
open Go Go.Proofs Hw.M

/-! Few nodes -/
theorem exprF_idx (f : FuncId)  (l : List Ex) (p : Ex → Int → Bool) (nx : Ex → Int → Int) (inv : Int → Prop)
    (hf : ∀ x ∈ l, ∀ s : Int, inv s → FnOK Tryz.prog f [aggS (exprC x), .one (.bx 1 0)] [(0, .box [.p (ki s)]), (1, .box [.bx 0 0])] (.bq (p x s)) ((fun s : Int => [(0, .box [.p (ki s)]), (1, .box [.bx 0 0])]) (nx x s)) ∧ (p x s = false → inv (nx x s))) (s : Int) (hs : inv s) :
    FnOK Tryz.prog 194 [pS (.sl 4 (l.map exprR)), .one (.cl f [] [.bx 1 0])] [(0, .box [.p (ki s)]), (1, .box [.bx 0 0])] (I (idxR p nx l 0 s).1) ((fun s : Int => [(0, .box [.p (ki s)]), (1, .box [.bx 0 0])]) (idxR p nx l 0 s).2) := by
  refine fn_ok T Tryz.func194 (by kernel_rfl) rfl rfl rfl rfl fun C hC => ?_
  have hs0 := hs
  refine g_len 0 rfl fun hl => ?_
  rw [List.length_map] at hl
  repeat' first
    | refine g_go T hC true 400 rfl rfl ?_
    | refine g_cond rfl (fun h => ?_) (fun h => ?_)
    | refine g_end T hC (by kernel_rfl) ?_
    | refine g_splitD (fun h => ?_) (fun h => ?_)
    | refine g_splitG rfl rfl rfl (fun h => ?_) (fun h => ?_)
    | refine g_splitP rfl rfl (fun h => ?_) (fun h => ?_)
  rw [List.length_map]
  refine g_loop (fun q : Nat × Int => q.1 ≤ l.length ∧ inv q.2 ∧ idxR p nx (l.drop q.1) q.1 q.2 = idxR p nx l 0 s) (fun q => (fun s : Int => ([(0, pS (.sl 4 (l.map exprR))), (1, .one (.cl f [] [.bx 1 0])), (7, I l.length), (8, I q.1)], [(0, some (.box [.p (ki s)])), (1, some (.box [.bx 0 0]))])) q.2) (fun q => l.length - q.1) hC
    (0, s) ⟨Nat.zero_le _, hs, rfl⟩ id ⟨rfl, ⟨rfl, rfl, rfl, rfl, trivial⟩, ⟨rfl, rfl, trivial⟩, rfl, fun _ _ => rfl⟩ ?_
  generalize idxR p nx l 0 s = res
  clear hs hs0
  rintro ⟨i, s⟩ ⟨hi, hv, hn⟩
  simp only at hi hv hn
  refine g_run' T hC true 200 rfl ?_
  refine g_cond rfl (fun hh => ?_) (fun hh => ?_)
  · have hlt : i < l.length := by simpa using hh
    clear hh
    obtain ⟨x, hx⟩ := exists_at hlt
    rw [drop_at hx] at hn
    simp only [idxR] at hn
    have hv2 := (hf x (List.mem_of_getElem? hx) s hv).2
    repeat' first
      | refine g_go T hC true 400 rfl rfl ?_
      | refine g_cond rfl (fun h => ?_) (fun h => ?_)
      | refine g_end T hC (by kernel_rfl) ?_
      | refine g_splitD (fun h => ?_) (fun h => ?_)
      | refine g_splitG rfl rfl rfl (fun h => ?_) (fun h => ?_)
      | refine g_splitP rfl rfl (fun h => ?_) (fun h => ?_)
      | refine g_idx T hC rfl rfl rfl (Int.natCast_nonneg _) (map_atE hx) rfl rfl ?_
      | refine g_callR hC (hf x (List.mem_of_getElem? hx) s hv).1 id rfl rfl (LeSs.refl _) rfl rfl rfl rfl rfl rfl rfl rfl ?_
      | refine g_outR ?_
    · rw [if_pos (by assumption)] at hn
      subst hn
      exact g_fin ⟨.inl rfl, id, _, rfl, .refl _, ⟨rfl, rfl, trivial⟩, rfl, rfl⟩
    · have hpf : p x s = false := by assumption
      rw [hpf] at hn
      simp only [Bool.false_eq_true, if_false] at hn
      rw [wrap64 (by omega)]
      exact g_round (i + 1, nx x s) ⟨by simp only; omega, hv2 hpf, hn⟩ id (by simp only; omega) ⟨rfl, ⟨rfl, rfl, rfl, rfl, trivial⟩, ⟨rfl, rfl, trivial⟩, rfl, fun _ _ => rfl⟩
  · have hge : ¬ i < l.length := by simpa using hh
    rw [List.drop_eq_nil_of_le (by omega)] at hn
    simp only [idxR] at hn
    subst hn
    repeat' first
      | refine g_go T hC true 400 rfl rfl ?_
      | refine g_cond rfl (fun h => ?_) (fun h => ?_)
      | refine g_end T hC (by kernel_rfl) ?_
      | refine g_splitD (fun h => ?_) (fun h => ?_)
      | refine g_splitG rfl rfl rfl (fun h => ?_) (fun h => ?_)
      | refine g_splitP rfl rfl (fun h => ?_) (fun h => ?_)
      | refine g_outE ?_
    exact g_fin ⟨.inl rfl, id, _, rfl, .refl _, ⟨rfl, rfl, trivial⟩, rfl, rfl⟩
theorem exprF_has (f : FuncId)  (l : List Ex) (p : Ex → Int → Bool) (nx : Ex → Int → Int) (inv : Int → Prop)
    (hf : ∀ x ∈ l, ∀ s : Int, inv s → FnOK Tryz.prog f [aggS (exprC x), .one (.bx 1 0)] [(0, .box [.p (ki s)]), (1, .box [.bx 0 0])] (.bq (p x s)) ((fun s : Int => [(0, .box [.p (ki s)]), (1, .box [.bx 0 0])]) (nx x s)) ∧ (p x s = false → inv (nx x s))) (s : Int) (hs : inv s) :
    FnOK Tryz.prog 150 [pS (.sl 4 (l.map exprR)), .one (.cl f [] [.bx 1 0])] [(0, .box [.p (ki s)]), (1, .box [.bx 0 0])] (.bq (anyR p nx l s).1) ((fun s : Int => [(0, .box [.p (ki s)]), (1, .box [.bx 0 0])]) (anyR p nx l s).2) := by
  refine fn_ok T Tryz.func150 (by kernel_rfl) rfl rfl rfl rfl fun C hC => ?_
  repeat' first
    | refine g_go T hC true 400 rfl rfl ?_
    | refine g_cond rfl (fun h => ?_) (fun h => ?_)
    | refine g_end T hC (by kernel_rfl) ?_
    | refine g_splitD (fun h => ?_) (fun h => ?_)
    | refine g_splitG rfl rfl rfl (fun h => ?_) (fun h => ?_)
    | refine g_splitP rfl rfl (fun h => ?_) (fun h => ?_)
    | refine g_callR hC (exprF_idx f  l p nx inv hf s hs) (nm [0, 1]) rfl rfl (LeSs.refl _) rfl rfl rfl rfl rfl rfl rfl rfl ?_
  exact g_fin ⟨.inl rfl, id, _, rfl, .qq (anyR_1 p nx l 0 s), by rw [← anyR_2 p nx l 0 s]; exact ⟨rfl, rfl, trivial⟩, rfl, rfl⟩

mutual
def fewB : Ex → Int → Bool × Int
  | .mk _ _ s l, c => if (decide (c - 1 < 0) || decide (100 < (s.size : Int))) = true then (false, c - 1) else fewL l (c - 1)
def fewL : List Ex → Int → Bool × Int
  | [], c => (true, c)
  | x :: r, c => if (fewB x c).1 = true then fewL r (fewB x c).2 else (false, (fewB x c).2)
end
theorem fewB_eq (e : Ex) (c : Int) : fewB e c = if (decide (c - 1 < 0) || decide (100 < (e.s.size : Int))) = true then (false, c - 1) else fewL e.l (c - 1) := by
  cases e; rfl
mutual
theorem fewB_bound : ∀ (e : Ex) (c : Int), 0 ≤ c → -1 ≤ (fewB e c).2 ∧ (fewB e c).2 ≤ c ∧ ((fewB e c).1 = true → 0 ≤ (fewB e c).2)
  | .mk op n s l, c, h => by
    simp only [fewB]
    split
    · simp only; exact ⟨by omega, by omega, fun e => by cases e⟩
    · rename_i h'
      simp only [Bool.or_eq_true, decide_eq_true_eq, not_or] at h'
      have := fewL_bound l (c - 1) (by omega)
      exact ⟨this.1, by omega, this.2.2⟩
theorem fewL_bound : ∀ (l : List Ex) (c : Int), 0 ≤ c → -1 ≤ (fewL l c).2 ∧ (fewL l c).2 ≤ c ∧ ((fewL l c).1 = true → 0 ≤ (fewL l c).2)
  | [], c, h => by simp only [fewL]; exact ⟨by omega, by omega, fun _ => h⟩
  | x :: r, c, h => by
    simp only [fewL]
    have h1 := fewB_bound x c h
    split
    · rename_i h2
      have h3 := fewL_bound r _ (h1.2.2 h2)
      exact ⟨h3.1, by omega, h3.2.2⟩
    · exact ⟨h1.1, h1.2.1, fun e => by cases e⟩
end
theorem anyR_few : ∀ (l : List Ex) (c : Int), anyR (fun x c => !(fewB x c).1) (fun x c => (fewB x c).2) l c = (!(fewL l c).1, (fewL l c).2)
  | [], c => rfl
  | x :: r, c => by
    simp only [anyR, fewL]
    cases h : (fewB x c).1 with
    | true => simp only [Bool.not_true, Bool.false_eq_true, if_false, if_true]; exact anyR_few r _
    | false => rfl
def FewOK (x : Ex) (c : Int) : Prop := FnOK Tryz.prog 89 [aggS (exprC x), .one (.bx 0 0)] [(0, .box [.p (ki c)])] (.bq (fewB x c).1) [(0, .box [.p (ki (fewB x c).2)])]
theorem few1_ok (x : Ex) (c : Int) (h : FewOK x c) :
    FnOK Tryz.prog 151 [aggS (exprC x), .one (.bx 1 0)] [(0, .box [.p (ki c)]), (1, .box [.bx 0 0])] (.bq (!(fewB x c).1)) [(0, .box [.p (ki (fewB x c).2)]), (1, .box [.bx 0 0])] := by
  unfold FewOK at h
  refine fn_ok T Tryz.func151 (by kernel_rfl) rfl rfl rfl rfl fun C hC => ?_
  repeat' first
    | refine g_go T hC true 400 rfl rfl ?_
    | refine g_cond rfl (fun h => ?_) (fun h => ?_)
    | refine g_end T hC (by kernel_rfl) ?_
    | refine g_splitD (fun h => ?_) (fun h => ?_)
    | refine g_splitG rfl rfl rfl (fun h => ?_) (fun h => ?_)
    | refine g_splitP rfl rfl (fun h => ?_) (fun h => ?_)
    | refine g_callR hC (h) (nm [0]) rfl rfl (LeSs.refl _) rfl rfl rfl rfl rfl rfl rfl rfl ?_
  exact g_fin ⟨.inl rfl, id, _, rfl, .qq rfl, ⟨rfl, rfl, trivial⟩, rfl, rfl⟩
theorem few_ok : ∀ (N : Nat) (e : Ex) (c : Int), sizeOf e < N → 0 ≤ c → c ≤ 4000 → FewOK e c := by
  intro N
  induction N with
  | zero => intro e c h; omega
  | succ N ih =>
    intro e c hN hc1 hc2
    have no : (decide (c - 1 < 0) || decide (100 < (e.s.size : Int))) = true → fewB e c = (false, c - 1) := fun h => by rw [fewB_eq, if_pos h]
    have yes : (decide (c - 1 < 0) || decide (100 < (e.s.size : Int))) = false → fewB e c = fewL e.l (c - 1) := fun h => by rw [fewB_eq, h]; rfl
    have hwr : IntKind.i64.wrap (c - 1) = c - 1 := wrap64 (by omega)
    unfold FewOK
    refine fn_ok T Tryz.func89 (by kernel_rfl) rfl rfl rfl rfl fun C hC => ?_
    repeat' first
      | refine g_go T hC true 400 rfl rfl ?_
      | refine g_cond rfl (fun h => ?_) (fun h => ?_)
      | refine g_end T hC (by kernel_rfl) ?_
      | refine g_splitD (fun h => ?_) (fun h => ?_)
      | refine g_splitG rfl rfl rfl (fun h => ?_) (fun h => ?_)
      | refine g_splitP rfl rfl (fun h => ?_) (fun h => ?_)
    all_goals simp only [hwr] at *
    all_goals first
      | (rw [no (by simp_all)]
         exact g_fin ⟨.inl rfl, id, _, rfl, .qb rfl, ⟨rfl, trivial⟩, rfl, rfl⟩)
      | (have hy : (decide (c - 1 < 0) || decide (100 < (e.s.size : Int))) = false := by clear ih no yes; simp_all
         rw [yes hy]
         simp only [Bool.or_eq_false_iff, decide_eq_false_iff_not] at hy
         have hh : FnOK Tryz.prog 150 [pS (exprsP e.l), .one (.cl 151 [] [.bx 1 0])] [(0, .box [.p (ki (c - 1))]), (1, .box [.bx 0 0])]
             (.bq (!(fewL e.l (c - 1)).1)) [(0, .box [.p (ki (fewL e.l (c - 1)).2)]), (1, .box [.bx 0 0])] := by
           have := exprF_has 151 e.l (fun x c => !(fewB x c).1) (fun x c => (fewB x c).2) (fun c => 0 ≤ c ∧ c ≤ 4000) (fun x hx c hc => ⟨few1_ok x c (ih x c (by have := List.sizeOf_lt_of_mem hx; have := sizeE_sub e; omega) hc.1 hc.2), fun hp => by
             have hb := fewB_bound x c hc.1
             exact ⟨hb.2.2 (by simpa using hp), by omega⟩⟩) (c - 1) ⟨by omega, by omega⟩
           rw [anyR_few] at this
           exact this
         repeat' first
           | refine g_go T hC true 400 rfl rfl ?_
           | refine g_cond rfl (fun h => ?_) (fun h => ?_)
           | refine g_end T hC (by kernel_rfl) ?_
           | refine g_splitD (fun h => ?_) (fun h => ?_)
           | refine g_splitG rfl rfl rfl (fun h => ?_) (fun h => ?_)
           | refine g_splitP rfl rfl (fun h => ?_) (fun h => ?_)
           | refine g_callR hC (hh) (nm [0, 1003]) rfl rfl (LeSs.refl _) rfl rfl rfl rfl rfl rfl rfl rfl ?_
         exact g_fin ⟨.inl rfl, id, _, rfl, .qq (by simp), ⟨rfl, trivial⟩, rfl, rfl⟩)
end Hw.Z
namespace Hw.Z
open Go Go.Proofs Hw.M

/-! The chapter's examples -/
abbrev nmE (s : Str) : Ex := .mk 4 0 s []
abbrev awE1 : Ex := .mk 10 0 (⟨#[]⟩ : ByteArray) [nmE (⟨#[97]⟩ : ByteArray), .mk 10 0 (⟨#[]⟩ : ByteArray) [nmE (⟨#[98]⟩ : ByteArray), nmE (⟨#[99]⟩ : ByteArray)]]
abbrev awE2 : Ex := .mk 18 0 (⟨#[]⟩ : ByteArray) [.mk 19 0 (⟨#[]⟩ : ByteArray) [nmE (⟨#[97]⟩ : ByteArray), nmE (⟨#[98]⟩ : ByteArray)]]
theorem aw1 : exprTx awE1 = (⟨#[97, 32, 45, 32, 40, 98, 32, 45, 32, 99, 41]⟩ : ByteArray) := by kernel_rfl
theorem aw2 : exprTx awE2 = (⟨#[110, 111, 116, 32, 40, 97, 32, 97, 110, 100, 32, 98, 41]⟩ : ByteArray) := by kernel_rfl
theorem aw3 : exprEr awE1 = 0 := by kernel_rfl
theorem aw4 : exprEr awE2 = 0 := by kernel_rfl
abbrev nmC (s : Str) : List PV := [ki 4, ki 0, ks s, .k (.slice none 0 0)]
theorem nmLR (s : Str) : LR (nmC s) (exprR (nmE s)) := by
  rw [exprR_eq]
  exact .cons (.refl _) (.cons (.refl _) (.cons (.refl _) (.cons (.nil 4) .nil)))
theorem twoLR {op : Int} {a b : List PV} {x y : Ex} (h1 : LR a (exprR x)) (h2 : LR b (exprR y)) : LR [ki op, ki 0, ks (⟨#[]⟩ : ByteArray), .sl 4 [a, b]] (exprR (.mk op 0 (⟨#[]⟩ : ByteArray) [x, y])) := by
  rw [exprR_eq]
  exact .cons (.refl _) (.cons (.refl _) (.cons (.refl _) (.cons (.sl (.cons h1 (.cons h2 .nil))) .nil)))
theorem oneLR {op : Int} {a : List PV} {x : Ex} (h1 : LR a (exprR x)) : LR [ki op, ki 0, ks (⟨#[]⟩ : ByteArray), .sl 4 [a]] (exprR (.mk op 0 (⟨#[]⟩ : ByteArray) [x])) := by
  rw [exprR_eq]
  exact .cons (.refl _) (.cons (.refl _) (.cons (.refl _) (.cons (.sl (.cons h1 .nil)) .nil)))
theorem aw1LR : LR [ki 10, ki 0, ks (⟨#[]⟩ : ByteArray), .sl 4 [nmC (⟨#[97]⟩ : ByteArray), [ki 10, ki 0, ks (⟨#[]⟩ : ByteArray), .sl 4 [nmC (⟨#[98]⟩ : ByteArray), nmC (⟨#[99]⟩ : ByteArray)]]]] (exprC awE1) := by
  have := twoLR (op := 10) (nmLR (⟨#[97]⟩ : ByteArray)) (twoLR (op := 10) (nmLR (⟨#[98]⟩ : ByteArray)) (nmLR (⟨#[99]⟩ : ByteArray)))
  rw [exprR_eq] at this
  exact this
theorem aw2LR : LR [ki 18, ki 0, ks (⟨#[]⟩ : ByteArray), .sl 4 [[ki 19, ki 0, ks (⟨#[]⟩ : ByteArray), .sl 4 [nmC (⟨#[97]⟩ : ByteArray), nmC (⟨#[98]⟩ : ByteArray)]]]] (exprC awE2) := by
  have := oneLR (op := 18) (twoLR (op := 19) (nmLR (⟨#[97]⟩ : ByteArray)) (nmLR (⟨#[98]⟩ : ByteArray)))
  rw [exprR_eq] at this
  exact this
theorem awake09_ok : FnOK Tryz.prog 43 [] [] (.bq true) [] := by
  have h1 := textExpr_ok awE1
  rw [aw1, aw3] at h1
  have h2 := textExpr_ok awE2
  rw [aw2, aw4] at h2
  refine fn_ok T Tryz.func43 (by kernel_rfl) rfl rfl rfl rfl fun C hC => ?_
  repeat' first
    | refine g_go T hC true 400 rfl rfl ?_
    | refine g_cond rfl (fun h => ?_) (fun h => ?_)
    | refine g_end T hC (by kernel_rfl) ?_
    | refine g_splitD (fun h => ?_) (fun h => ?_)
    | refine g_splitG rfl rfl rfl (fun h => ?_) (fun h => ?_)
    | refine g_splitP rfl rfl (fun h => ?_) (fun h => ?_)
    | refine g_lit T hC rfl rfl rfl rfl rfl rfl rfl rfl rfl ?_
    | (refine g_call hC h1 rfl rfl (LeSs.cons (LeS.lr aw1LR) .nil) rfl rfl rfl ?_)
    | (refine g_call hC h2 rfl rfl (LeSs.cons (LeS.lr aw2LR) .nil) rfl rfl rfl ?_)
    | refine g_retq T (.inl rfl) rfl ?_
    | refine g_retl T (.inl rfl) rfl ?_
  all_goals first | rfl | (exfalso; revert h; decide)
end Hw.Z
