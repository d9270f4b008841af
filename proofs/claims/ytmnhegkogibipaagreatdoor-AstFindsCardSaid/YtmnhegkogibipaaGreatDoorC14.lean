/- The engine and the contracts. -/
import Derived.Test.YtmnhegkogibipaaGreatDoorC13
import Derived.Test.YtmnhegkogibipaaGreatDoorC11
import Derived.Test.YtmnhegkogibipaaGreatDoorC10
import Derived.Test.YtmnhegkogibipaaGreatDoorC6
set_option linter.unusedVariables false
set_option linter.unusedSimpArgs false
namespace Hw.Z
open Go Go.Proofs Hw.M

/-! Few fields, few statements -/
def bigF (f : Fld) : Bool := decide (100 < (f.n.size : Int)) || decide (100 < (f.t.size : Int))
theorem fewFields1_ok (f : Fld) : FnOK Tryz.prog 112 [aggS (fieldR f)] [] (.bq (bigF f)) [] := by
  refine fn_ok T Tryz.func112 (by kernel_rfl) rfl rfl rfl rfl fun C hC => ?_
  repeat' first
    | refine g_go T hC true 400 rfl rfl ?_
    | refine g_cond rfl (fun h => ?_) (fun h => ?_)
    | refine g_end T hC (by kernel_rfl) ?_
    | refine g_splitD (fun h => ?_) (fun h => ?_)
    | refine g_splitG rfl rfl rfl (fun h => ?_) (fun h => ?_)
    | refine g_splitP rfl rfl (fun h => ?_) (fun h => ?_)
    | refine g_retq T (.inl rfl) rfl ?_
    | refine g_retl T (.inl rfl) rfl ?_
  all_goals (simp_all [bigF] <;> (intros; omega))
def fieldsF (l : List Fld) (c : Int) : Bool := decide (0 ≤ c - l.length) && !l.any bigF
theorem fewFields_ok (l : List Fld) (c : Int) (h0 : 0 ≤ c) (h1 : c ≤ 4000) : FnOK Tryz.prog 49 [pS (fieldsP l), .one (.bx 0 0)] [(0, .box [.p (ki c)])] (.bq (fieldsF l c)) [(0, .box [.p (ki (c - l.length))])] := by
  have hA := fieldN_any 112 l bigF fun x _ => fewFields1_ok x
  unfold fieldsF
  generalize l.any bigF = q at hA ⊢
  refine fn_ok T Tryz.func49 (by kernel_rfl) rfl rfl rfl rfl fun C hC => ?_
  refine g_len 0 rfl fun hlen => ?_
  rw [List.length_map] at hlen
  have hwr : IntKind.i64.wrap (c - l.length) = c - l.length := wrap64 (by omega)
  repeat' first
    | refine g_go T hC true 400 rfl rfl ?_
    | refine g_cond rfl (fun h => ?_) (fun h => ?_)
    | refine g_end T hC (by kernel_rfl) ?_
    | refine g_splitD (fun h => ?_) (fun h => ?_)
    | refine g_splitG rfl rfl rfl (fun h => ?_) (fun h => ?_)
    | refine g_splitP rfl rfl (fun h => ?_) (fun h => ?_)
    | refine g_call hC (hA) rfl rfl (LeSs.refl _) rfl rfl rfl ?_
  all_goals (try simp only [List.length_map, hwr] at *)
  all_goals clear hA
  all_goals first
    | exact g_fin ⟨.inl rfl, id, _, rfl, .qq (by simp_all <;> (intros; omega)), ⟨rfl, trivial⟩, rfl, rfl⟩
    | exact g_fin ⟨.inl rfl, id, _, rfl, .qb (by simp_all <;> (intros; omega)), ⟨rfl, trivial⟩, rfl, rfl⟩
theorem fieldsF_ge {l : List Fld} {c : Int} (h : fieldsF l c = true) : 0 ≤ c - l.length := by
  simp only [fieldsF, Bool.and_eq_true, decide_eq_true_eq] at h; exact h.1
end Hw.Z
namespace Hw.Z
open Go Go.Proofs Hw.M

mutual
def stmF : Sm → Int → Bool × Int
  | .mk _ s e l els, c => if (decide (c - 1 < 0) || decide (100 < (s.size : Int))) = true then (false, c - 1)
    else if (fewL e (c - 1)).1 = false then (false, (fewL e (c - 1)).2)
    else if (stmL l (fewL e (c - 1)).2).1 = false then (false, (stmL l (fewL e (c - 1)).2).2)
    else stmL els (stmL l (fewL e (c - 1)).2).2
def stmL : List Sm → Int → Bool × Int
  | [], c => (true, c)
  | x :: r, c => if (stmF x c).1 = true then stmL r (stmF x c).2 else (false, (stmF x c).2)
end
theorem stmF_eq (x : Sm) (c : Int) : stmF x c = if (decide (c - 1 < 0) || decide (100 < (x.s.size : Int))) = true then (false, c - 1)
    else if (fewL x.e (c - 1)).1 = false then (false, (fewL x.e (c - 1)).2)
    else if (stmL x.l (fewL x.e (c - 1)).2).1 = false then (false, (stmL x.l (fewL x.e (c - 1)).2).2)
    else stmL x.els (stmL x.l (fewL x.e (c - 1)).2).2 := by
  cases x; simp only [stmF, Sm.s, Sm.e, Sm.l, Sm.els]; rfl
mutual
theorem stmF_bound : ∀ (x : Sm) (c : Int), 0 ≤ c → -1 ≤ (stmF x c).2 ∧ (stmF x c).2 ≤ c ∧ ((stmF x c).1 = true → 0 ≤ (stmF x c).2)
  | .mk o s e l els, c, h => by
    simp only [stmF]
    split
    · simp only; exact ⟨by omega, by omega, fun e => by cases e⟩
    · rename_i h'
      simp only [Bool.or_eq_true, decide_eq_true_eq, not_or] at h'
      have h1 := fewL_bound e (c - 1) (by omega)
      split
      · exact ⟨h1.1, by have := h1.2.1; simp only; omega, fun e => by cases e⟩
      · rename_i h2
        have h2 : (fewL e (c - 1)).1 = true := by simpa using h2
        have h3 := stmL_bound l (fewL e (c - 1)).2 (h1.2.2 h2)
        split
        · exact ⟨h3.1, by have := h3.2.1; simp only; omega, fun e => by cases e⟩
        · rename_i h4
          have h4 : (stmL l (fewL e (c - 1)).2).1 = true := by simpa using h4
          have h5 := stmL_bound els (stmL l (fewL e (c - 1)).2).2 (h3.2.2 h4)
          exact ⟨h5.1, by omega, h5.2.2⟩
theorem stmL_bound : ∀ (l : List Sm) (c : Int), 0 ≤ c → -1 ≤ (stmL l c).2 ∧ (stmL l c).2 ≤ c ∧ ((stmL l c).1 = true → 0 ≤ (stmL l c).2)
  | [], c, h => by simp only [stmL]; exact ⟨by omega, by omega, fun _ => h⟩
  | x :: r, c, h => by
    simp only [stmL]
    have h1 := stmF_bound x c h
    split
    · rename_i h2
      have h3 := stmL_bound r _ (h1.2.2 h2)
      exact ⟨h3.1, by omega, h3.2.2⟩
    · exact ⟨h1.1, h1.2.1, fun e => by cases e⟩
end
theorem fewS1_ok (x : Ex) (c : Int) (h : FewOK x c) :
    FnOK Tryz.prog 174 [aggS (exprC x), .one (.bx 1 0)] [(0, .box [.p (ki c)]), (1, .box [.bx 0 0])] (.bq (!(fewB x c).1)) [(0, .box [.p (ki (fewB x c).2)]), (1, .box [.bx 0 0])] := by
  unfold FewOK at h
  refine fn_ok T Tryz.func174 (by kernel_rfl) rfl rfl rfl rfl fun C hC => ?_
  repeat' first
    | refine g_go T hC true 400 rfl rfl ?_
    | refine g_cond rfl (fun h => ?_) (fun h => ?_)
    | refine g_end T hC (by kernel_rfl) ?_
    | refine g_splitD (fun h => ?_) (fun h => ?_)
    | refine g_splitG rfl rfl rfl (fun h => ?_) (fun h => ?_)
    | refine g_splitP rfl rfl (fun h => ?_) (fun h => ?_)
    | refine g_callR hC (h) (nm [0]) rfl rfl (LeSs.refl _) rfl rfl rfl rfl rfl rfl rfl rfl ?_
  exact g_fin ⟨.inl rfl, id, _, rfl, .qq rfl, ⟨rfl, rfl, trivial⟩, rfl, rfl⟩
theorem fewE_has (l : List Ex) (c : Int) (h0 : 0 ≤ c) (h1 : c ≤ 4000) : FnOK Tryz.prog 150 [pS (exprsP l), .one (.cl 174 [] [.bx 1 0])] [(0, .box [.p (ki c)]), (1, .box [.bx 0 0])]
    (.bq (!(fewL l c).1)) [(0, .box [.p (ki (fewL l c).2)]), (1, .box [.bx 0 0])] := by
  have := exprF_has 174 l (fun x c => !(fewB x c).1) (fun x c => (fewB x c).2) (fun c => 0 ≤ c ∧ c ≤ 4000) (fun x hx c hc => ⟨fewS1_ok x c (few_ok (SizeOf.sizeOf x + 1) x c (by omega) hc.1 hc.2), fun hp => by
    have hb := fewB_bound x c hc.1
    exact ⟨hb.2.2 (by simpa using hp), by omega⟩⟩) c ⟨h0, h1⟩
  rw [anyR_few] at this
  exact this
theorem fewStmts_ok : ∀ (N : Nat) (a : List Sm) (c : Int), SizeOf.sizeOf a < N → 0 ≤ c → c ≤ 4000 → FnOK Tryz.prog 113 [pS (stmtsP a), .one (.bx 0 0)] [(0, .box [.p (ki c)])] (.bq (stmL a c).1) [(0, .box [.p (ki (stmL a c).2)])] := by
  intro N
  induction N with
  | zero => intro a c h; omega
  | succ N ih =>
  intro a c hN hc0 hc1
  refine fn_ok T Tryz.func113 (by kernel_rfl) rfl rfl rfl rfl fun C hC => ?_
  refine g_len 0 rfl fun hlen => ?_
  rw [List.length_map] at hlen
  repeat' first
    | refine g_go T hC true 400 rfl rfl ?_
    | refine g_cond rfl (fun h => ?_) (fun h => ?_)
    | refine g_end T hC (by kernel_rfl) ?_
    | refine g_splitD (fun h => ?_) (fun h => ?_)
    | refine g_splitG rfl rfl rfl (fun h => ?_) (fun h => ?_)
    | refine g_splitP rfl rfl (fun h => ?_) (fun h => ?_)
  rw [List.length_map]
  refine g_loop (fun p : Nat × Int => p.1 ≤ a.length ∧ 0 ≤ p.2 ∧ p.2 ≤ 4000 ∧ stmL (a.drop p.1) p.2 = stmL a c) (fun p => ([(3, .one (.bx 1003 0)), (7, pS (stmtsP a)), (8, I a.length), (9, I p.1)], [(0, some (Res.box [.p (ki p.2)])), (1003, some (Res.box [.bx 0 0]))])) (fun p => a.length - p.1) hC
    (0, c) ⟨Nat.zero_le _, hc0, hc1, rfl⟩ id ⟨rfl, ⟨rfl, rfl, rfl, rfl, trivial⟩, ⟨rfl, rfl, trivial⟩, rfl, fun _ _ => rfl⟩ ?_
  rintro ⟨i, n⟩ ⟨hi, hn0, hn1, hn⟩
  simp only at hi hn0 hn1 hn
  refine g_run' T hC true 200 rfl ?_
  refine g_cond rfl (fun h => ?_) (fun h => ?_)
  · have hlt : i < a.length := by have := of_decide_eq_true h; omega
    clear h
    obtain ⟨x, hx⟩ := exists_at hlt
    have hxs := List.sizeOf_lt_of_mem (List.mem_of_getElem? hx)
    have hsub := sm_sub x
    rw [drop_at hx, stmL] at hn
    obtain ⟨m, hm⟩ : ∃ m, m = n - 1 := ⟨_, rfl⟩
    have hwr : IntKind.i64.wrap (n - 1) = m := by rw [hm]; exact wrap64 (by omega)
    have hsf := stmF_eq x n
    rw [← hm] at hsf
    by_cases hbad : (decide (m < 0) || decide (100 < (x.s.size : Int))) = true
    · rw [if_pos hbad] at hsf
      rw [hsf] at hn
      simp only [Bool.false_eq_true, if_false] at hn
      rw [← hn]
      repeat' first
        | refine g_go T hC true 400 rfl rfl ?_
        | refine g_cond rfl (fun h => ?_) (fun h => ?_)
        | refine g_end T hC (by kernel_rfl) ?_
        | refine g_splitD (fun h => ?_) (fun h => ?_)
        | refine g_splitG rfl rfl rfl (fun h => ?_) (fun h => ?_)
        | refine g_splitP rfl rfl (fun h => ?_) (fun h => ?_)
        | refine g_idx T hC rfl rfl rfl (Int.natCast_nonneg _) (map_atS hx) rfl rfl ?_
        | rw [hwr]
        | refine g_outR ?_
      all_goals first
        | (rw [hwr]; exact g_fin ⟨.inl rfl, id, _, rfl, .qb rfl, ⟨rfl, trivial⟩, rfl, rfl⟩)
        | exact g_fin ⟨.inl rfl, id, _, rfl, .qb rfl, ⟨rfl, trivial⟩, rfl, rfl⟩
        | (exfalso; simp only [hwr] at *; simp_all; done)
    rw [if_neg hbad] at hsf
    simp only [Bool.or_eq_true, decide_eq_true_eq, not_or] at hbad
    have hE := fewE_has x.e m (by omega) (by omega)
    have hbE := fewL_bound x.e m (by omega)
    by_cases hE0 : (fewL x.e m).1 = false
    · rw [if_pos hE0] at hsf
      rw [hsf] at hn
      simp only [Bool.false_eq_true, if_false] at hn
      rw [hE0] at hE
      rw [← hn]
      repeat' first
        | refine g_go T hC true 400 rfl rfl ?_
        | refine g_cond rfl (fun h => ?_) (fun h => ?_)
        | refine g_end T hC (by kernel_rfl) ?_
        | refine g_splitD (fun h => ?_) (fun h => ?_)
        | refine g_splitG rfl rfl rfl (fun h => ?_) (fun h => ?_)
        | refine g_splitP rfl rfl (fun h => ?_) (fun h => ?_)
        | refine g_idx T hC rfl rfl rfl (Int.natCast_nonneg _) (map_atS hx) rfl rfl ?_
        | rw [hwr]
        | refine g_callR hC (hE) (nm [0, 1003]) rfl rfl (LeSs.refl _) rfl rfl rfl rfl rfl rfl rfl rfl ?_
        | refine g_outR ?_
      all_goals first
        | (rw [hwr] at h; exfalso; have := of_decide_eq_true h; omega)
        | (exfalso; have := of_decide_eq_true h; omega)
        | exact g_fin ⟨.inl rfl, id, _, rfl, .qb rfl, ⟨rfl, trivial⟩, rfl, rfl⟩
        | (exfalso; simp only [hwr] at *; simp_all; done)
    rw [if_neg hE0] at hsf
    have hE1 : (fewL x.e m).1 = true := by simpa using hE0
    rw [hE1] at hE
    obtain ⟨m2, hm2⟩ : ∃ m2, m2 = (fewL x.e m).2 := ⟨_, rfl⟩
    have hg2 := hbE.2.2 hE1
    rw [← hm2] at hsf hE hbE hg2
    have hL := ih x.l m2 (by omega) hg2 (by omega)
    have hbL := stmL_bound x.l m2 hg2
    by_cases hL0 : (stmL x.l m2).1 = false
    · rw [if_pos hL0] at hsf
      rw [hsf] at hn
      simp only [Bool.false_eq_true, if_false] at hn
      rw [hL0] at hL
      rw [← hn]
      repeat' first
        | refine g_go T hC true 400 rfl rfl ?_
        | refine g_cond rfl (fun h => ?_) (fun h => ?_)
        | refine g_end T hC (by kernel_rfl) ?_
        | refine g_splitD (fun h => ?_) (fun h => ?_)
        | refine g_splitG rfl rfl rfl (fun h => ?_) (fun h => ?_)
        | refine g_splitP rfl rfl (fun h => ?_) (fun h => ?_)
        | refine g_idx T hC rfl rfl rfl (Int.natCast_nonneg _) (map_atS hx) rfl rfl ?_
        | rw [hwr]
        | refine g_callR hC (hE) (nm [0, 1003]) rfl rfl (LeSs.refl _) rfl rfl rfl rfl rfl rfl rfl rfl ?_
        | refine g_callR hC (hL) (nm [0]) rfl rfl (LeSs.refl _) rfl rfl rfl rfl rfl rfl rfl rfl ?_
        | refine g_outR ?_
      all_goals first
        | (rw [hwr] at h; exfalso; have := of_decide_eq_true h; omega)
        | (exfalso; have := of_decide_eq_true h; omega)
        | exact g_fin ⟨.inl rfl, id, _, rfl, .qb rfl, ⟨rfl, trivial⟩, rfl, rfl⟩
        | (exfalso; simp only [hwr] at *; simp_all; done)
    rw [if_neg hL0] at hsf
    have hL1 : (stmL x.l m2).1 = true := by simpa using hL0
    rw [hL1] at hL
    obtain ⟨m3, hm3⟩ : ∃ m3, m3 = (stmL x.l m2).2 := ⟨_, rfl⟩
    have hg3 := hbL.2.2 hL1
    rw [← hm3] at hsf hL hbL hg3
    have hS := ih x.els m3 (by omega) hg3 (by omega)
    have hbS := stmL_bound x.els m3 hg3
    rw [hsf] at hn
    by_cases hS0 : (stmL x.els m3).1 = false
    · rw [hS0] at hn hS
      simp only [Bool.false_eq_true, if_false] at hn
      rw [← hn]
      repeat' first
        | refine g_go T hC true 400 rfl rfl ?_
        | refine g_cond rfl (fun h => ?_) (fun h => ?_)
        | refine g_end T hC (by kernel_rfl) ?_
        | refine g_splitD (fun h => ?_) (fun h => ?_)
        | refine g_splitG rfl rfl rfl (fun h => ?_) (fun h => ?_)
        | refine g_splitP rfl rfl (fun h => ?_) (fun h => ?_)
        | refine g_idx T hC rfl rfl rfl (Int.natCast_nonneg _) (map_atS hx) rfl rfl ?_
        | rw [hwr]
        | refine g_callR hC (hE) (nm [0, 1003]) rfl rfl (LeSs.refl _) rfl rfl rfl rfl rfl rfl rfl rfl ?_
        | refine g_callR hC (hL) (nm [0]) rfl rfl (LeSs.refl _) rfl rfl rfl rfl rfl rfl rfl rfl ?_
        | refine g_callR hC (hS) (nm [0]) rfl rfl (LeSs.refl _) rfl rfl rfl rfl rfl rfl rfl rfl ?_
        | refine g_outR ?_
      all_goals first
        | (rw [hwr] at h; exfalso; have := of_decide_eq_true h; omega)
        | (exfalso; have := of_decide_eq_true h; omega)
        | exact g_fin ⟨.inl rfl, id, _, rfl, .qb rfl, ⟨rfl, trivial⟩, rfl, rfl⟩
        | (exfalso; simp only [hwr] at *; simp_all; done)
    · have hS1 : (stmL x.els m3).1 = true := by simpa using hS0
      rw [hS1] at hn hS
      simp only [if_true] at hn
      have hg4 := hbS.2.2 hS1
      repeat' first
        | refine g_go T hC true 400 rfl rfl ?_
        | refine g_cond rfl (fun h => ?_) (fun h => ?_)
        | refine g_end T hC (by kernel_rfl) ?_
        | refine g_splitD (fun h => ?_) (fun h => ?_)
        | refine g_splitG rfl rfl rfl (fun h => ?_) (fun h => ?_)
        | refine g_splitP rfl rfl (fun h => ?_) (fun h => ?_)
        | refine g_idx T hC rfl rfl rfl (Int.natCast_nonneg _) (map_atS hx) rfl rfl ?_
        | rw [hwr]
        | refine g_callR hC (hE) (nm [0, 1003]) rfl rfl (LeSs.refl _) rfl rfl rfl rfl rfl rfl rfl rfl ?_
        | refine g_callR hC (hL) (nm [0]) rfl rfl (LeSs.refl _) rfl rfl rfl rfl rfl rfl rfl rfl ?_
        | refine g_callR hC (hS) (nm [0]) rfl rfl (LeSs.refl _) rfl rfl rfl rfl rfl rfl rfl rfl ?_
        | refine g_outR ?_
      all_goals first
        | (rw [hwr] at h; exfalso; have := of_decide_eq_true h; omega)
        | (exfalso; have := of_decide_eq_true h; omega)
        | (exfalso; cases h; done)
        | (rw [wrap64 (by omega)]
           exact g_round (i + 1, (stmL x.els m3).2) ⟨by simp only; omega, by simp only; omega, by simp only; omega, hn⟩ id (by simp only; omega) ⟨rfl, ⟨rfl, rfl, rfl, rfl, trivial⟩, ⟨rfl, rfl, trivial⟩, rfl, fun _ _ => rfl⟩)
  · have hge : ¬ i < a.length := by have := of_decide_eq_false h; omega
    rw [List.drop_eq_nil_of_le (by omega), stmL] at hn
    repeat' first
      | refine g_go T hC true 400 rfl rfl ?_
      | refine g_cond rfl (fun h => ?_) (fun h => ?_)
      | refine g_end T hC (by kernel_rfl) ?_
      | refine g_splitD (fun h => ?_) (fun h => ?_)
      | refine g_splitG rfl rfl rfl (fun h => ?_) (fun h => ?_)
      | refine g_splitP rfl rfl (fun h => ?_) (fun h => ?_)
      | refine g_outE ?_
    rw [← hn]
    exact g_fin ⟨.inl rfl, id, _, rfl, .qb rfl, ⟨rfl, trivial⟩, rfl, rfl⟩
end Hw.Z
namespace Hw.Z
open Go Go.Proofs Hw.M

theorem procG_idx (f : FuncId)  (l : List Pr) (p : Pr → Int → Bool) (nx : Pr → Int → Int) (inv : Int → Prop)
    (hf : ∀ x ∈ l, ∀ s : Int, inv s → FnOK Tryz.prog f [aggS (procR x), .one (.bx 0 0)] [(0, .box [.p (ki s)])] (.bq (p x s)) ((fun s : Int => [(0, .box [.p (ki s)])]) (nx x s)) ∧ (p x s = false → inv (nx x s))) (s : Int) (hs : inv s) :
    FnOK Tryz.prog 149 [pS (.sl 5 (l.map procR)), .one (.cl f [] [.bx 0 0])] [(0, .box [.p (ki s)])] (I (idxR p nx l 0 s).1) ((fun s : Int => [(0, .box [.p (ki s)])]) (idxR p nx l 0 s).2) := by
  refine fn_ok T Tryz.func149 (by kernel_rfl) rfl rfl rfl rfl fun C hC => ?_
  have hs0 := hs
  refine g_len 0 rfl fun hl => ?_
  rw [List.length_map] at hl
  repeat' first
    | refine g_go T hC true 400 rfl rfl ?_
    | refine g_cond rfl (fun h => ?_) (fun h => ?_)
    | refine g_end T hC (by kernel_rfl) ?_
    | refine g_splitD (fun h => ?_) (fun h => ?_)
    | refine g_splitG rfl rfl rfl (fun h => ?_) (fun h => ?_)
    | refine g_splitP rfl rfl (fun h => ?_) (fun h => ?_)
  rw [List.length_map]
  refine g_loop (fun q : Nat × Int => q.1 ≤ l.length ∧ inv q.2 ∧ idxR p nx (l.drop q.1) q.1 q.2 = idxR p nx l 0 s) (fun q => (fun s : Int => ([(0, pS (.sl 5 (l.map procR))), (1, .one (.cl f [] [.bx 0 0])), (7, I l.length), (8, I q.1)], [(0, some (.box [.p (ki s)]))])) q.2) (fun q => l.length - q.1) hC
    (0, s) ⟨Nat.zero_le _, hs, rfl⟩ id ⟨rfl, ⟨rfl, rfl, rfl, rfl, trivial⟩, ⟨rfl, trivial⟩, rfl, fun _ _ => rfl⟩ ?_
  generalize idxR p nx l 0 s = res
  clear hs hs0
  rintro ⟨i, s⟩ ⟨hi, hv, hn⟩
  simp only at hi hv hn
  refine g_run' T hC true 200 rfl ?_
  refine g_cond rfl (fun hh => ?_) (fun hh => ?_)
  · have hlt : i < l.length := by simpa using hh
    clear hh
    obtain ⟨x, hx⟩ := exists_at hlt
    rw [drop_at hx] at hn
    simp only [idxR] at hn
    have hv2 := (hf x (List.mem_of_getElem? hx) s hv).2
    repeat' first
      | refine g_go T hC true 400 rfl rfl ?_
      | refine g_cond rfl (fun h => ?_) (fun h => ?_)
      | refine g_end T hC (by kernel_rfl) ?_
      | refine g_splitD (fun h => ?_) (fun h => ?_)
      | refine g_splitG rfl rfl rfl (fun h => ?_) (fun h => ?_)
      | refine g_splitP rfl rfl (fun h => ?_) (fun h => ?_)
      | refine g_idx T hC rfl rfl rfl (Int.natCast_nonneg _) (map_at hx) rfl rfl ?_
      | refine g_callR hC (hf x (List.mem_of_getElem? hx) s hv).1 id rfl rfl (LeSs.refl _) rfl rfl rfl rfl rfl rfl rfl rfl ?_
      | refine g_outR ?_
    · rw [if_pos (by assumption)] at hn
      subst hn
      exact g_fin ⟨.inl rfl, id, _, rfl, .refl _, ⟨rfl, trivial⟩, rfl, rfl⟩
    · have hpf : p x s = false := by assumption
      rw [hpf] at hn
      simp only [Bool.false_eq_true, if_false] at hn
      rw [wrap64 (by omega)]
      exact g_round (i + 1, nx x s) ⟨by simp only; omega, hv2 hpf, hn⟩ id (by simp only; omega) ⟨rfl, ⟨rfl, rfl, rfl, rfl, trivial⟩, ⟨rfl, trivial⟩, rfl, fun _ _ => rfl⟩
  · have hge : ¬ i < l.length := by simpa using hh
    rw [List.drop_eq_nil_of_le (by omega)] at hn
    simp only [idxR] at hn
    subst hn
    repeat' first
      | refine g_go T hC true 400 rfl rfl ?_
      | refine g_cond rfl (fun h => ?_) (fun h => ?_)
      | refine g_end T hC (by kernel_rfl) ?_
      | refine g_splitD (fun h => ?_) (fun h => ?_)
      | refine g_splitG rfl rfl rfl (fun h => ?_) (fun h => ?_)
      | refine g_splitP rfl rfl (fun h => ?_) (fun h => ?_)
      | refine g_outE ?_
    exact g_fin ⟨.inl rfl, id, _, rfl, .refl _, ⟨rfl, trivial⟩, rfl, rfl⟩
theorem procG_has (f : FuncId)  (l : List Pr) (p : Pr → Int → Bool) (nx : Pr → Int → Int) (inv : Int → Prop)
    (hf : ∀ x ∈ l, ∀ s : Int, inv s → FnOK Tryz.prog f [aggS (procR x), .one (.bx 0 0)] [(0, .box [.p (ki s)])] (.bq (p x s)) ((fun s : Int => [(0, .box [.p (ki s)])]) (nx x s)) ∧ (p x s = false → inv (nx x s))) (s : Int) (hs : inv s) :
    FnOK Tryz.prog 87 [pS (.sl 5 (l.map procR)), .one (.cl f [] [.bx 0 0])] [(0, .box [.p (ki s)])] (.bq (anyR p nx l s).1) ((fun s : Int => [(0, .box [.p (ki s)])]) (anyR p nx l s).2) := by
  refine fn_ok T Tryz.func87 (by kernel_rfl) rfl rfl rfl rfl fun C hC => ?_
  repeat' first
    | refine g_go T hC true 400 rfl rfl ?_
    | refine g_cond rfl (fun h => ?_) (fun h => ?_)
    | refine g_end T hC (by kernel_rfl) ?_
    | refine g_splitD (fun h => ?_) (fun h => ?_)
    | refine g_splitG rfl rfl rfl (fun h => ?_) (fun h => ?_)
    | refine g_splitP rfl rfl (fun h => ?_) (fun h => ?_)
    | refine g_callR hC (procG_idx f  l p nx inv hf s hs) (nm [0]) rfl rfl (LeSs.refl _) rfl rfl rfl rfl rfl rfl rfl rfl ?_
  exact g_fin ⟨.inl rfl, id, _, rfl, .qq (anyR_1 p nx l 0 s), by rw [← anyR_2 p nx l 0 s]; exact ⟨rfl, trivial⟩, rfl, rfl⟩

def procF (p : Pr) (c : Int) : Bool × Int :=
  if (decide ((p.n.size : Int) ≤ 100) && decide ((p.res.size : Int) ≤ 100)) = false then (false, c)
  else if fieldsF p.params c = false then (false, c - p.params.length)
  else if fieldsF p.locs (c - p.params.length) = false then (false, c - p.params.length - p.locs.length)
  else stmL p.body (c - p.params.length - p.locs.length)
theorem proc_ok (p : Pr) (c : Int) (h0 : 0 ≤ c) (h1 : c ≤ 4000) : FnOK Tryz.prog 50 [aggS (procR p), .one (.bx 0 0)] [(0, .box [.p (ki c)])] (.bq (procF p c).1) [(0, .box [.p (ki (procF p c).2)])] := by
  unfold procF
  have hP := fewFields_ok p.params c h0 h1
  by_cases c1 : (decide ((p.n.size : Int) ≤ 100) && decide ((p.res.size : Int) ≤ 100)) = false
  · rw [if_pos c1]
    refine fn_ok T Tryz.func50 (by kernel_rfl) rfl rfl rfl rfl fun C hC => ?_
    repeat' first
      | refine g_go T hC true 400 rfl rfl ?_
      | refine g_cond rfl (fun h => ?_) (fun h => ?_)
      | refine g_end T hC (by kernel_rfl) ?_
      | refine g_splitD (fun h => ?_) (fun h => ?_)
      | refine g_splitG rfl rfl rfl (fun h => ?_) (fun h => ?_)
      | refine g_splitP rfl rfl (fun h => ?_) (fun h => ?_)
    all_goals first
      | exact g_fin ⟨.inl rfl, id, _, rfl, .qb rfl, ⟨rfl, trivial⟩, rfl, rfl⟩
      | (exfalso; clear hP; simp_all; done)
  rw [if_neg c1]
  by_cases c2 : fieldsF p.params c = false
  · rw [if_pos c2]
    rw [c2] at hP
    refine fn_ok T Tryz.func50 (by kernel_rfl) rfl rfl rfl rfl fun C hC => ?_
    repeat' first
      | refine g_go T hC true 400 rfl rfl ?_
      | refine g_cond rfl (fun h => ?_) (fun h => ?_)
      | refine g_end T hC (by kernel_rfl) ?_
      | refine g_splitD (fun h => ?_) (fun h => ?_)
      | refine g_splitG rfl rfl rfl (fun h => ?_) (fun h => ?_)
      | refine g_splitP rfl rfl (fun h => ?_) (fun h => ?_)
      | refine g_callR hC (hP) (nm [0]) rfl rfl (LeSs.refl _) rfl rfl rfl rfl rfl rfl rfl rfl ?_
    all_goals first
      | (exfalso; clear hP; simp_all; done)
      | exact g_fin ⟨.inl rfl, id, _, rfl, .qb rfl, ⟨rfl, trivial⟩, rfl, rfl⟩
  rw [if_neg c2]
  have c2' : fieldsF p.params c = true := by simpa using c2
  rw [c2'] at hP
  have g2 := fieldsF_ge c2'
  have hQ := fewFields_ok p.locs (c - p.params.length) g2 (by omega)
  by_cases c3 : fieldsF p.locs (c - p.params.length) = false
  · rw [if_pos c3]
    rw [c3] at hQ
    refine fn_ok T Tryz.func50 (by kernel_rfl) rfl rfl rfl rfl fun C hC => ?_
    repeat' first
      | refine g_go T hC true 400 rfl rfl ?_
      | refine g_cond rfl (fun h => ?_) (fun h => ?_)
      | refine g_end T hC (by kernel_rfl) ?_
      | refine g_splitD (fun h => ?_) (fun h => ?_)
      | refine g_splitG rfl rfl rfl (fun h => ?_) (fun h => ?_)
      | refine g_splitP rfl rfl (fun h => ?_) (fun h => ?_)
      | refine g_callR hC (hP) (nm [0]) rfl rfl (LeSs.refl _) rfl rfl rfl rfl rfl rfl rfl rfl ?_
      | refine g_callR hC (hQ) (nm [0]) rfl rfl (LeSs.refl _) rfl rfl rfl rfl rfl rfl rfl rfl ?_
    all_goals first
      | (exfalso; clear hP hQ; simp_all; done)
      | exact g_fin ⟨.inl rfl, id, _, rfl, .qb rfl, ⟨rfl, trivial⟩, rfl, rfl⟩
  rw [if_neg c3]
  have c3' : fieldsF p.locs (c - p.params.length) = true := by simpa using c3
  rw [c3'] at hQ
  have g3 := fieldsF_ge c3'
  have hS := fewStmts_ok (SizeOf.sizeOf p.body + 1) p.body (c - p.params.length - p.locs.length) (by omega) g3 (by omega)
  refine fn_ok T Tryz.func50 (by kernel_rfl) rfl rfl rfl rfl fun C hC => ?_
  repeat' first
    | refine g_go T hC true 400 rfl rfl ?_
    | refine g_cond rfl (fun h => ?_) (fun h => ?_)
    | refine g_end T hC (by kernel_rfl) ?_
    | refine g_splitD (fun h => ?_) (fun h => ?_)
    | refine g_splitG rfl rfl rfl (fun h => ?_) (fun h => ?_)
    | refine g_splitP rfl rfl (fun h => ?_) (fun h => ?_)
    | refine g_callR hC (hP) (nm [0]) rfl rfl (LeSs.refl _) rfl rfl rfl rfl rfl rfl rfl rfl ?_
    | refine g_callR hC (hQ) (nm [0]) rfl rfl (LeSs.refl _) rfl rfl rfl rfl rfl rfl rfl rfl ?_
    | refine g_callR hC (hS) (nm [0]) rfl rfl (LeSs.refl _) rfl rfl rfl rfl rfl rfl rfl rfl ?_
  all_goals first
    | (exfalso; clear hP hQ hS; simp_all; done)
    | exact g_fin ⟨.inl rfl, id, _, rfl, .qq rfl, ⟨rfl, trivial⟩, rfl, rfl⟩
theorem procF_bound (p : Pr) (c : Int) (h : 0 ≤ c) : (procF p c).2 ≤ c ∧ ((procF p c).1 = true → 0 ≤ (procF p c).2) := by
  unfold procF
  split
  · exact ⟨Int.le_refl _, fun e => by cases e⟩
  · split
    · exact ⟨by simp only; omega, fun e => by cases e⟩
    · rename_i h2
      have g2 := fieldsF_ge (l := p.params) (c := c) (by simpa using h2)
      split
      · exact ⟨by simp only; omega, fun e => by cases e⟩
      · rename_i h3
        have g3 := fieldsF_ge (l := p.locs) (c := c - p.params.length) (by simpa using h3)
        have := stmL_bound p.body _ g3
        exact ⟨by omega, this.2.2⟩
end Hw.Z
namespace Hw.Z
open Go Go.Proofs Hw.M

def thr {α : Type} (p : α → Int → Bool × Int) : List α → Int → Bool × Int
  | [], c => (true, c)
  | x :: r, c => if (p x c).1 = true then thr p r (p x c).2 else (false, (p x c).2)
theorem thr_bound {α : Type} {p : α → Int → Bool × Int} (hp : ∀ x c, 0 ≤ c → (p x c).2 ≤ c ∧ ((p x c).1 = true → 0 ≤ (p x c).2)) : ∀ (l : List α) (c : Int), 0 ≤ c → (thr p l c).2 ≤ c ∧ ((thr p l c).1 = true → 0 ≤ (thr p l c).2)
  | [], c, h => ⟨Int.le_refl _, fun _ => h⟩
  | x :: r, c, h => by
    have h1 := hp x c h
    simp only [thr]
    split
    · rename_i h2
      have h3 := thr_bound hp r _ (h1.2 h2)
      exact ⟨by omega, h3.2⟩
    · exact ⟨h1.1, fun e => by cases e⟩
theorem anyR_thr {α : Type} (p : α → Int → Bool × Int) : ∀ (l : List α) (c : Int), anyR (fun x c => !(p x c).1) (fun x c => (p x c).2) l c = (!(thr p l c).1, (thr p l c).2)
  | [], c => rfl
  | x :: r, c => by
    simp only [anyR, thr]
    cases h : (p x c).1 with
    | true => simp only [Bool.not_true, Bool.false_eq_true, if_false, if_true]; exact anyR_thr p r _
    | false => rfl
theorem small1_ok (p : Pr) (c : Int) (h0 : 0 ≤ c) (h1 : c ≤ 4000) :
    FnOK Tryz.prog 88 [aggS (procR p), .one (.bx 0 0)] [(0, .box [.p (ki c)])] (.bq (!(procF p c).1)) [(0, .box [.p (ki (procF p c).2)])] := by
  have h := proc_ok p c h0 h1
  generalize (procF p c).1 = q at h ⊢
  generalize (procF p c).2 = v at h ⊢
  refine fn_ok T Tryz.func88 (by kernel_rfl) rfl rfl rfl rfl fun C hC => ?_
  repeat' first
    | refine g_go T hC true 400 rfl rfl ?_
    | refine g_cond rfl (fun h => ?_) (fun h => ?_)
    | refine g_end T hC (by kernel_rfl) ?_
    | refine g_splitD (fun h => ?_) (fun h => ?_)
    | refine g_splitG rfl rfl rfl (fun h => ?_) (fun h => ?_)
    | refine g_splitP rfl rfl (fun h => ?_) (fun h => ?_)
    | refine g_callR hC (h) (nm [0]) rfl rfl (LeSs.refl _) rfl rfl rfl rfl rfl rfl rfl rfl ?_
  exact g_fin ⟨.inl rfl, id, _, rfl, .qq rfl, ⟨rfl, trivial⟩, rfl, rfl⟩
theorem procs_has (l : List Pr) (c : Int) (h0 : 0 ≤ c) (h1 : c ≤ 4000) : FnOK Tryz.prog 87 [pS (.sl 5 (l.map procR)), .one (.cl 88 [] [.bx 0 0])] [(0, .box [.p (ki c)])]
    (.bq (!(thr procF l c).1)) [(0, .box [.p (ki (thr procF l c).2)])] := by
  have := procG_has 88 l (fun x c => !(procF x c).1) (fun x c => (procF x c).2) (fun c => 0 ≤ c ∧ c ≤ 4000) (fun x hx c hc => ⟨small1_ok x c hc.1 hc.2, fun hp => by
    have hb := procF_bound x c hc.1
    exact ⟨hb.2 (by simpa using hp), by omega⟩⟩) c ⟨h0, h1⟩
  rw [anyR_thr] at this
  exact this
end Hw.Z
