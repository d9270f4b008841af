/- The engine and the contracts. -/
import Derived.Test.YtmnhegkogibipaaGreatDoorC1
set_option linter.unusedVariables false
set_option linter.unusedSimpArgs false
namespace Hw.Z
open Go Go.Proofs Hw.M

theorem countS_eq (e : Ex) (d : Int) : countS e d = if decide (60 < d) || !nodeS e then 1001 else countL e.l d 1 := by
  cases e; simp only [countS, Ex.l]
theorem size_part {e x : Ex} {i : Nat} (h : e.l[i]? = some x) : sizeOf x < sizeOf e := by
  obtain ⟨op, n, s, l⟩ := e
  have := List.sizeOf_lt_of_mem (List.mem_of_getElem? h)
  simp only [Ex.l] at this
  simp only [Ex.mk.sizeOf_spec]; omega
theorem drop_at {α : Type} {l : List α} {i : Nat} {x : α} (h : l[i]? = some x) : l.drop i = x :: l.drop (i + 1) := by
  obtain ⟨hlt, rfl⟩ := List.getElem?_eq_some_iff.1 h
  exact List.drop_eq_getElem_cons hlt

theorem count_ok : ∀ (N : Nat) (e : Ex) (d : Int), sizeOf e < N → -1000 ≤ d → d ≤ 1000 → FnOK Tryz.prog 215 [aggS (exprC e), I d] [] (I (countS e d)) [] := by
  intro N
  induction N with
  | zero => intro e d h; omega
  | succ N ih =>
    intro e d hN hd1 hd2
    refine fn_ok T Tryz.func215 (by kernel_rfl) rfl rfl rfl rfl fun C hC => ?_
    refine g_lenA rfl 0 3 rfl rfl fun hlen => ?_
    rw [List.length_map] at hlen
    repeat' first
      | refine g_go T hC true 400 rfl rfl ?_
      | refine g_cond rfl (fun h => ?_) (fun h => ?_)
      | refine g_end T hC (by kernel_rfl) ?_
      | refine g_splitD (fun h => ?_) (fun h => ?_)
      | refine g_splitG rfl rfl rfl (fun h => ?_) (fun h => ?_)
      | refine g_splitP rfl rfl (fun h => ?_) (fun h => ?_)
      | refine g_call hC (node_ok _) rfl rfl (LeSs.refl _) rfl rfl rfl ?_
      | refine g_reti T (.inl rfl) rfl ?_
    · rw [countS_eq, h]; rfl
    · rename_i h0
      rw [countS_eq, h0, h]; rfl
    · rename_i h0
      have hd : d ≤ 60 := by have := of_decide_eq_false h0; omega
      have hc : countS e d = countL e.l d 1 := by rw [countS_eq, h0, h]; rfl
      rw [hc]
      refine g_loop (fun p : Nat × Int => p.1 ≤ e.l.length ∧ 1 ≤ p.2 ∧ p.2 ≤ 1000 ∧ countL (e.l.drop p.1) d p.2 = countL e.l d 1) (fun p => ([(1, I d), (2, .one (.bx 1002 0)), (5, I p.2), (6, I p.1)], [(1002, some (.box ((exprC e).map V.p)))])) (fun p => e.l.length - p.1) hC
        (0, 1) ⟨Nat.zero_le _, by omega, by omega, rfl⟩ id ⟨rfl, ⟨rfl, rfl, rfl, rfl, trivial⟩, ⟨rfl, trivial⟩, rfl, fun _ _ => rfl⟩ ?_
      rintro ⟨i, n⟩ ⟨hi, hn1, hn2, hn⟩
      simp only at hi hn1 hn2 hn
      refine g_run' T hC true 200 rfl ?_
      refine g_cond rfl (fun h => ?_) (fun h => ?_)
      · have hlt : i < e.l.length := by simpa using h
        obtain ⟨x, hx⟩ := exists_at hlt
        have hb : 1 ≤ countS x (d + 1) ∧ countS x (d + 1) ≤ 2000000 := by
          have hb := countS_bound x (d + 1)
          split at hb <;> omega
        have hw : IntKind.i64.wrap (n + countS x (d + 1)) = n + countS x (d + 1) := wrap64 (by omega)
        rw [drop_at hx] at hn
        simp only [countL] at hn
        repeat' first
          | refine g_go T hC true 400 rfl rfl ?_
          | refine g_cond rfl (fun h => ?_) (fun h => ?_)
          | refine g_end T hC (by kernel_rfl) ?_
          | refine g_splitD (fun h => ?_) (fun h => ?_)
          | refine g_splitG rfl rfl rfl (fun h => ?_) (fun h => ?_)
          | refine g_splitP rfl rfl (fun h => ?_) (fun h => ?_)
          | refine g_idx T hC rfl rfl rfl (Int.natCast_nonneg _) (map_atE (by assumption)) rfl rfl ?_
        rw [wrap64 (by omega)]
        refine g_call hC (ih x (d + 1) (by have := size_part hx; omega) (by omega) (by omega)) rfl rfl (LeSs.refl _) rfl rfl rfl ?_
        repeat' first
          | refine g_go T hC true 400 rfl rfl ?_
          | refine g_cond rfl (fun h => ?_) (fun h => ?_)
          | refine g_end T hC (by kernel_rfl) ?_
          | refine g_splitD (fun h => ?_) (fun h => ?_)
          | refine g_splitG rfl rfl rfl (fun h => ?_) (fun h => ?_)
          | refine g_splitP rfl rfl (fun h => ?_) (fun h => ?_)
          | refine g_outR ?_
          | refine g_reti T (.inl rfl) rfl ?_
        · simp only [hw] at h ⊢
          rw [if_pos (of_decide_eq_true h)] at hn
          exact hn
        · simp only [hw] at h
          have hle := of_decide_eq_false h
          rw [if_neg hle] at hn
          have hw2 : IntKind.i64.wrap ((i : Int) + 1) = ((i + 1 : Nat) : Int) := by rw [wrap64 (by omega)]; omega
          simp only [hw, hw2]
          exact g_round (i + 1, n + countS x (d + 1)) ⟨by simp only; omega, by simp only; omega, by simp only; omega, hn⟩ id (by simp only; omega) ⟨rfl, ⟨rfl, rfl, rfl, rfl, trivial⟩, ⟨rfl, trivial⟩, rfl, fun _ _ => rfl⟩
      · have hge : ¬ i < e.l.length := by simpa using h
        rw [List.drop_eq_nil_of_le (by omega)] at hn
        simp only [countL] at hn
        repeat' first
          | refine g_go T hC true 400 rfl rfl ?_
          | refine g_cond rfl (fun h => ?_) (fun h => ?_)
          | refine g_end T hC (by kernel_rfl) ?_
          | refine g_splitD (fun h => ?_) (fun h => ?_)
          | refine g_splitG rfl rfl rfl (fun h => ?_) (fun h => ?_)
          | refine g_splitP rfl rfl (fun h => ?_) (fun h => ?_)
          | refine g_outE ?_
          | refine g_reti T (.inl rfl) rfl ?_
        exact hn
end Hw.Z
namespace Hw.Z
open Go Go.Proofs Hw.M

/-- P9.1 -/
def exprOk (e : Ex) : Bool := decide (countS e 1 ≤ 1000)
theorem expr_ok (e : Ex) : FnOK Tryz.prog 172 [aggS (exprC e)] [] (.bq (exprOk e)) [] := by
  refine fn_ok T Tryz.func172 (by kernel_rfl) rfl rfl rfl rfl fun C hC => ?_
  repeat' first
    | refine g_go T hC true 400 rfl rfl ?_
    | refine g_cond rfl (fun h => ?_) (fun h => ?_)
    | refine g_end T hC (by kernel_rfl) ?_
    | refine g_splitD (fun h => ?_) (fun h => ?_)
    | refine g_splitG rfl rfl rfl (fun h => ?_) (fun h => ?_)
    | refine g_splitP rfl rfl (fun h => ?_) (fun h => ?_)
    | refine g_call hC (count_ok (sizeOf e + 1) e 1 (by omega) (by omega) (by omega)) rfl rfl (LeSs.refl _) rfl rfl rfl ?_
    | refine g_retq T (.inl rfl) rfl ?_
  rfl
def exprsOk (s : Sm) (lo hi : Int) : Bool := !decide ((s.e.length : Int) < lo) && !decide (hi < (s.e.length : Int)) && s.e.all exprOk
theorem exprs_ok (s : Sm) (lo hi : Int) : FnOK Tryz.prog 228 [aggS (stmtC s), I lo, I hi] [] (.bq (exprsOk s lo hi)) [] := by
  refine fn_ok T Tryz.func228 (by kernel_rfl) rfl rfl rfl rfl fun C hC => ?_
  refine g_lenA rfl 0 2 rfl rfl fun hlen => ?_
  rw [List.length_map] at hlen
  repeat' first
    | refine g_go T hC true 400 rfl rfl ?_
    | refine g_cond rfl (fun h => ?_) (fun h => ?_)
    | refine g_end T hC (by kernel_rfl) ?_
    | refine g_splitD (fun h => ?_) (fun h => ?_)
    | refine g_splitG rfl rfl rfl (fun h => ?_) (fun h => ?_)
    | refine g_splitP rfl rfl (fun h => ?_) (fun h => ?_)
    | refine g_retl T (.inl rfl) rfl ?_
  · rw [List.length_map] at h
    simp only [exprsOk, h, Bool.not_true, Bool.false_and]
  · rename_i h0
    rw [List.length_map] at h h0
    simp only [exprsOk, h, h0, Bool.not_true, Bool.not_false, Bool.false_and, Bool.and_false]
  · rename_i h0
    rw [List.length_map] at h h0
    have hm : exprsOk s lo hi = s.e.all exprOk := by simp only [exprsOk, h, h0, Bool.not_false, Bool.true_and]
    rw [hm]
    refine g_loop (fun i : Nat => i ≤ s.e.length ∧ (s.e.take i).all exprOk = true) (fun i => ([(3, .one (.bx 1003 0)), (7, I i)], [(1003, some (.box ((stmtC s).map V.p)))])) (fun i => s.e.length - i) hC
      0 ⟨Nat.zero_le _, by simp⟩ id ⟨rfl, ⟨rfl, rfl, trivial⟩, ⟨rfl, trivial⟩, rfl, fun _ _ => rfl⟩ ?_
    rintro i ⟨hi, hn⟩
    refine g_run' T hC true 200 rfl ?_
    refine g_cond rfl (fun h => ?_) (fun h => ?_)
    · have hlt : i < s.e.length := by simpa using h
      obtain ⟨x, hx⟩ := exists_at hlt
      repeat' first
        | refine g_go T hC true 400 rfl rfl ?_
        | refine g_cond rfl (fun h => ?_) (fun h => ?_)
        | refine g_end T hC (by kernel_rfl) ?_
        | refine g_splitD (fun h => ?_) (fun h => ?_)
        | refine g_splitG rfl rfl rfl (fun h => ?_) (fun h => ?_)
        | refine g_splitP rfl rfl (fun h => ?_) (fun h => ?_)
        | refine g_idx T hC rfl rfl rfl (Int.natCast_nonneg _) (map_atE (by assumption)) rfl rfl ?_
        | refine g_call hC (expr_ok x) rfl rfl (LeSs.refl _) rfl rfl rfl ?_
        | refine g_outR ?_
        | refine g_retl T (.inl rfl) rfl ?_
      · exact (all_no hx (by simpa using h)).symm
      · have hp : exprOk x = true := by simpa using h
        rw [wrap64 (by omega)]
        refine g_round (i + 1) ⟨by omega, ?_⟩ id (by omega) ⟨rfl, ⟨rfl, rfl, trivial⟩, ⟨rfl, trivial⟩, rfl, fun _ _ => rfl⟩
        rw [all_take hx, hn, hp]; rfl
    · have hge : ¬ i < s.e.length := by simpa using h
      repeat' first
        | refine g_go T hC true 400 rfl rfl ?_
        | refine g_cond rfl (fun h => ?_) (fun h => ?_)
        | refine g_end T hC (by kernel_rfl) ?_
        | refine g_splitD (fun h => ?_) (fun h => ?_)
        | refine g_splitG rfl rfl rfl (fun h => ?_) (fun h => ?_)
        | refine g_splitP rfl rfl (fun h => ?_) (fun h => ?_)
        | refine g_outE ?_
        | refine g_retl T (.inl rfl) rfl ?_
      exact (all_end (by omega) hn).symm
end Hw.Z
namespace Hw.Z
open Go Go.Proofs Hw.M

theorem map_atE0 {l : List Ex} {x : Ex} (h : l[0]? = some x) : (l.map exprR)[(0 : Int).toNat]? = some (exprC x) := map_atE (i := 0) h
def simpleS (s : Sm) : Bool := decide ((s.l.length : Int) = 0) && decide ((s.els.length : Int) = 0)
def shapeB (s : Sm) (b : Bool) : Bool :=
  if s.op = 1 then isName s.s && exprsOk s 1 1 && b
  else if s.op = 2 then isName s.s && exprsOk s 2 2 && b
  else if s.op = 3 then decide (s.s = (⟨#[]⟩ : ByteArray)) && exprsOk s 1 1
  else if s.op = 4 then decide (s.s = (⟨#[]⟩ : ByteArray)) && exprsOk s 1 1 && decide ((s.els.length : Int) = 0)
  else if s.op = 5 then decide (s.s = (⟨#[]⟩ : ByteArray)) && exprsOk s 0 1 && b
  else if s.op = 6 then decide (s.s = (⟨#[]⟩ : ByteArray)) && exprsOk s 1 1 && decide ((s.e[0]?).map Ex.op = some 7) && b
  else false
def shapeS (s : Sm) : Bool := shapeB s (simpleS s)
theorem exprsOk_one {s : Sm} (h : exprsOk s 1 1 = true) : ∃ x, s.e[0]? = some x := by
  refine exists_at ?_
  simp only [exprsOk, Bool.and_eq_true, Bool.not_eq_true', decide_eq_false_iff_not] at h
  have := h.1.1; omega
theorem shape_ok (s : Sm) : FnOK Tryz.prog 180 [aggS (stmtC s)] [] (.bq (shapeS s)) [] := by
  refine fn_ok T Tryz.func180 (by kernel_rfl) rfl rfl rfl rfl fun C hC => ?_
  refine g_run' T hC true 7 rfl ?_
  refine g_cut (fun b : Bool => b = simpleS s) (fun b => ([(1, .one (.bx 1001 0)), (3, .bq b)], [(1001, some (.box ((stmtC s).map V.p)))])) hC ?_ ?_
  · repeat' first
      | refine g_go T hC true 400 rfl rfl ?_
      | refine g_cond rfl (fun h => ?_) (fun h => ?_)
      | refine g_end T hC (by kernel_rfl) ?_
      | refine g_splitD (fun h => ?_) (fun h => ?_)
      | refine g_splitG rfl rfl rfl (fun h => ?_) (fun h => ?_)
      | refine g_splitP rfl rfl (fun h => ?_) (fun h => ?_)
    all_goals
      simp only [List.length_map] at h ⊢
      first
        | refine g_subF 3 rfl (LeS.qq (b' := simpleS s) (by simp only [simpleS, h, Bool.true_and, Bool.false_and])) ?_
        | refine g_subF 3 rfl (LeS.qb (b' := simpleS s) (by simp only [simpleS, h, Bool.true_and, Bool.false_and])) ?_
      exact g_meet _ rfl id ⟨rfl, ⟨rfl, rfl, trivial⟩, ⟨rfl, trivial⟩, rfl, fun _ _ => rfl⟩
  · rintro b hb
    have hs : shapeS s = shapeB s b := by rw [hb]; rfl
    rw [hs]
    clear hs hb
    repeat' first
      | refine g_go T hC true 400 rfl rfl ?_
      | refine g_cond rfl (fun h => ?_) (fun h => ?_)
      | refine g_end T hC (by kernel_rfl) ?_
      | refine g_splitD (fun h => ?_) (fun h => ?_)
      | refine g_splitG rfl rfl rfl (fun h => ?_) (fun h => ?_)
      | refine g_splitP rfl rfl (fun h => ?_) (fun h => ?_)
      | refine g_call hC (isName_ok _) rfl rfl (LeSs.refl _) rfl rfl rfl ?_
      | refine g_call hC (exprs_ok _ _ _) rfl rfl (LeSs.refl _) rfl rfl rfl ?_
      | refine g_retl T (.inl rfl) rfl ?_
      | refine g_retq T (.inl rfl) rfl ?_
      | (obtain ⟨x, hx⟩ := exprsOk_one (by assumption); refine g_idx T hC rfl rfl rfl (Int.le_refl _) (map_atE0 hx) rfl rfl ?_)
    all_goals (try simp only [List.length_map])
    all_goals simp_all [shapeB]
end Hw.Z
namespace Hw.Z
open Go Go.Proofs Hw.M

def bump (n k : Int) : Int := if n ≤ 200 then n + k else n
mutual
/-- The count after a statement; more than 200 if it is not valid. -/
def stN : Sm → Int → Int → Int
  | .mk op s e l els, d, n => if decide (60 < d) || !shapeS (.mk op s e l els) then 201 else bump (bump (n + 1) (stL l (d + 1) 0)) (stL els (d + 1) 0)
def stL : List Sm → Int → Int → Int
  | [], _, n => n
  | s :: r, d, n => if 200 < stN s d n then stN s d n else stL r d (stN s d n)
end
theorem stN_eq (s : Sm) (d n : Int) : stN s d n = if decide (60 < d) || !shapeS s then 201 else bump (bump (n + 1) (stL s.l (d + 1) 0)) (stL s.els (d + 1) 0) := by
  cases s; simp only [stN, Sm.l, Sm.els]
def capS (d : Int) : Int := 201 + 400 * (if d ≤ 60 then 61 - d else 0)
theorem bump_bound {n k K : Int} (hn : 0 ≤ n) (hk : 0 ≤ k ∧ k ≤ K) (h : n ≤ 200 + K) : 0 ≤ bump n k ∧ bump n k ≤ 200 + K := by
  unfold bump; split <;> omega
theorem bump_nn {n k : Int} (hn : 0 < n) (hk : 0 ≤ k) : 0 < bump n k := by
  unfold bump; split <;> omega
mutual
theorem stN_bound : ∀ (s : Sm) (d n : Int), 0 ≤ n → n ≤ 200 → 0 ≤ stN s d n ∧ stN s d n ≤ capS d
  | .mk op s e l els, d, n, h0, h1 => by
    simp only [stN]
    split
    · unfold capS; split <;> omega
    · rename_i h
      simp only [Bool.or_eq_true, decide_eq_true_eq, Bool.not_eq_true', not_or] at h
      have b1 := stL_bound l (d + 1) 0 (by omega) (by omega)
      have b2 := stL_bound els (d + 1) 0 (by omega) (by omega)
      have b0 : 1 ≤ capS (d + 1) := by unfold capS; split <;> omega
      have c1 := bump_bound (n := n + 1) (by omega) b1 (by omega)
      have c2 := bump_bound c1.1 b2 c1.2
      have : 200 + capS (d + 1) ≤ capS d := by unfold capS; rw [if_pos (c := d ≤ 60) (by omega)]; split <;> omega
      omega
theorem stL_bound : ∀ (l : List Sm) (d n : Int), 0 ≤ n → n ≤ 200 → 0 ≤ stL l d n ∧ stL l d n ≤ capS d
  | [], d, n, h0, h1 => by
    simp only [stL]; refine ⟨h0, ?_⟩; unfold capS; split <;> omega
  | s :: r, d, n, h0, h1 => by
    simp only [stL]
    have b := stN_bound s d n h0 h1
    split
    · exact b
    · exact stL_bound r d _ b.1 (by omega)
end
theorem size_l {s x : Sm} {l : List Sm} (h : x ∈ l) (hl : sizeOf l < sizeOf s) : sizeOf x < sizeOf s := by
  have := List.sizeOf_lt_of_mem h; omega
theorem size_sub (s : Sm) : sizeOf s.l < sizeOf s ∧ sizeOf s.els < sizeOf s := by
  cases s; simp only [Sm.l, Sm.els, Sm.mk.sizeOf_spec]; omega
theorem size_at {α : Type} [SizeOf α] {l : List α} {i : Nat} {x : α} (h : l[i]? = some x) : sizeOf x < sizeOf l := List.sizeOf_lt_of_mem (List.mem_of_getElem? h)

theorem stmts_ok : ∀ (N : Nat) (l : List Sm) (d : Int), sizeOf l < N → 0 ≤ d → d ≤ 61 → FnOK Tryz.prog 123 [pS (stmtsP l), I d] [] (I (stL l d 0)) [] := by
  intro N
  induction N with
  | zero => intro l d h; omega
  | succ N ih =>
    intro l d hN hd1 hd2
    refine fn_ok T Tryz.func123 (by kernel_rfl) rfl rfl rfl rfl fun C hC => ?_
    refine g_len 0 rfl fun hlen => ?_
    rw [List.length_map] at hlen
    repeat' first
      | refine g_go T hC true 400 rfl rfl ?_
      | refine g_cond rfl (fun h => ?_) (fun h => ?_)
      | refine g_end T hC (by kernel_rfl) ?_
      | refine g_splitD (fun h => ?_) (fun h => ?_)
      | refine g_splitG rfl rfl rfl (fun h => ?_) (fun h => ?_)
      | refine g_splitP rfl rfl (fun h => ?_) (fun h => ?_)
    refine g_loop (fun p : Nat × Int => p.1 ≤ l.length ∧ 0 ≤ p.2 ∧ p.2 ≤ 200 ∧ stL (l.drop p.1) d p.2 = stL l d 0) (fun p => ([(0, pS (stmtsP l)), (1, I d), (5, I p.2), (6, I p.1)], [])) (fun p => l.length - p.1) hC
      (0, 0) ⟨Nat.zero_le _, by omega, by omega, rfl⟩ id ⟨rfl, ⟨rfl, rfl, rfl, rfl, trivial⟩, trivial, rfl, fun _ _ => rfl⟩ ?_
    rintro ⟨i, n⟩ ⟨hi, hn1, hn2, hn⟩
    simp only at hi hn1 hn2 hn
    refine g_run' T hC true 200 rfl ?_
    refine g_cond rfl (fun h => ?_) (fun h => ?_)
    · have hlt : i < l.length := by simpa using h
      clear h
      obtain ⟨x, hx⟩ := exists_at hlt
      have hsz := size_at hx
      have hss := size_sub x
      rw [drop_at hx] at hn
      simp only [stL] at hn
      have hcap : ∀ k : List Sm, 0 ≤ stL k (d + 1) 0 ∧ stL k (d + 1) 0 ≤ 100000 := fun k => by
        have := stL_bound k (d + 1) 0 (by omega) (by omega)
        unfold capS at this; split at this <;> omega
      have c1 := hcap x.l
      have c2 := hcap x.els
      clear hcap
      have k1 := fun hd : d ≤ 60 => ih x.l (d + 1) (by omega) (by omega) (by omega)
      have k2 := fun hd : d ≤ 60 => ih x.els (d + 1) (by omega) (by omega) (by omega)
      have w1 : IntKind.i64.wrap (d + 1) = d + 1 := wrap64 (by omega)
      have w2 : IntKind.i64.wrap (n + 1) = n + 1 := wrap64 (by omega)
      have w3 : ((i : Int) + 1) = ((i + 1 : Nat) : Int) := by omega
      have w4 : IntKind.i64.wrap ((i : Int) + 1) = ((i + 1 : Nat) : Int) := by rw [w3]; exact wrap64 (by omega)
      generalize hy1 : stL x.l (d + 1) 0 = y1 at *
      generalize hy2 : stL x.els (d + 1) 0 = y2 at *
      have w5 : IntKind.i64.wrap (n + 1 + y1) = n + 1 + y1 := wrap64 (by omega)
      have w6 : IntKind.i64.wrap (n + 1 + y2) = n + 1 + y2 := wrap64 (by omega)
      have w7 : IntKind.i64.wrap (n + 1 + y1 + y2) = n + 1 + y1 + y2 := wrap64 (by omega)
      rw [stN_eq, hy1, hy2] at hn
      repeat' first
        | refine g_go T hC true 400 rfl rfl ?_
        | refine g_cond rfl (fun h => ?_) (fun h => ?_)
        | refine g_end T hC (by kernel_rfl) ?_
        | refine g_splitD (fun h => ?_) (fun h => ?_)
        | refine g_splitG rfl rfl rfl (fun h => ?_) (fun h => ?_)
        | refine g_splitP rfl rfl (fun h => ?_) (fun h => ?_)
        | refine g_idx T hC rfl rfl rfl (Int.natCast_nonneg _) (map_atS (by assumption)) rfl rfl ?_
        | refine g_call hC (shape_ok _) rfl rfl (LeSs.refl _) rfl rfl rfl ?_
        | refine g_outR ?_
        | refine g_reti T (.inl rfl) rfl ?_
        | rw [w1]
        | rw [w2]
        | rw [w4]
        | rw [w7]
        | rw [w5]
        | rw [w6]
        | refine g_call hC (k1 (Int.not_lt.1 (of_decide_eq_false (by assumption)))) rfl rfl (LeSs.refl _) rfl rfl rfl ?_
        | refine g_call hC (k2 (Int.not_lt.1 (of_decide_eq_false (by assumption)))) rfl rfl (LeSs.refl _) rfl rfl rfl ?_
      all_goals
        clear ih k1 k2 hx hsz hss hN hlen w1 w3 w4 hy1 hy2
        simp only [w2, w5, w6, w7, decide_eq_true_eq, decide_eq_false_iff_not] at *
        try simp only [*, decide_true, decide_false, Bool.not_true, Bool.not_false, Bool.or_true, Bool.or_false, Bool.true_or, Bool.false_or, if_true, if_false, bump, Bool.false_eq_true] at hn
        first
          | omega
          | (refine g_round (i + 1, n + 1 + y1 + y2) ⟨by simp only; omega, by simp only; omega, by simp only; omega, ?_⟩ id (by simp only; omega) ⟨rfl, ⟨rfl, rfl, rfl, rfl, trivial⟩, trivial, rfl, fun _ _ => rfl⟩
             exact hn)
    · have hge : ¬ i < l.length := by simpa using h
      rw [List.drop_eq_nil_of_le (by omega)] at hn
      simp only [stL] at hn
      repeat' first
        | refine g_go T hC true 400 rfl rfl ?_
        | refine g_cond rfl (fun h => ?_) (fun h => ?_)
        | refine g_end T hC (by kernel_rfl) ?_
        | refine g_splitD (fun h => ?_) (fun h => ?_)
        | refine g_splitG rfl rfl rfl (fun h => ?_) (fun h => ?_)
        | refine g_splitP rfl rfl (fun h => ?_) (fun h => ?_)
        | refine g_outE ?_
        | refine g_reti T (.inl rfl) rfl ?_
      exact hn
end Hw.Z
namespace Hw.Z
open Go Go.Proofs Hw.M

def procOk (p : Pr) : Bool := isName p.n && fieldsOk p.params 6 && fieldsOk p.locs 12 && (decide (p.res = (⟨#[]⟩ : ByteArray)) || isType p.res) && decide (stL p.body 1 0 ≤ 200)
theorem procedure_ok (p : Pr) : FnOK Tryz.prog 55 [aggS (procR p)] [] (.bq (procOk p)) [] := by
  refine fn_ok T Tryz.func55 (by kernel_rfl) rfl rfl rfl rfl fun C hC => ?_
  repeat' first
    | refine g_go T hC true 400 rfl rfl ?_
    | refine g_cond rfl (fun h => ?_) (fun h => ?_)
    | refine g_end T hC (by kernel_rfl) ?_
    | refine g_splitD (fun h => ?_) (fun h => ?_)
    | refine g_splitG rfl rfl rfl (fun h => ?_) (fun h => ?_)
    | refine g_splitP rfl rfl (fun h => ?_) (fun h => ?_)
    | refine g_call hC (isName_ok _) rfl rfl (LeSs.refl _) rfl rfl rfl ?_
    | refine g_call hC (fields_ok _ _) rfl rfl (LeSs.refl _) rfl rfl rfl ?_
    | refine g_call hC (type_ok _) rfl rfl (LeSs.refl _) rfl rfl rfl ?_
    | refine g_call hC (stmts_ok (sizeOf p.body + 1) p.body 1 (by omega) (by omega) (by omega)) rfl rfl (LeSs.refl _) rfl rfl rfl ?_
    | refine g_retl T (.inl rfl) rfl ?_
    | refine g_retq T (.inl rfl) rfl ?_
  all_goals simp_all [procOk]

def measOk (m : Ms) : Bool := isName m.n && isName m.t && !decide (m.z < -1099511627776) && !decide (1099511627776 < m.z) && exprOk m.x
def invOk (m : Iv) : Bool := isName m.n && isOpen m.t && exprOk m.x
def potOk (m : Pt) : Bool := isOpen m.t && exprOk m.x
def boundOk (m : Bd) : Bool := isName m.p && exprOk m.x
def formulasOk (d : Desc) : Bool := d.measures.all measOk && d.invs.all invOk && d.pots.all potOk && d.bounds.all boundOk
theorem formulas_ok (d : Desc) : FnOK Tryz.prog 110 [aggS (descR d)] [] (.bq (formulasOk d)) [] := by
  refine fn_ok T Tryz.func110 (by kernel_rfl) rfl rfl rfl rfl fun C hC => ?_
  refine g_lenA rfl 0 4 rfl rfl fun hl1 => g_lenA rfl 0 5 rfl rfl fun hl2 => g_lenA rfl 0 6 rfl rfl fun hl3 => g_lenA rfl 0 7 rfl rfl fun hl4 => ?_
  rw [List.length_map] at hl1 hl2 hl3 hl4
  repeat' first
    | refine g_go T hC true 400 rfl rfl ?_
    | refine g_cond rfl (fun h => ?_) (fun h => ?_)
    | refine g_end T hC (by kernel_rfl) ?_
    | refine g_splitD (fun h => ?_) (fun h => ?_)
    | refine g_splitG rfl rfl rfl (fun h => ?_) (fun h => ?_)
    | refine g_splitP rfl rfl (fun h => ?_) (fun h => ?_)
  refine g_loop (fun i : Nat => i ≤ (d.measures).length ∧ ((d.measures).take i).all (measOk) = true) (fun i => ([(1, .one (.bx 1001 0)), (3, I i)], [(1001, some (.box ((descR d).map V.p)))])) (fun i => (d.measures).length - i) hC
    0 ⟨Nat.zero_le _, by simp⟩ id ⟨rfl, ⟨rfl, rfl, trivial⟩, ⟨rfl, trivial⟩, rfl, fun _ _ => rfl⟩ ?_
  rintro i ⟨hi, hn⟩
  refine g_run' T hC true 200 rfl ?_
  refine g_cond rfl (fun h => ?_) (fun h => ?_)
  · have hlt : i < (d.measures).length := by first | simpa using h | (have h' := of_decide_eq_true h; simp only [List.length_map, List.length_zip] at h' ⊢; omega)
    clear h
    obtain ⟨x, hx⟩ := exists_at hlt
    repeat' first
      | refine g_go T hC true 400 rfl rfl ?_
      | refine g_cond rfl (fun h => ?_) (fun h => ?_)
      | refine g_end T hC (by kernel_rfl) ?_
      | refine g_splitD (fun h => ?_) (fun h => ?_)
      | refine g_splitG rfl rfl rfl (fun h => ?_) (fun h => ?_)
      | refine g_splitP rfl rfl (fun h => ?_) (fun h => ?_)
      | refine g_idx T hC rfl rfl rfl (Int.natCast_nonneg _) (map_at (by assumption)) rfl rfl ?_
      | refine g_call hC (isName_ok _) rfl rfl (LeSs.refl _) rfl rfl rfl ?_
      | refine g_call hC (expr_ok x.x) rfl rfl (LeSs.refl _) rfl rfl rfl ?_
      | refine g_outR ?_
      | refine g_retl T (.inl rfl) rfl ?_
    all_goals first
      | (have hp : (measOk) x = true := by clear hn hx hlt hi; simp_all [measOk, -List.all_eq_true, -List.all_eq_false] <;> omega
         have hlt' := hlt
         try simp only [List.length_zip, List.length_zipIdx] at hlt'
         rw [wrap64 (by omega)]
         refine g_round (i + 1) ⟨by omega, ?_⟩ id (by omega) ⟨rfl, ⟨rfl, rfl, trivial⟩, ⟨rfl, trivial⟩, rfl, fun _ _ => rfl⟩
         rw [all_take (p := measOk) hx, hn, Bool.true_and]; exact hp)
      | (have hp : (measOk) x = false := by clear hn hx hlt hi; simp_all [measOk, -List.all_eq_true, -List.all_eq_false] <;> omega
         have hno := all_no (p := measOk) hx hp
         simp only [formulasOk, hno, Bool.false_and])
  have hge : ¬ i < (d.measures).length := by first | simpa using h | (have h' := of_decide_eq_false h; simp only [List.length_map, List.length_zip] at h' ⊢; omega)
  have hall : (d.measures).all (measOk) = true := all_end (p := measOk) (by omega) hn
  clear h hge hn hi
  repeat' first
    | refine g_go T hC true 400 rfl rfl ?_
    | refine g_cond rfl (fun h => ?_) (fun h => ?_)
    | refine g_end T hC (by kernel_rfl) ?_
    | refine g_splitD (fun h => ?_) (fun h => ?_)
    | refine g_splitG rfl rfl rfl (fun h => ?_) (fun h => ?_)
    | refine g_splitP rfl rfl (fun h => ?_) (fun h => ?_)
    | refine g_outE ?_
  refine g_loop (fun i : Nat => i ≤ (d.invs).length ∧ ((d.invs).take i).all (invOk) = true) (fun i => ([(1, .one (.bx 1001 0)), (5, I i)], [(1001, some (.box ((descR d).map V.p)))])) (fun i => (d.invs).length - i) hC
    0 ⟨Nat.zero_le _, by simp⟩ id ⟨rfl, ⟨rfl, rfl, trivial⟩, ⟨rfl, trivial⟩, rfl, fun _ _ => rfl⟩ ?_
  rintro i ⟨hi, hn⟩
  refine g_run' T hC true 200 rfl ?_
  refine g_cond rfl (fun h => ?_) (fun h => ?_)
  · have hlt : i < (d.invs).length := by first | simpa using h | (have h' := of_decide_eq_true h; simp only [List.length_map, List.length_zip] at h' ⊢; omega)
    clear h
    obtain ⟨x, hx⟩ := exists_at hlt
    repeat' first
      | refine g_go T hC true 400 rfl rfl ?_
      | refine g_cond rfl (fun h => ?_) (fun h => ?_)
      | refine g_end T hC (by kernel_rfl) ?_
      | refine g_splitD (fun h => ?_) (fun h => ?_)
      | refine g_splitG rfl rfl rfl (fun h => ?_) (fun h => ?_)
      | refine g_splitP rfl rfl (fun h => ?_) (fun h => ?_)
      | refine g_idx T hC rfl rfl rfl (Int.natCast_nonneg _) (map_at (by assumption)) rfl rfl ?_
      | refine g_call hC (isName_ok _) rfl rfl (LeSs.refl _) rfl rfl rfl ?_
      | refine g_call hC (open_ok _) rfl rfl (LeSs.refl _) rfl rfl rfl ?_
      | refine g_call hC (expr_ok x.x) rfl rfl (LeSs.refl _) rfl rfl rfl ?_
      | refine g_outR ?_
      | refine g_retl T (.inl rfl) rfl ?_
    all_goals first
      | (have hp : (invOk) x = true := by clear hn hx hlt hi; simp_all [invOk, -List.all_eq_true, -List.all_eq_false] <;> omega
         have hlt' := hlt
         try simp only [List.length_zip, List.length_zipIdx] at hlt'
         rw [wrap64 (by omega)]
         refine g_round (i + 1) ⟨by omega, ?_⟩ id (by omega) ⟨rfl, ⟨rfl, rfl, trivial⟩, ⟨rfl, trivial⟩, rfl, fun _ _ => rfl⟩
         rw [all_take (p := invOk) hx, hn, Bool.true_and]; exact hp)
      | (have hp : (invOk) x = false := by clear hn hx hlt hi; simp_all [invOk, -List.all_eq_true, -List.all_eq_false] <;> omega
         have hno := all_no (p := invOk) hx hp
         simp only [formulasOk, hno, Bool.false_and, Bool.and_false])
  have hge : ¬ i < (d.invs).length := by first | simpa using h | (have h' := of_decide_eq_false h; simp only [List.length_map, List.length_zip] at h' ⊢; omega)
  have hall : (d.invs).all (invOk) = true := all_end (p := invOk) (by omega) hn
  clear h hge hn hi
  rename_i hall1
  repeat' first
    | refine g_go T hC true 400 rfl rfl ?_
    | refine g_cond rfl (fun h => ?_) (fun h => ?_)
    | refine g_end T hC (by kernel_rfl) ?_
    | refine g_splitD (fun h => ?_) (fun h => ?_)
    | refine g_splitG rfl rfl rfl (fun h => ?_) (fun h => ?_)
    | refine g_splitP rfl rfl (fun h => ?_) (fun h => ?_)
    | refine g_outE ?_
  refine g_loop (fun i : Nat => i ≤ (d.pots).length ∧ ((d.pots).take i).all (potOk) = true) (fun i => ([(1, .one (.bx 1001 0)), (6, I i)], [(1001, some (.box ((descR d).map V.p)))])) (fun i => (d.pots).length - i) hC
    0 ⟨Nat.zero_le _, by simp⟩ id ⟨rfl, ⟨rfl, rfl, trivial⟩, ⟨rfl, trivial⟩, rfl, fun _ _ => rfl⟩ ?_
  rintro i ⟨hi, hn⟩
  refine g_run' T hC true 200 rfl ?_
  refine g_cond rfl (fun h => ?_) (fun h => ?_)
  · have hlt : i < (d.pots).length := by first | simpa using h | (have h' := of_decide_eq_true h; simp only [List.length_map, List.length_zip] at h' ⊢; omega)
    clear h
    obtain ⟨x, hx⟩ := exists_at hlt
    repeat' first
      | refine g_go T hC true 400 rfl rfl ?_
      | refine g_cond rfl (fun h => ?_) (fun h => ?_)
      | refine g_end T hC (by kernel_rfl) ?_
      | refine g_splitD (fun h => ?_) (fun h => ?_)
      | refine g_splitG rfl rfl rfl (fun h => ?_) (fun h => ?_)
      | refine g_splitP rfl rfl (fun h => ?_) (fun h => ?_)
      | refine g_idx T hC rfl rfl rfl (Int.natCast_nonneg _) (map_at (by assumption)) rfl rfl ?_
      | refine g_call hC (open_ok _) rfl rfl (LeSs.refl _) rfl rfl rfl ?_
      | refine g_call hC (expr_ok x.x) rfl rfl (LeSs.refl _) rfl rfl rfl ?_
      | refine g_outR ?_
      | refine g_retl T (.inl rfl) rfl ?_
    all_goals first
      | (have hp : (potOk) x = true := by clear hn hx hlt hi; simp_all [potOk, -List.all_eq_true, -List.all_eq_false] <;> omega
         have hlt' := hlt
         try simp only [List.length_zip, List.length_zipIdx] at hlt'
         rw [wrap64 (by omega)]
         refine g_round (i + 1) ⟨by omega, ?_⟩ id (by omega) ⟨rfl, ⟨rfl, rfl, trivial⟩, ⟨rfl, trivial⟩, rfl, fun _ _ => rfl⟩
         rw [all_take (p := potOk) hx, hn, Bool.true_and]; exact hp)
      | (have hp : (potOk) x = false := by clear hn hx hlt hi; simp_all [potOk, -List.all_eq_true, -List.all_eq_false] <;> omega
         have hno := all_no (p := potOk) hx hp
         simp only [formulasOk, hno, Bool.false_and, Bool.and_false])
  have hge : ¬ i < (d.pots).length := by first | simpa using h | (have h' := of_decide_eq_false h; simp only [List.length_map, List.length_zip] at h' ⊢; omega)
  have hall : (d.pots).all (potOk) = true := all_end (p := potOk) (by omega) hn
  clear h hge hn hi
  rename_i hall2
  repeat' first
    | refine g_go T hC true 400 rfl rfl ?_
    | refine g_cond rfl (fun h => ?_) (fun h => ?_)
    | refine g_end T hC (by kernel_rfl) ?_
    | refine g_splitD (fun h => ?_) (fun h => ?_)
    | refine g_splitG rfl rfl rfl (fun h => ?_) (fun h => ?_)
    | refine g_splitP rfl rfl (fun h => ?_) (fun h => ?_)
    | refine g_outE ?_
  refine g_loop (fun i : Nat => i ≤ (d.bounds).length ∧ ((d.bounds).take i).all (boundOk) = true) (fun i => ([(1, .one (.bx 1001 0)), (7, I i)], [(1001, some (.box ((descR d).map V.p)))])) (fun i => (d.bounds).length - i) hC
    0 ⟨Nat.zero_le _, by simp⟩ id ⟨rfl, ⟨rfl, rfl, trivial⟩, ⟨rfl, trivial⟩, rfl, fun _ _ => rfl⟩ ?_
  rintro i ⟨hi, hn⟩
  refine g_run' T hC true 200 rfl ?_
  refine g_cond rfl (fun h => ?_) (fun h => ?_)
  · have hlt : i < (d.bounds).length := by first | simpa using h | (have h' := of_decide_eq_true h; simp only [List.length_map, List.length_zip] at h' ⊢; omega)
    clear h
    obtain ⟨x, hx⟩ := exists_at hlt
    repeat' first
      | refine g_go T hC true 400 rfl rfl ?_
      | refine g_cond rfl (fun h => ?_) (fun h => ?_)
      | refine g_end T hC (by kernel_rfl) ?_
      | refine g_splitD (fun h => ?_) (fun h => ?_)
      | refine g_splitG rfl rfl rfl (fun h => ?_) (fun h => ?_)
      | refine g_splitP rfl rfl (fun h => ?_) (fun h => ?_)
      | refine g_idx T hC rfl rfl rfl (Int.natCast_nonneg _) (map_at (by assumption)) rfl rfl ?_
      | refine g_call hC (isName_ok _) rfl rfl (LeSs.refl _) rfl rfl rfl ?_
      | refine g_call hC (expr_ok x.x) rfl rfl (LeSs.refl _) rfl rfl rfl ?_
      | refine g_outR ?_
      | refine g_retl T (.inl rfl) rfl ?_
    all_goals first
      | (have hp : (boundOk) x = true := by clear hn hx hlt hi; simp_all [boundOk, -List.all_eq_true, -List.all_eq_false] <;> omega
         have hlt' := hlt
         try simp only [List.length_zip, List.length_zipIdx] at hlt'
         rw [wrap64 (by omega)]
         refine g_round (i + 1) ⟨by omega, ?_⟩ id (by omega) ⟨rfl, ⟨rfl, rfl, trivial⟩, ⟨rfl, trivial⟩, rfl, fun _ _ => rfl⟩
         rw [all_take (p := boundOk) hx, hn, Bool.true_and]; exact hp)
      | (have hp : (boundOk) x = false := by clear hn hx hlt hi; simp_all [boundOk, -List.all_eq_true, -List.all_eq_false] <;> omega
         have hno := all_no (p := boundOk) hx hp
         simp only [formulasOk, hno, Bool.false_and, Bool.and_false])
  have hge : ¬ i < (d.bounds).length := by first | simpa using h | (have h' := of_decide_eq_false h; simp only [List.length_map, List.length_zip] at h' ⊢; omega)
  have hall : (d.bounds).all (boundOk) = true := all_end (p := boundOk) (by omega) hn
  clear h hge hn hi
  rename_i hall3
  repeat' first
    | refine g_go T hC true 400 rfl rfl ?_
    | refine g_cond rfl (fun h => ?_) (fun h => ?_)
    | refine g_end T hC (by kernel_rfl) ?_
    | refine g_splitD (fun h => ?_) (fun h => ?_)
    | refine g_splitG rfl rfl rfl (fun h => ?_) (fun h => ?_)
    | refine g_splitP rfl rfl (fun h => ?_) (fun h => ?_)
    | refine g_outE ?_
    | refine g_retl T (.inl rfl) rfl ?_
  simp only [formulasOk, hall, hall1, hall2, hall3, Bool.true_and, Bool.and_true]

def typeOk (t : NodeT) : Bool := isName t.n && fieldsOk t.f 12
def validPre (d : Desc) : Bool := isName d.n && !decide (12 < (d.types.length : Int)) && fieldsOk d.globals 8 && !decide (40 < (d.procs.length : Int)) &&
  !decide (12 < (d.measures.length : Int)) && !decide (12 < (d.invs.length : Int)) && !decide (12 < (d.pots.length : Int)) && !decide (12 < (d.bounds.length : Int))
/-- P9.1 -/
def validD (d : Desc) : Bool := validPre d && d.types.all typeOk && d.procs.all procOk && formulasOk d
theorem valid09_ok (d : Desc) : FnOK Tryz.prog 48 [aggS (descR d)] [] (.bq (validD d)) [] := by
  refine fn_ok T Tryz.func48 (by kernel_rfl) rfl rfl rfl rfl fun C hC => ?_
  refine g_lenA rfl 0 1 rfl rfl fun hl1 => g_lenA rfl 0 3 rfl rfl fun hl2 => ?_
  rw [List.length_map] at hl1 hl2
  repeat' first
    | refine g_go T hC true 400 rfl rfl ?_
    | refine g_cond rfl (fun h => ?_) (fun h => ?_)
    | refine g_end T hC (by kernel_rfl) ?_
    | refine g_splitD (fun h => ?_) (fun h => ?_)
    | refine g_splitG rfl rfl rfl (fun h => ?_) (fun h => ?_)
    | refine g_splitP rfl rfl (fun h => ?_) (fun h => ?_)
    | refine g_call hC (isName_ok _) rfl rfl (LeSs.refl _) rfl rfl rfl ?_
    | refine g_call hC (fields_ok _ _) rfl rfl (LeSs.refl _) rfl rfl rfl ?_
    | refine g_retl T (.inl rfl) rfl ?_
  all_goals (try simp only [List.length_map] at *)
  rotate_right
  · rename_i h1 h2 h3 h4 h5 h6 h7
    have hpre : validPre d = true := by simp_all [validPre]
    clear h h1 h2 h3 h4 h5 h6 h7
    have hv : validD d = (d.types.all typeOk && d.procs.all procOk && formulasOk d) := by simp only [validD, hpre, Bool.true_and]
    rw [hv]
    repeat' first
      | refine g_go T hC true 400 rfl rfl ?_
      | refine g_cond rfl (fun h => ?_) (fun h => ?_)
      | refine g_end T hC (by kernel_rfl) ?_
      | refine g_splitD (fun h => ?_) (fun h => ?_)
      | refine g_splitG rfl rfl rfl (fun h => ?_) (fun h => ?_)
      | refine g_splitP rfl rfl (fun h => ?_) (fun h => ?_)
    refine g_loop (fun i : Nat => i ≤ (d.types).length ∧ ((d.types).take i).all (typeOk) = true) (fun i => ([(1, .one (.bx 1001 0)), (3, I i)], [(1001, some (.box ((descR d).map V.p)))])) (fun i => (d.types).length - i) hC
      0 ⟨Nat.zero_le _, by simp⟩ id ⟨rfl, ⟨rfl, rfl, trivial⟩, ⟨rfl, trivial⟩, rfl, fun _ _ => rfl⟩ ?_
    rintro i ⟨hi, hn⟩
    refine g_run' T hC true 200 rfl ?_
    refine g_cond rfl (fun h => ?_) (fun h => ?_)
    · have hlt : i < (d.types).length := by first | simpa using h | (have h' := of_decide_eq_true h; simp only [List.length_map, List.length_zip] at h' ⊢; omega)
      clear h
      obtain ⟨x, hx⟩ := exists_at hlt
      repeat' first
        | refine g_go T hC true 400 rfl rfl ?_
        | refine g_cond rfl (fun h => ?_) (fun h => ?_)
        | refine g_end T hC (by kernel_rfl) ?_
        | refine g_splitD (fun h => ?_) (fun h => ?_)
        | refine g_splitG rfl rfl rfl (fun h => ?_) (fun h => ?_)
        | refine g_splitP rfl rfl (fun h => ?_) (fun h => ?_)
        | refine g_idx T hC rfl rfl rfl (Int.natCast_nonneg _) (map_at (by assumption)) rfl rfl ?_
        | refine g_call hC (isName_ok _) rfl rfl (LeSs.refl _) rfl rfl rfl ?_
        | refine g_call hC (fields_ok _ _) rfl rfl (LeSs.refl _) rfl rfl rfl ?_
        | refine g_outR ?_
        | refine g_retl T (.inl rfl) rfl ?_
      all_goals first
        | (have hp : (typeOk) x = true := by clear hn hx hlt hi; simp_all [typeOk, -List.all_eq_true, -List.all_eq_false] <;> omega
           have hlt' := hlt
           try simp only [List.length_zip, List.length_zipIdx] at hlt'
           rw [wrap64 (by omega)]
           refine g_round (i + 1) ⟨by omega, ?_⟩ id (by omega) ⟨rfl, ⟨rfl, rfl, trivial⟩, ⟨rfl, trivial⟩, rfl, fun _ _ => rfl⟩
           rw [all_take (p := typeOk) hx, hn, Bool.true_and]; exact hp)
        | (have hp : (typeOk) x = false := by clear hn hx hlt hi; simp_all [typeOk, -List.all_eq_true, -List.all_eq_false] <;> omega
           have hno := all_no (p := typeOk) hx hp
           simp only [hno, Bool.false_and])
    have hge : ¬ i < (d.types).length := by first | simpa using h | (have h' := of_decide_eq_false h; simp only [List.length_map, List.length_zip] at h' ⊢; omega)
    have hall : (d.types).all (typeOk) = true := all_end (p := typeOk) (by omega) hn
    clear h hge hn hi
    repeat' first
      | refine g_go T hC true 400 rfl rfl ?_
      | refine g_cond rfl (fun h => ?_) (fun h => ?_)
      | refine g_end T hC (by kernel_rfl) ?_
      | refine g_splitD (fun h => ?_) (fun h => ?_)
      | refine g_splitG rfl rfl rfl (fun h => ?_) (fun h => ?_)
      | refine g_splitP rfl rfl (fun h => ?_) (fun h => ?_)
      | refine g_outE ?_
    refine g_loop (fun i : Nat => i ≤ (d.procs).length ∧ ((d.procs).take i).all (procOk) = true) (fun i => ([(1, .one (.bx 1001 0)), (4, I i)], [(1001, some (.box ((descR d).map V.p)))])) (fun i => (d.procs).length - i) hC
      0 ⟨Nat.zero_le _, by simp⟩ id ⟨rfl, ⟨rfl, rfl, trivial⟩, ⟨rfl, trivial⟩, rfl, fun _ _ => rfl⟩ ?_
    rintro i ⟨hi, hn⟩
    refine g_run' T hC true 200 rfl ?_
    refine g_cond rfl (fun h => ?_) (fun h => ?_)
    · have hlt : i < (d.procs).length := by first | simpa using h | (have h' := of_decide_eq_true h; simp only [List.length_map, List.length_zip] at h' ⊢; omega)
      clear h
      obtain ⟨x, hx⟩ := exists_at hlt
      repeat' first
        | refine g_go T hC true 400 rfl rfl ?_
        | refine g_cond rfl (fun h => ?_) (fun h => ?_)
        | refine g_end T hC (by kernel_rfl) ?_
        | refine g_splitD (fun h => ?_) (fun h => ?_)
        | refine g_splitG rfl rfl rfl (fun h => ?_) (fun h => ?_)
        | refine g_splitP rfl rfl (fun h => ?_) (fun h => ?_)
        | refine g_idx T hC rfl rfl rfl (Int.natCast_nonneg _) (map_at (by assumption)) rfl rfl ?_
        | refine g_call hC (procedure_ok x) rfl rfl (LeSs.refl _) rfl rfl rfl ?_
        | refine g_outR ?_
        | refine g_retl T (.inl rfl) rfl ?_
      all_goals first
        | (have hp : (procOk) x = true := by clear hn hx hlt hi; simp_all [-List.all_eq_true, -List.all_eq_false] <;> omega
           have hlt' := hlt
           try simp only [List.length_zip, List.length_zipIdx] at hlt'
           rw [wrap64 (by omega)]
           refine g_round (i + 1) ⟨by omega, ?_⟩ id (by omega) ⟨rfl, ⟨rfl, rfl, trivial⟩, ⟨rfl, trivial⟩, rfl, fun _ _ => rfl⟩
           rw [all_take (p := procOk) hx, hn, Bool.true_and]; exact hp)
        | (have hp : (procOk) x = false := by clear hn hx hlt hi; simp_all [-List.all_eq_true, -List.all_eq_false] <;> omega
           have hno := all_no (p := procOk) hx hp
           simp only [hno, Bool.false_and, Bool.and_false])
    have hge : ¬ i < (d.procs).length := by first | simpa using h | (have h' := of_decide_eq_false h; simp only [List.length_map, List.length_zip] at h' ⊢; omega)
    have hall : (d.procs).all (procOk) = true := all_end (p := procOk) (by omega) hn
    clear h hge hn hi
    rename_i hall1
    repeat' first
      | refine g_go T hC true 400 rfl rfl ?_
      | refine g_cond rfl (fun h => ?_) (fun h => ?_)
      | refine g_end T hC (by kernel_rfl) ?_
      | refine g_splitD (fun h => ?_) (fun h => ?_)
      | refine g_splitG rfl rfl rfl (fun h => ?_) (fun h => ?_)
      | refine g_splitP rfl rfl (fun h => ?_) (fun h => ?_)
      | refine g_outE ?_
      | refine g_call hC (formulas_ok _) rfl rfl (LeSs.refl _) rfl rfl rfl ?_
      | refine g_retq T (.inl rfl) rfl ?_
    simp only [hall, hall1, Bool.true_and]
  all_goals (simp_all [validD, validPre])
end Hw.Z
