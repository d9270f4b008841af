/- The engine and the contracts. -/
import Derived.Test.YtmnhegkogibipaaGreatDoorC2
import Derived.Test.YtmnhegkogibipaaGreatDoorE3
set_option linter.unusedVariables false
set_option linter.unusedSimpArgs false
namespace Hw.Z
open Go Go.Proofs Hw.M

def wideF (f : Fld) : Bool := decide (100 < (f.n.size : Int)) || decide (100 < (f.t.size : Int))
def wideS (l : List Fld) : Bool := decide (60 < (l.length : Int)) || !l.all fun f => !wideF f
theorem wide_ok (l : List Fld) : FnOK Tryz.prog 183 [pS (fieldsP l)] [] (.bq (wideS l)) [] := by
  refine fn_ok T Tryz.func183 (by kernel_rfl) rfl rfl rfl rfl fun C hC => ?_
  repeat' first
    | refine g_go T hC true 400 rfl rfl ?_
    | refine g_cond rfl (fun h => ?_) (fun h => ?_)
    | refine g_end T hC (by kernel_rfl) ?_
    | refine g_splitD (fun h => ?_) (fun h => ?_)
    | refine g_splitG rfl rfl rfl (fun h => ?_) (fun h => ?_)
    | refine g_splitP rfl rfl (fun h => ?_) (fun h => ?_)
    | refine g_retl T (.inl rfl) rfl ?_
  · rw [List.length_map] at h
    simp only [wideS, h, Bool.true_or]
  · rw [List.length_map] at h
    have hw : wideS l = !l.all fun f => !wideF f := by simp only [wideS, h, Bool.false_or]
    rw [hw]
    have hlen := of_decide_eq_false h
    clear h hw
    refine g_loop (fun i : Nat => i ≤ (l).length ∧ ((l).take i).all (fun f => !wideF f) = true) (fun i => ([(0, pS (fieldsP l)), (3, I i)], [])) (fun i => (l).length - i) hC
      0 ⟨Nat.zero_le _, by simp⟩ id ⟨rfl, ⟨rfl, rfl, trivial⟩, trivial, rfl, fun _ _ => rfl⟩ ?_
    rintro i ⟨hi, hn⟩
    refine g_run' T hC true 200 rfl ?_
    refine g_cond rfl (fun h => ?_) (fun h => ?_)
    · have hlt : i < (l).length := by first | simpa using h | (have h' := of_decide_eq_true h; simp only [List.length_map, List.length_zip] at h' ⊢; omega)
      clear h
      obtain ⟨x, hx⟩ := exists_at hlt
      repeat' first
        | refine g_go T hC true 400 rfl rfl ?_
        | refine g_cond rfl (fun h => ?_) (fun h => ?_)
        | refine g_end T hC (by kernel_rfl) ?_
        | refine g_splitD (fun h => ?_) (fun h => ?_)
        | refine g_splitG rfl rfl rfl (fun h => ?_) (fun h => ?_)
        | refine g_splitP rfl rfl (fun h => ?_) (fun h => ?_)
        | refine g_idx T hC rfl rfl rfl (Int.natCast_nonneg _) (map_at (by assumption)) rfl rfl ?_
        | refine g_outR ?_
        | refine g_retl T (.inl rfl) rfl ?_
      all_goals first
        | (have hp : (fun f => !wideF f) x = true := by clear hn hx hlt hi; simp_all [wideF, -List.all_eq_true, -List.all_eq_false] <;> omega
           have hlt' := hlt
           try simp only [List.length_zip, List.length_zipIdx] at hlt'
           rw [wrap64 (by omega)]
           refine g_round (i + 1) ⟨by omega, ?_⟩ id (by omega) ⟨rfl, ⟨rfl, rfl, trivial⟩, trivial, rfl, fun _ _ => rfl⟩
           rw [all_take (p := fun f => !wideF f) hx, hn, Bool.true_and]; exact hp)
        | (have hp : (fun f => !wideF f) x = false := by clear hn hx hlt hi; simp_all [wideF, -List.all_eq_true, -List.all_eq_false] <;> omega
           have hno := all_no (p := fun f => !wideF f) hx hp
           rw [hno]; rfl)
    have hge : ¬ i < (l).length := by first | simpa using h | (have h' := of_decide_eq_false h; simp only [List.length_map, List.length_zip] at h' ⊢; omega)
    have hall : (l).all (fun f => !wideF f) = true := all_end (p := fun f => !wideF f) (by omega) hn
    clear h hge hn hi
    repeat' first
      | refine g_go T hC true 400 rfl rfl ?_
      | refine g_cond rfl (fun h => ?_) (fun h => ?_)
      | refine g_end T hC (by kernel_rfl) ?_
      | refine g_splitD (fun h => ?_) (fun h => ?_)
      | refine g_splitG rfl rfl rfl (fun h => ?_) (fun h => ?_)
      | refine g_splitP rfl rfl (fun h => ?_) (fun h => ?_)
      | refine g_outE ?_
      | refine g_retl T (.inl rfl) rfl ?_
    rw [hall]; rfl

mutual
/-- How many nodes are left after an expression; -1 if there are too many. -/
def leftS : Ex → Int → Int → Int
  | .mk _ _ s l, d, n => if decide (n ≤ 0) || decide (d = 0) || decide (100 < (s.size : Int)) then -1 else leftL l (d - 1) (n - 1)
def leftL : List Ex → Int → Int → Int
  | [], _, n => n
  | e :: es, d, n => if 0 ≤ n then leftL es d (leftS e d n) else n
end
theorem leftS_eq (e : Ex) (d n : Int) : leftS e d n = if decide (n ≤ 0) || decide (d = 0) || decide (100 < (e.s.size : Int)) then -1 else leftL e.l (d - 1) (n - 1) := by
  cases e; rfl
mutual
theorem leftS_bound : ∀ (e : Ex) (d n : Int), -1 ≤ n → -1 ≤ leftS e d n ∧ leftS e d n ≤ n
  | .mk a b s l, d, n, h => by
    simp only [leftS]
    split
    · omega
    · rename_i h'
      simp only [Bool.or_eq_true, decide_eq_true_eq, not_or] at h'
      have := leftL_bound l (d - 1) (n - 1) (by omega); omega
theorem leftL_bound : ∀ (l : List Ex) (d n : Int), -1 ≤ n → -1 ≤ leftL l d n ∧ leftL l d n ≤ n
  | [], d, n, h => by simp only [leftL]; omega
  | e :: es, d, n, h => by
    simp only [leftL]
    split
    · have h1 := leftS_bound e d n h
      have h2 := leftL_bound es d _ h1.1
      omega
    · omega
end
theorem leftL_neg {l : List Ex} {d n : Int} (h : n < 0) : leftL l d n = n := by
  cases l with
  | nil => rfl
  | cons e es => simp only [leftL]; rw [if_neg (by omega)]
theorem sizeE_sub (e : Ex) : sizeOf e.l < sizeOf e := by
  cases e; simp only [Ex.l, Ex.mk.sizeOf_spec]; omega

theorem left_ok : ∀ (N : Nat) (e : Ex) (d n : Int), sizeOf e < N → 0 ≤ d → d ≤ 1000 → -1 ≤ n → n ≤ 1000000 → FnOK Tryz.prog 185 [aggS (exprC e), I d, I n] [] (I (leftS e d n)) [] := by
  intro N
  induction N with
  | zero => intro e d n h; omega
  | succ N ih =>
    intro e d n hN hd1 hd2 hn1 hn2
    refine fn_ok T Tryz.func185 (by kernel_rfl) rfl rfl rfl rfl fun C hC => ?_
    refine g_lenA rfl 0 3 rfl rfl fun hlen => ?_
    rw [List.length_map] at hlen
    repeat' first
      | refine g_go T hC true 400 rfl rfl ?_
      | refine g_cond rfl (fun h => ?_) (fun h => ?_)
      | refine g_end T hC (by kernel_rfl) ?_
      | refine g_splitD (fun h => ?_) (fun h => ?_)
      | refine g_splitG rfl rfl rfl (fun h => ?_) (fun h => ?_)
      | refine g_splitP rfl rfl (fun h => ?_) (fun h => ?_)
      | refine g_reti T (.inl rfl) rfl ?_
    · rw [leftS_eq, h]; rfl
    · rename_i h0
      rw [leftS_eq, h0, h]; rfl
    · rename_i h0 h1
      rw [leftS_eq, h0, h1, h]; rfl
    · rename_i h0 h1
      have hc : leftS e d n = leftL e.l (d - 1) (n - 1) := by rw [leftS_eq, h0, h1, h]; rfl
      have e0 := of_decide_eq_false h0
      have e1 := of_decide_eq_false h1
      clear h0 h1 h
      have w0 : IntKind.i64.wrap (n - 1) = n - 1 := wrap64 (by omega)
      have w1 : IntKind.i64.wrap (d - 1) = d - 1 := wrap64 (by omega)
      rw [hc, w0]
      refine g_loop (fun p : Nat × Int => p.1 ≤ e.l.length ∧ -1 ≤ p.2 ∧ p.2 ≤ 1000000 ∧ leftL (e.l.drop p.1) (d - 1) p.2 = leftL e.l (d - 1) (n - 1)) (fun p => ([(1, I d), (2, I p.2), (3, .one (.bx 1003 0)), (7, I p.1)], [(1003, some (.box ((exprC e).map V.p)))])) (fun p => e.l.length - p.1) hC
        (0, n - 1) ⟨Nat.zero_le _, by simp only; omega, by simp only; omega, rfl⟩ id ⟨rfl, ⟨rfl, rfl, rfl, rfl, trivial⟩, ⟨rfl, trivial⟩, rfl, fun _ _ => rfl⟩ ?_
      rintro ⟨i, m⟩ ⟨hi, hm1, hm2, hm⟩
      simp only at hi hm1 hm2 hm
      repeat' first
        | refine g_go T hC true 400 rfl rfl ?_
        | refine g_cond rfl (fun h => ?_) (fun h => ?_)
        | refine g_end T hC (by kernel_rfl) ?_
        | refine g_splitD (fun h => ?_) (fun h => ?_)
        | refine g_splitG rfl rfl rfl (fun h => ?_) (fun h => ?_)
        | refine g_splitP rfl rfl (fun h => ?_) (fun h => ?_)
        | refine g_outE ?_
        | refine g_reti T (.inl rfl) rfl ?_
      · rename_i hlt0
        have hlt : i < e.l.length := by simpa using hlt0
        have hm0 : 0 ≤ m := of_decide_eq_true h
        obtain ⟨x, hx⟩ := exists_at hlt
        have hsz := size_at hx
        have hsz2 := sizeE_sub e
        rw [drop_at hx] at hm
        simp only [leftL, if_pos hm0] at hm
        have hb := leftS_bound x (d - 1) m hm1
        have k1 := ih x (d - 1) m (by omega) (by omega) (by omega) hm1 hm2
        have w4 : IntKind.i64.wrap ((i : Int) + 1) = ((i + 1 : Nat) : Int) := by rw [show ((i : Int) + 1) = ((i + 1 : Nat) : Int) by omega]; exact wrap64 (by omega)
        repeat' first
          | refine g_go T hC true 400 rfl rfl ?_
          | refine g_cond rfl (fun h => ?_) (fun h => ?_)
          | refine g_end T hC (by kernel_rfl) ?_
          | refine g_splitD (fun h => ?_) (fun h => ?_)
          | refine g_splitG rfl rfl rfl (fun h => ?_) (fun h => ?_)
          | refine g_splitP rfl rfl (fun h => ?_) (fun h => ?_)
          | refine g_idx T hC rfl rfl rfl (Int.natCast_nonneg _) (map_atE (by assumption)) rfl rfl ?_
          | rw [w1]
          | refine g_call hC (k1) rfl rfl (LeSs.refl _) rfl rfl rfl ?_
        rw [w4]
        exact g_round (i + 1, leftS x (d - 1) m) ⟨by simp only; omega, by simp only; omega, by simp only; omega, hm⟩ id (by simp only; omega) ⟨rfl, ⟨rfl, rfl, rfl, rfl, trivial⟩, ⟨rfl, trivial⟩, rfl, fun _ _ => rfl⟩
      · have hm0 : m < 0 := Int.not_le.1 (of_decide_eq_false h)
        rw [leftL_neg hm0] at hm; exact hm
      · have hge : ¬ i < e.l.length := by simpa using h
        rw [List.drop_eq_nil_of_le (by omega)] at hm
        exact hm

mutual
def laN : Sm → Int → Int → Int
  | .mk _ s e l els, d, n => if 100 < (s.size : Int) then -1 else
      if 0 ≤ (if 0 ≤ leftL e 65 (n - 1) then (if d - 1 = 0 then -1 else laL l (d - 1) (leftL e 65 (n - 1))) else leftL e 65 (n - 1)) then
        (if d - 1 = 0 then -1 else laL els (d - 1) (if 0 ≤ leftL e 65 (n - 1) then (if d - 1 = 0 then -1 else laL l (d - 1) (leftL e 65 (n - 1))) else leftL e 65 (n - 1)))
      else (if 0 ≤ leftL e 65 (n - 1) then (if d - 1 = 0 then -1 else laL l (d - 1) (leftL e 65 (n - 1))) else leftL e 65 (n - 1))
def laL : List Sm → Int → Int → Int
  | [], _, n => n
  | s :: r, d, n => if 0 ≤ n then laL r d (laN s d n) else n
end
/-- The nodes that are left after statements. -/
def laS (l : List Sm) (d n : Int) : Int := if d = 0 then -1 else laL l d n
def laT (l : List Sm) (d n : Int) : Int := if 0 ≤ n then laS l d n else n
theorem laN_eq (s : Sm) (d n : Int) : laN s d n = if 100 < (s.s.size : Int) then -1 else laT s.els (d - 1) (laT s.l (d - 1) (leftL s.e 65 (n - 1))) := by
  cases s; rfl
theorem laT_bound {l : List Sm} {d n : Int} (h : -1 ≤ n) (ih : 0 ≤ n → -1 ≤ laL l d n ∧ laL l d n ≤ n) : -1 ≤ laT l d n ∧ laT l d n ≤ n := by
  unfold laT laS
  split
  · split
    · omega
    · exact ih (by omega)
  · omega
mutual
theorem laN_bound : ∀ (s : Sm) (d n : Int), 0 ≤ n → -1 ≤ laN s d n ∧ laN s d n ≤ n
  | .mk op s e l els, d, n, h => by
    rw [laN_eq]
    by_cases hh : 100 < ((Sm.mk op s e l els).s.size : Int)
    · rw [if_pos hh]; omega
    · rw [if_neg hh]
      simp only [Sm.els, Sm.l, Sm.e]
      have h1 := leftL_bound e 65 (n - 1) (by omega)
      have h2 := laT_bound (l := l) (d := d - 1) h1.1 (fun h0 => laL_bound l (d - 1) _ (by omega))
      have h3 := laT_bound (l := els) (d := d - 1) h2.1 (fun h0 => laL_bound els (d - 1) _ (by omega))
      omega
theorem laL_bound : ∀ (l : List Sm) (d n : Int), -1 ≤ n → -1 ≤ laL l d n ∧ laL l d n ≤ n
  | [], d, n, h => by simp only [laL]; omega
  | s :: r, d, n, h => by
    simp only [laL]
    split
    · rename_i h0
      have h1 := laN_bound s d n h0
      have h2 := laL_bound r d _ h1.1
      omega
    · omega
end
theorem laL_neg {l : List Sm} {d n : Int} (h : n < 0) : laL l d n = n := by
  cases l with
  | nil => rfl
  | cons e es => simp only [laL]; rw [if_neg (by omega)]
theorem laS_bound {l : List Sm} {d n : Int} (h : 0 ≤ n) : -1 ≤ laS l d n ∧ laS l d n ≤ n := by
  unfold laS; split
  · omega
  · exact laL_bound l d n (by omega)
theorem leftE_ok (e : Ex) (d n : Int) (h1 : 0 ≤ d) (h2 : d ≤ 1000) (h3 : -1 ≤ n) (h4 : n ≤ 1000000) : FnOK Tryz.prog 185 [aggS (exprC e), I d, I n] [] (I (leftS e d n)) [] := left_ok (sizeOf e + 1) e d n (by omega) h1 h2 h3 h4
end Hw.Z
namespace Hw.Z
open Go Go.Proofs Hw.M

theorem mul_one' (i : Nat) : ((i : Int) + 1) = ((i + 1 : Nat) : Int) := by omega
theorem wrapS {i : Nat} (h : i < 9223372036854775807) : IntKind.i64.wrap ((i : Int) + 1) = ((i + 1 : Nat) : Int) := by rw [mul_one']; exact wrap64 (by omega)
theorem laT_neg {l : List Sm} {d n : Int} (h : n < 0) : laT l d n = n := if_neg (by omega)
theorem leftAll_ok : ∀ (N : Nat) (l : List Sm) (d n : Int), sizeOf l < N → 0 ≤ d → d ≤ 1000 → 0 ≤ n → n ≤ 1000000 → FnOK Tryz.prog 184 [pS (stmtsP l), I d, I n] [] (I (laS l d n)) [] := by
  intro N
  induction N with
  | zero => intro l d n h; omega
  | succ N ih =>
    intro l d n hN hd1 hd2 hn1 hn2
    refine fn_ok T Tryz.func184 (by kernel_rfl) rfl rfl rfl rfl fun C hC => ?_
    refine g_len 0 rfl fun hlen => ?_
    rw [List.length_map] at hlen
    repeat' first
      | refine g_go T hC true 400 rfl rfl ?_
      | refine g_cond rfl (fun h => ?_) (fun h => ?_)
      | refine g_end T hC (by kernel_rfl) ?_
      | refine g_splitD (fun h => ?_) (fun h => ?_)
      | refine g_splitG rfl rfl rfl (fun h => ?_) (fun h => ?_)
      | refine g_splitP rfl rfl (fun h => ?_) (fun h => ?_)
      | refine g_reti T (.inl rfl) rfl ?_
    · have := of_decide_eq_true h
      rw [laS, if_pos this]
    · have hd0 := of_decide_eq_false h
      clear h
      rw [laS, if_neg hd0]
      refine g_loop (fun p : Nat × Int => p.1 ≤ l.length ∧ -1 ≤ p.2 ∧ p.2 ≤ 1000000 ∧ laL (l.drop p.1) d p.2 = laL l d n) (fun p => ([(0, pS (stmtsP l)), (1, I d), (2, I p.2), (7, I p.1)], [])) (fun p => l.length - p.1) hC
        (0, n) ⟨Nat.zero_le _, by simp only; omega, by simp only; omega, rfl⟩ id ⟨rfl, ⟨rfl, rfl, rfl, rfl, trivial⟩, trivial, rfl, fun _ _ => rfl⟩ ?_
      rintro ⟨i, m⟩ ⟨hi, hm1, hm2, hm⟩
      simp only at hi hm1 hm2 hm
      repeat' first
        | refine g_go T hC true 400 rfl rfl ?_
        | refine g_cond rfl (fun h => ?_) (fun h => ?_)
        | refine g_end T hC (by kernel_rfl) ?_
        | refine g_splitD (fun h => ?_) (fun h => ?_)
        | refine g_splitG rfl rfl rfl (fun h => ?_) (fun h => ?_)
        | refine g_splitP rfl rfl (fun h => ?_) (fun h => ?_)
        | refine g_outE ?_
        | refine g_reti T (.inl rfl) rfl ?_
        | refine g_idx T hC rfl rfl rfl (Int.natCast_nonneg _) (map_atS (by assumption)) rfl rfl ?_
      rotate_right
      · have hge : ¬ i < l.length := by simpa using h
        rw [List.drop_eq_nil_of_le (by omega)] at hm
        exact hm
      rotate_right
      · have hm0 : m < 0 := Int.not_le.1 (of_decide_eq_false h)
        rw [laL_neg hm0] at hm; exact hm
      rename_i hlt0
      have hlt : i < l.length := by simpa using hlt0
      have hm0 : 0 ≤ m := of_decide_eq_true h
      clear hlt0 h
      obtain ⟨x, hx⟩ := exists_at hlt
      have hsz := size_at hx
      have hss := size_sub x
      rw [drop_at hx] at hm
      simp only [laL, if_pos hm0] at hm
      rw [laN_eq] at hm
      have w0 : IntKind.i64.wrap (m - 1) = m - 1 := wrap64 (by omega)
      have w1 : IntKind.i64.wrap (d - 1) = d - 1 := wrap64 (by omega)
      refine g_idx T hC rfl rfl rfl (Int.natCast_nonneg _) (map_atS hx) rfl rfl ?_
      repeat' first
        | refine g_go T hC true 400 rfl rfl ?_
        | refine g_cond rfl (fun h => ?_) (fun h => ?_)
        | refine g_end T hC (by kernel_rfl) ?_
        | refine g_splitD (fun h => ?_) (fun h => ?_)
        | refine g_splitG rfl rfl rfl (fun h => ?_) (fun h => ?_)
        | refine g_splitP rfl rfl (fun h => ?_) (fun h => ?_)
        | refine g_reti T (.inl rfl) rfl ?_
        | refine g_outR ?_
      · rw [if_pos (of_decide_eq_true h), laL_neg (by omega)] at hm
        exact hm
      · rw [if_neg (of_decide_eq_false h)] at hm
        clear h
        rw [w0]
        have hb0 := leftL_bound x.e 65 (m - 1) (by omega)
        generalize hA : leftL x.e 65 (m - 1) = A at *
        refine g_loopU [(0, pS (stmtsP l)), (1, I d), (2, I A), (7, I i)] [] hC ?_ ?_
        · refine g_loop (fun p : Nat × Int => p.1 ≤ x.e.length ∧ -1 ≤ p.2 ∧ p.2 ≤ 1000000 ∧ leftL (x.e.drop p.1) 65 p.2 = A) (fun p => ([(0, pS (stmtsP l)), (1, I d), (2, I p.2), (7, I i), (8, I p.1)], [])) (fun p => x.e.length - p.1) hC
            (0, m - 1) ⟨Nat.zero_le _, by simp only; omega, by simp only; omega, hA⟩ id ⟨rfl, ⟨rfl, rfl, rfl, rfl, rfl, trivial⟩, trivial, rfl, fun _ _ => rfl⟩ ?_
          rintro ⟨k, q⟩ ⟨hk, hq1, hq2, hq⟩
          simp only at hk hq1 hq2 hq
          refine g_run' T hC true 1 rfl ?_
          repeat' first
            | refine g_go T hC true 400 rfl rfl ?_
            | refine g_cond rfl (fun h => ?_) (fun h => ?_)
            | refine g_end T hC (by kernel_rfl) ?_
            | refine g_splitD (fun h => ?_) (fun h => ?_)
            | refine g_splitG rfl rfl rfl (fun h => ?_) (fun h => ?_)
            | refine g_splitP rfl rfl (fun h => ?_) (fun h => ?_)
            | refine g_idx T hC rfl rfl rfl (Int.natCast_nonneg _) (map_atS hx) rfl rfl ?_
            | refine g_outE ?_
          · rename_i hlt0
            have hlt2 : k < x.e.length := by simpa using hlt0
            have hq0 : 0 ≤ q := of_decide_eq_true h
            clear hlt0 h
            obtain ⟨y, hy⟩ := exists_at hlt2
            refine g_len1 rfl 35 rfl fun hel => ?_
            rw [List.length_map] at hel
            rw [drop_at hy] at hq
            simp only [leftL, if_pos hq0] at hq
            have hb := leftS_bound y 65 q hq1
            refine g_idx T hC rfl rfl rfl (Int.natCast_nonneg _) (map_atE hy) rfl rfl ?_
            repeat' first
              | refine g_go T hC true 400 rfl rfl ?_
              | refine g_cond rfl (fun h => ?_) (fun h => ?_)
              | refine g_end T hC (by kernel_rfl) ?_
              | refine g_splitD (fun h => ?_) (fun h => ?_)
              | refine g_splitG rfl rfl rfl (fun h => ?_) (fun h => ?_)
              | refine g_splitP rfl rfl (fun h => ?_) (fun h => ?_)
              | refine g_call hC (leftE_ok y 65 q (by omega) (by omega) hq1 hq2) rfl rfl (LeSs.refl _) rfl rfl rfl ?_
            simp only
            rw [wrapS (by omega)]
            exact g_round (k + 1, leftS y 65 q) ⟨by simp only; omega, by simp only; omega, by simp only; omega, hq⟩ id (by simp only; omega) ⟨rfl, ⟨rfl, rfl, rfl, rfl, rfl, trivial⟩, trivial, rfl, fun _ _ => rfl⟩
          · have hqa : q = A := by rw [leftL_neg (Int.not_le.1 (of_decide_eq_false h))] at hq; exact hq
            subst hqa
            exact g_meetU id ⟨rfl, ⟨rfl, rfl, rfl, rfl, trivial⟩, trivial, rfl, fun _ _ => rfl⟩
          · have hge : ¬ k < x.e.length := by simpa using h
            have hqa : q = A := by rw [List.drop_eq_nil_of_le (by omega)] at hq; exact hq
            subst hqa
            exact g_meetU id ⟨rfl, ⟨rfl, rfl, rfl, rfl, trivial⟩, trivial, rfl, fun _ _ => rfl⟩
        · have key : ∀ (k : List Sm), sizeOf k < N → ∀ a : Int, -1 ≤ a → a ≤ 1000000 → 0 ≤ a → laT k (d - 1) a = laS k (d - 1) a ∧ FnOK Tryz.prog 184 [pS (stmtsP k), I (d - 1), I a] [] (I (laT k (d - 1) a)) [] := fun k hk a ha1 ha2 ha3 => by
            have e : laT k (d - 1) a = laS k (d - 1) a := by simp only [laT, if_pos ha3]
            rw [e]
            exact ⟨rfl, ih k (d - 1) a hk (by omega) (by omega) ha3 ha2⟩
          have hB := laT_bound (l := x.l) (d := d - 1) hb0.1 (fun h0 => laL_bound x.l (d - 1) A (by omega))
          have hnB : A < 0 → laT x.l (d - 1) A = A := laT_neg
          have hD := laT_bound (l := x.els) (d := d - 1) hB.1 (fun h0 => laL_bound x.els (d - 1) _ (by omega))
          have hnD : laT x.l (d - 1) A < 0 → laT x.els (d - 1) (laT x.l (d - 1) A) = laT x.l (d - 1) A := laT_neg
          have key1 := fun h3 => (key x.l (by omega) A hb0.1 (by omega) h3).2
          have key2 := fun h3 => (key x.els (by omega) _ hB.1 (by omega) h3).2
          generalize hBe : laT x.l (d - 1) A = B at *
          generalize hDe : laT x.els (d - 1) B = D at *
          refine g_go T hC true 400 rfl rfl ?_
          refine g_cutU [(0, pS (stmtsP l)), (1, I d), (2, I B), (7, I i)] [] hC ?_ ?_
          · repeat' first
              | refine g_go T hC true 400 rfl rfl ?_
              | refine g_cond rfl (fun h => ?_) (fun h => ?_)
              | refine g_end T hC (by kernel_rfl) ?_
              | refine g_splitD (fun h => ?_) (fun h => ?_)
              | refine g_splitG rfl rfl rfl (fun h => ?_) (fun h => ?_)
              | refine g_splitP rfl rfl (fun h => ?_) (fun h => ?_)
              | refine g_idx T hC rfl rfl rfl (Int.natCast_nonneg _) (map_atS hx) rfl rfl ?_
              | rw [w1]
              | refine g_call hC (key1 (of_decide_eq_true (by assumption))) rfl rfl (LeSs.refl _) rfl rfl rfl ?_
            · exact g_meetU id ⟨rfl, ⟨rfl, rfl, rfl, rfl, trivial⟩, trivial, rfl, fun _ _ => rfl⟩
            · rw [hnB (Int.not_le.1 (of_decide_eq_false h))] at *
              exact g_meetU id ⟨rfl, ⟨rfl, rfl, rfl, rfl, trivial⟩, trivial, rfl, fun _ _ => rfl⟩
          · refine g_go T hC true 400 rfl rfl ?_
            refine g_loopU [(0, pS (stmtsP l)), (1, I d), (2, I D), (7, I i)] [] hC ?_ ?_
            · repeat' first
                | refine g_go T hC true 400 rfl rfl ?_
                | refine g_cond rfl (fun h => ?_) (fun h => ?_)
                | refine g_end T hC (by kernel_rfl) ?_
                | refine g_splitD (fun h => ?_) (fun h => ?_)
                | refine g_splitG rfl rfl rfl (fun h => ?_) (fun h => ?_)
                | refine g_splitP rfl rfl (fun h => ?_) (fun h => ?_)
                | refine g_idx T hC rfl rfl rfl (Int.natCast_nonneg _) (map_atS hx) rfl rfl ?_
                | rw [w1]
                | refine g_call hC (key2 (of_decide_eq_true (by assumption))) rfl rfl (LeSs.refl _) rfl rfl rfl ?_
              · exact g_meetU id ⟨rfl, ⟨rfl, rfl, rfl, rfl, trivial⟩, trivial, rfl, fun _ _ => rfl⟩
              · rw [hnD (Int.not_le.1 (of_decide_eq_false h))]
                exact g_meetU id ⟨rfl, ⟨rfl, rfl, rfl, rfl, trivial⟩, trivial, rfl, fun _ _ => rfl⟩
            · repeat' first
                | refine g_go T hC true 400 rfl rfl ?_
                | refine g_cond rfl (fun h => ?_) (fun h => ?_)
                | refine g_end T hC (by kernel_rfl) ?_
                | refine g_splitD (fun h => ?_) (fun h => ?_)
                | refine g_splitG rfl rfl rfl (fun h => ?_) (fun h => ?_)
                | refine g_splitP rfl rfl (fun h => ?_) (fun h => ?_)
              rw [wrapS (by omega)]
              exact g_round (i + 1, D) ⟨by simp only; omega, by simp only; omega, by simp only; omega, hm⟩ id (by simp only; omega) ⟨rfl, ⟨rfl, rfl, rfl, rfl, trivial⟩, trivial, rfl, fun _ _ => rfl⟩
end Hw.Z
namespace Hw.Z
open Go Go.Proofs Hw.M

def stepF {α : Type} (bad : α → Bool) (f : α → Int → Int) : List α → Int → Int
  | [], n => n
  | x :: r, n => if 0 ≤ n then (if bad x then -1 else stepF bad f r (f x n)) else n
theorem stepF_neg {α : Type} {bad : α → Bool} {f : α → Int → Int} {l : List α} {n : Int} (h : n < 0) : stepF bad f l n = n := by
  cases l with
  | nil => rfl
  | cons e es => simp only [stepF]; rw [if_neg (by omega)]
theorem stepF_bound {α : Type} {bad : α → Bool} {f : α → Int → Int} (hf : ∀ x n, 0 ≤ n → -1 ≤ f x n ∧ f x n ≤ n) : ∀ {l : List α} {n : Int}, -1 ≤ n → -1 ≤ stepF bad f l n ∧ stepF bad f l n ≤ n
  | [], n, h => by simp only [stepF]; omega
  | x :: r, n, h => by
    simp only [stepF]
    by_cases h0 : 0 ≤ n
    · rw [if_pos h0]
      by_cases hb : bad x = true
      · rw [if_pos hb]; omega
      · rw [if_neg hb]
        have h1 := hf x n h0
        have h2 := stepF_bound (bad := bad) hf (l := r) h1.1
        omega
    · rw [if_neg h0]; omega
def long (s : Str) : Bool := decide (100 < (s.size : Int))
def tBad (t : NodeT) : Bool := long t.n || wideS t.f
def pBad (p : Pr) : Bool := long p.n || long p.res || wideS p.params || wideS p.locs
def mBad (m : Ms) : Bool := long m.n || long m.t
def iBad (m : Iv) : Bool := long m.n || long m.t
def oBad (m : Pt) : Bool := long m.t
def bBad (m : Bd) : Bool := long m.p
def pF (p : Pr) (n : Int) : Int := laS p.body 65 n
def mF (m : Ms) (n : Int) : Int := leftS m.x 65 n
def iF (m : Iv) (n : Int) : Int := leftS m.x 65 n
def oF (m : Pt) (n : Int) : Int := leftS m.x 65 n
def bF (m : Bd) (n : Int) : Int := leftS m.x 65 n
theorem pF_b (x : Pr) (n : Int) (h : 0 ≤ n) : -1 ≤ pF x n ∧ pF x n ≤ n := laS_bound h
theorem mF_b (x : Ms) (n : Int) (h : 0 ≤ n) : -1 ≤ mF x n ∧ mF x n ≤ n := leftS_bound _ _ _ (by omega)
theorem iF_b (x : Iv) (n : Int) (h : 0 ≤ n) : -1 ≤ iF x n ∧ iF x n ≤ n := leftS_bound _ _ _ (by omega)
theorem oF_b (x : Pt) (n : Int) (h : 0 ≤ n) : -1 ≤ oF x n ∧ oF x n ≤ n := leftS_bound _ _ _ (by omega)
theorem bF_b (x : Bd) (n : Int) (h : 0 ≤ n) : -1 ≤ bF x n ∧ bF x n ≤ n := leftS_bound _ _ _ (by omega)
def st1 (d : Desc) (n : Int) : Int := stepF pBad pF d.procs n
def st2 (d : Desc) (n : Int) : Int := stepF mBad mF d.measures (st1 d n)
def st3 (d : Desc) (n : Int) : Int := stepF iBad iF d.invs (st2 d n)
def st4 (d : Desc) (n : Int) : Int := stepF oBad oF d.pots (st3 d n)
def st5 (d : Desc) (n : Int) : Int := stepF bBad bF d.bounds (st4 d n)
def overPre (d : Desc) : Bool := long d.n || decide (60 < (d.types.length : Int)) || decide (60 < (d.procs.length : Int)) || decide (60 < (d.measures.length : Int)) || decide (60 < (d.invs.length : Int)) ||
  decide (60 < (d.pots.length : Int)) || decide (60 < (d.bounds.length : Int)) || wideS d.globals
def overS (d : Desc) (n : Int) : Bool := overPre d || !(d.types.all fun t => !tBad t) || decide (st5 d n < 0)
theorem over_ok (d : Desc) (n : Int) (hn1 : 0 ≤ n) (hn2 : n ≤ 1000000) : FnOK Tryz.prog 128 [aggS (descR d), I n] [] (.bq (overS d n)) [] := by
  refine fn_ok T Tryz.func128 (by kernel_rfl) rfl rfl rfl rfl fun C hC => ?_
  repeat' first
    | refine g_go T hC true 400 rfl rfl ?_
    | refine g_cond rfl (fun h => ?_) (fun h => ?_)
    | refine g_end T hC (by kernel_rfl) ?_
    | refine g_splitD (fun h => ?_) (fun h => ?_)
    | refine g_splitG rfl rfl rfl (fun h => ?_) (fun h => ?_)
    | refine g_splitP rfl rfl (fun h => ?_) (fun h => ?_)
    | refine g_call hC (wide_ok _) rfl rfl (LeSs.refl _) rfl rfl rfl ?_
    | refine g_retl T (.inl rfl) rfl ?_
  all_goals (try simp only [List.length_map] at *)
  rotate_right
  · rename_i h1 h2 h3 h4 h5 h6 h7
    have hpre : overPre d = false := by simp_all [overPre, long]
    have hv : overS d n = (!(d.types.all fun t => !tBad t) || decide (st5 d n < 0)) := by simp only [overS, hpre, Bool.false_or]
    rw [hv]
    have l1 : ¬ 60 < (d.types.length : Int) := of_decide_eq_false (by assumption)
    have l2 : ¬ 60 < (d.procs.length : Int) := of_decide_eq_false (by assumption)
    have l3 : ¬ 60 < (d.measures.length : Int) := of_decide_eq_false (by assumption)
    have l4 : ¬ 60 < (d.invs.length : Int) := of_decide_eq_false (by assumption)
    have l5 : ¬ 60 < (d.pots.length : Int) := of_decide_eq_false (by assumption)
    have l6 : ¬ 60 < (d.bounds.length : Int) := of_decide_eq_false (by assumption)
    clear h h1 h2 h3 h4 h5 h6 h7 hpre hv
    repeat' first
      | refine g_go T hC true 400 rfl rfl ?_
      | refine g_cond rfl (fun h => ?_) (fun h => ?_)
      | refine g_end T hC (by kernel_rfl) ?_
      | refine g_splitD (fun h => ?_) (fun h => ?_)
      | refine g_splitG rfl rfl rfl (fun h => ?_) (fun h => ?_)
      | refine g_splitP rfl rfl (fun h => ?_) (fun h => ?_)
    refine g_loop (fun i : Nat => i ≤ (d.types).length ∧ ((d.types).take i).all (fun t => !tBad t) = true) (fun i => ([(1, I n), (2, .one (.bx 1002 0)), (5, I i)], [(1002, some (.box ((descR d).map V.p)))])) (fun i => (d.types).length - i) hC
      0 ⟨Nat.zero_le _, by simp⟩ id ⟨rfl, ⟨rfl, rfl, rfl, trivial⟩, ⟨rfl, trivial⟩, rfl, fun _ _ => rfl⟩ ?_
    rintro i ⟨hi, hn⟩
    refine g_run' T hC true 200 rfl ?_
    refine g_cond rfl (fun h => ?_) (fun h => ?_)
    · have hlt : i < (d.types).length := by first | simpa using h | (have h' := of_decide_eq_true h; simp only [List.length_map, List.length_zip] at h' ⊢; omega)
      clear h
      obtain ⟨x, hx⟩ := exists_at hlt
      repeat' first
        | refine g_go T hC true 400 rfl rfl ?_
        | refine g_cond rfl (fun h => ?_) (fun h => ?_)
        | refine g_end T hC (by kernel_rfl) ?_
        | refine g_splitD (fun h => ?_) (fun h => ?_)
        | refine g_splitG rfl rfl rfl (fun h => ?_) (fun h => ?_)
        | refine g_splitP rfl rfl (fun h => ?_) (fun h => ?_)
        | refine g_idx T hC rfl rfl rfl (Int.natCast_nonneg _) (map_at (by assumption)) rfl rfl ?_
        | refine g_call hC (wide_ok _) rfl rfl (LeSs.refl _) rfl rfl rfl ?_
        | refine g_outR ?_
        | refine g_retl T (.inl rfl) rfl ?_
      all_goals first
        | (have hp : (fun t => !tBad t) x = true := by clear hn hx hlt hi; simp_all [tBad, long, -List.all_eq_true, -List.all_eq_false] <;> omega
           have hlt' := hlt
           try simp only [List.length_zip, List.length_zipIdx] at hlt'
           rw [wrap64 (by omega)]
           refine g_round (i + 1) ⟨by omega, ?_⟩ id (by omega) ⟨rfl, ⟨rfl, rfl, rfl, trivial⟩, ⟨rfl, trivial⟩, rfl, fun _ _ => rfl⟩
           rw [all_take (p := fun t => !tBad t) hx, hn, Bool.true_and]; exact hp)
        | (have hp : (fun t => !tBad t) x = false := by clear hn hx hlt hi; simp_all [tBad, long, -List.all_eq_true, -List.all_eq_false] <;> omega
           have hno := all_no (p := fun t => !tBad t) hx hp
           rw [hno]; rfl)
    have hge : ¬ i < (d.types).length := by first | simpa using h | (have h' := of_decide_eq_false h; simp only [List.length_map, List.length_zip] at h' ⊢; omega)
    have hall : (d.types).all (fun t => !tBad t) = true := all_end (p := fun t => !tBad t) (by omega) hn
    clear h hge hn hi
    rw [hall, Bool.not_true, Bool.false_or]
    repeat' first
      | refine g_go T hC true 400 rfl rfl ?_
      | refine g_cond rfl (fun h => ?_) (fun h => ?_)
      | refine g_end T hC (by kernel_rfl) ?_
      | refine g_splitD (fun h => ?_) (fun h => ?_)
      | refine g_splitG rfl rfl rfl (fun h => ?_) (fun h => ?_)
      | refine g_splitP rfl rfl (fun h => ?_) (fun h => ?_)
      | refine g_outE ?_
    have c1 : -1 ≤ st1 d n ∧ st1 d n ≤ n := stepF_bound pF_b (by omega)
    have c2 : -1 ≤ st2 d n ∧ st2 d n ≤ st1 d n := stepF_bound mF_b (by omega)
    have c3 : -1 ≤ st3 d n ∧ st3 d n ≤ st2 d n := stepF_bound iF_b (by omega)
    have c4 : -1 ≤ st4 d n ∧ st4 d n ≤ st3 d n := stepF_bound oF_b (by omega)
    have c5 : -1 ≤ st5 d n ∧ st5 d n ≤ st4 d n := stepF_bound bF_b (by omega)
    have e1 : stepF pBad pF d.procs n = st1 d n := rfl
    have e2 : stepF mBad mF d.measures (st1 d n) = st2 d n := rfl
    have e3 : stepF iBad iF d.invs (st2 d n) = st3 d n := rfl
    have e4 : stepF oBad oF d.pots (st3 d n) = st4 d n := rfl
    have e5 : stepF bBad bF d.bounds (st4 d n) = st5 d n := rfl
    generalize st1 d n = A1 at *
    generalize st2 d n = A2 at *
    generalize st3 d n = A3 at *
    generalize st4 d n = A4 at *
    generalize st5 d n = A5 at *
    clear hall
    refine g_loopU [(1, I A1), (2, .one (.bx 1002 0))] [(1002, some (.box ((descR d).map V.p)))] hC ?_ ?_
    · refine g_loop (fun p : Nat × Int => p.1 ≤ (d.procs).length ∧ -1 ≤ p.2 ∧ p.2 ≤ 1000000 ∧ stepF pBad pF ((d.procs).drop p.1) p.2 = A1) (fun p => ([(1, I p.2), (2, .one (.bx 1002 0)), (6, I p.1)], [(1002, some (.box ((descR d).map V.p)))])) (fun p => (d.procs).length - p.1) hC
        (0, n) ⟨Nat.zero_le _, by simp only; omega, by simp only; omega, e1⟩ id ⟨rfl, ⟨rfl, rfl, rfl, trivial⟩, ⟨rfl, trivial⟩, rfl, fun _ _ => rfl⟩ ?_
      rintro ⟨k, q⟩ ⟨hk, hq1, hq2, hq⟩
      simp only at hk hq1 hq2 hq
      refine g_run' T hC true 1 rfl ?_
      repeat' first
        | refine g_go T hC true 400 rfl rfl ?_
        | refine g_cond rfl (fun h => ?_) (fun h => ?_)
        | refine g_end T hC (by kernel_rfl) ?_
        | refine g_splitD (fun h => ?_) (fun h => ?_)
        | refine g_splitG rfl rfl rfl (fun h => ?_) (fun h => ?_)
        | refine g_splitP rfl rfl (fun h => ?_) (fun h => ?_)
        | refine g_outE ?_
      · rename_i hlt0
        have hlt2 : k < (d.procs).length := by simpa using hlt0
        have hq0 : 0 ≤ q := of_decide_eq_true h
        clear hlt0 h
        obtain ⟨x, hx⟩ := exists_at hlt2
        rw [drop_at hx] at hq
        simp only [stepF, if_pos hq0] at hq
        have hb := pF_b x q hq0
        repeat' first
          | refine g_go T hC true 400 rfl rfl ?_
          | refine g_cond rfl (fun h => ?_) (fun h => ?_)
          | refine g_end T hC (by kernel_rfl) ?_
          | refine g_splitD (fun h => ?_) (fun h => ?_)
          | refine g_splitG rfl rfl rfl (fun h => ?_) (fun h => ?_)
          | refine g_splitP rfl rfl (fun h => ?_) (fun h => ?_)
          | refine g_idx T hC rfl rfl rfl (Int.natCast_nonneg _) (map_at (by assumption)) rfl rfl ?_
          | refine g_call hC (wide_ok _) rfl rfl (LeSs.refl _) rfl rfl rfl ?_
          | refine g_call hC (leftAll_ok (sizeOf x.body + 1) x.body 65 q (by omega) (by omega) (by omega) hq0 hq2) rfl rfl (LeSs.refl _) rfl rfl rfl ?_
          | refine g_cutUR ?_
          | refine g_retl T (.inl rfl) rfl ?_
          | refine g_outR ?_
        all_goals first
          | (have hbad : pBad x = true := by clear hq; simp_all [pBad, long]
             rw [if_pos hbad] at hq
             exact (decide_eq_true (by omega)).symm)
          | (have hbad : pBad x = false := by clear hq; simp_all [pBad, long]
             rw [hbad] at hq
             simp only [Bool.false_eq_true, if_false] at hq
             simp only
             rw [wrapS (by omega)]
             exact g_round (k + 1, pF x q) ⟨by simp only; omega, by simp only; omega, by simp only; omega, hq⟩ id (by simp only; omega) ⟨rfl, ⟨rfl, rfl, rfl, trivial⟩, ⟨rfl, trivial⟩, rfl, fun _ _ => rfl⟩)
      · have hqa : q = A1 := by rw [stepF_neg (Int.not_le.1 (of_decide_eq_false h))] at hq; exact hq
        subst hqa
        exact g_meetU id ⟨rfl, ⟨rfl, rfl, trivial⟩, ⟨rfl, trivial⟩, rfl, fun _ _ => rfl⟩
      · have hge : ¬ k < (d.procs).length := by simpa using h
        have hqa : q = A1 := by rw [List.drop_eq_nil_of_le (by omega)] at hq; exact hq
        subst hqa
        exact g_meetU id ⟨rfl, ⟨rfl, rfl, trivial⟩, ⟨rfl, trivial⟩, rfl, fun _ _ => rfl⟩
    repeat' first
      | refine g_go T hC true 400 rfl rfl ?_
      | refine g_cond rfl (fun h => ?_) (fun h => ?_)
      | refine g_end T hC (by kernel_rfl) ?_
      | refine g_splitD (fun h => ?_) (fun h => ?_)
      | refine g_splitG rfl rfl rfl (fun h => ?_) (fun h => ?_)
      | refine g_splitP rfl rfl (fun h => ?_) (fun h => ?_)
    refine g_loopU [(1, I A2), (2, .one (.bx 1002 0))] [(1002, some (.box ((descR d).map V.p)))] hC ?_ ?_
    · refine g_loop (fun p : Nat × Int => p.1 ≤ (d.measures).length ∧ -1 ≤ p.2 ∧ p.2 ≤ 1000000 ∧ stepF mBad mF ((d.measures).drop p.1) p.2 = A2) (fun p => ([(1, I p.2), (2, .one (.bx 1002 0)), (8, I p.1)], [(1002, some (.box ((descR d).map V.p)))])) (fun p => (d.measures).length - p.1) hC
        (0, A1) ⟨Nat.zero_le _, by simp only; omega, by simp only; omega, e2⟩ id ⟨rfl, ⟨rfl, rfl, rfl, trivial⟩, ⟨rfl, trivial⟩, rfl, fun _ _ => rfl⟩ ?_
      rintro ⟨k, q⟩ ⟨hk, hq1, hq2, hq⟩
      simp only at hk hq1 hq2 hq
      refine g_run' T hC true 1 rfl ?_
      repeat' first
        | refine g_go T hC true 400 rfl rfl ?_
        | refine g_cond rfl (fun h => ?_) (fun h => ?_)
        | refine g_end T hC (by kernel_rfl) ?_
        | refine g_splitD (fun h => ?_) (fun h => ?_)
        | refine g_splitG rfl rfl rfl (fun h => ?_) (fun h => ?_)
        | refine g_splitP rfl rfl (fun h => ?_) (fun h => ?_)
        | refine g_outE ?_
      · rename_i hlt0
        have hlt2 : k < (d.measures).length := by simpa using hlt0
        have hq0 : 0 ≤ q := of_decide_eq_true h
        clear hlt0 h
        obtain ⟨x, hx⟩ := exists_at hlt2
        rw [drop_at hx] at hq
        simp only [stepF, if_pos hq0] at hq
        have hb := mF_b x q hq0
        repeat' first
          | refine g_go T hC true 400 rfl rfl ?_
          | refine g_cond rfl (fun h => ?_) (fun h => ?_)
          | refine g_end T hC (by kernel_rfl) ?_
          | refine g_splitD (fun h => ?_) (fun h => ?_)
          | refine g_splitG rfl rfl rfl (fun h => ?_) (fun h => ?_)
          | refine g_splitP rfl rfl (fun h => ?_) (fun h => ?_)
          | refine g_idx T hC rfl rfl rfl (Int.natCast_nonneg _) (map_at (by assumption)) rfl rfl ?_
          | refine g_call hC (leftE_ok x.x 65 q (by omega) (by omega) hq1 hq2) rfl rfl (LeSs.refl _) rfl rfl rfl ?_
          | refine g_cutUR ?_
          | refine g_retl T (.inl rfl) rfl ?_
          | refine g_outR ?_
        all_goals first
          | (have hbad : mBad x = true := by clear hq; simp_all [mBad, long]
             rw [if_pos hbad] at hq
             exact (decide_eq_true (by omega)).symm)
          | (have hbad : mBad x = false := by clear hq; simp_all [mBad, long]
             rw [hbad] at hq
             simp only [Bool.false_eq_true, if_false] at hq
             simp only
             rw [wrapS (by omega)]
             exact g_round (k + 1, mF x q) ⟨by simp only; omega, by simp only; omega, by simp only; omega, hq⟩ id (by simp only; omega) ⟨rfl, ⟨rfl, rfl, rfl, trivial⟩, ⟨rfl, trivial⟩, rfl, fun _ _ => rfl⟩)
      · have hqa : q = A2 := by rw [stepF_neg (Int.not_le.1 (of_decide_eq_false h))] at hq; exact hq
        subst hqa
        exact g_meetU id ⟨rfl, ⟨rfl, rfl, trivial⟩, ⟨rfl, trivial⟩, rfl, fun _ _ => rfl⟩
      · have hge : ¬ k < (d.measures).length := by simpa using h
        have hqa : q = A2 := by rw [List.drop_eq_nil_of_le (by omega)] at hq; exact hq
        subst hqa
        exact g_meetU id ⟨rfl, ⟨rfl, rfl, trivial⟩, ⟨rfl, trivial⟩, rfl, fun _ _ => rfl⟩
    repeat' first
      | refine g_go T hC true 400 rfl rfl ?_
      | refine g_cond rfl (fun h => ?_) (fun h => ?_)
      | refine g_end T hC (by kernel_rfl) ?_
      | refine g_splitD (fun h => ?_) (fun h => ?_)
      | refine g_splitG rfl rfl rfl (fun h => ?_) (fun h => ?_)
      | refine g_splitP rfl rfl (fun h => ?_) (fun h => ?_)
    refine g_loopU [(1, I A3), (2, .one (.bx 1002 0))] [(1002, some (.box ((descR d).map V.p)))] hC ?_ ?_
    · refine g_loop (fun p : Nat × Int => p.1 ≤ (d.invs).length ∧ -1 ≤ p.2 ∧ p.2 ≤ 1000000 ∧ stepF iBad iF ((d.invs).drop p.1) p.2 = A3) (fun p => ([(1, I p.2), (2, .one (.bx 1002 0)), (9, I p.1)], [(1002, some (.box ((descR d).map V.p)))])) (fun p => (d.invs).length - p.1) hC
        (0, A2) ⟨Nat.zero_le _, by simp only; omega, by simp only; omega, e3⟩ id ⟨rfl, ⟨rfl, rfl, rfl, trivial⟩, ⟨rfl, trivial⟩, rfl, fun _ _ => rfl⟩ ?_
      rintro ⟨k, q⟩ ⟨hk, hq1, hq2, hq⟩
      simp only at hk hq1 hq2 hq
      refine g_run' T hC true 1 rfl ?_
      repeat' first
        | refine g_go T hC true 400 rfl rfl ?_
        | refine g_cond rfl (fun h => ?_) (fun h => ?_)
        | refine g_end T hC (by kernel_rfl) ?_
        | refine g_splitD (fun h => ?_) (fun h => ?_)
        | refine g_splitG rfl rfl rfl (fun h => ?_) (fun h => ?_)
        | refine g_splitP rfl rfl (fun h => ?_) (fun h => ?_)
        | refine g_outE ?_
      · rename_i hlt0
        have hlt2 : k < (d.invs).length := by simpa using hlt0
        have hq0 : 0 ≤ q := of_decide_eq_true h
        clear hlt0 h
        obtain ⟨x, hx⟩ := exists_at hlt2
        rw [drop_at hx] at hq
        simp only [stepF, if_pos hq0] at hq
        have hb := iF_b x q hq0
        repeat' first
          | refine g_go T hC true 400 rfl rfl ?_
          | refine g_cond rfl (fun h => ?_) (fun h => ?_)
          | refine g_end T hC (by kernel_rfl) ?_
          | refine g_splitD (fun h => ?_) (fun h => ?_)
          | refine g_splitG rfl rfl rfl (fun h => ?_) (fun h => ?_)
          | refine g_splitP rfl rfl (fun h => ?_) (fun h => ?_)
          | refine g_idx T hC rfl rfl rfl (Int.natCast_nonneg _) (map_at (by assumption)) rfl rfl ?_
          | refine g_call hC (leftE_ok x.x 65 q (by omega) (by omega) hq1 hq2) rfl rfl (LeSs.refl _) rfl rfl rfl ?_
          | refine g_cutUR ?_
          | refine g_retl T (.inl rfl) rfl ?_
          | refine g_outR ?_
        all_goals first
          | (have hbad : iBad x = true := by clear hq; simp_all [iBad, long]
             rw [if_pos hbad] at hq
             exact (decide_eq_true (by omega)).symm)
          | (have hbad : iBad x = false := by clear hq; simp_all [iBad, long]
             rw [hbad] at hq
             simp only [Bool.false_eq_true, if_false] at hq
             simp only
             rw [wrapS (by omega)]
             exact g_round (k + 1, iF x q) ⟨by simp only; omega, by simp only; omega, by simp only; omega, hq⟩ id (by simp only; omega) ⟨rfl, ⟨rfl, rfl, rfl, trivial⟩, ⟨rfl, trivial⟩, rfl, fun _ _ => rfl⟩)
      · have hqa : q = A3 := by rw [stepF_neg (Int.not_le.1 (of_decide_eq_false h))] at hq; exact hq
        subst hqa
        exact g_meetU id ⟨rfl, ⟨rfl, rfl, trivial⟩, ⟨rfl, trivial⟩, rfl, fun _ _ => rfl⟩
      · have hge : ¬ k < (d.invs).length := by simpa using h
        have hqa : q = A3 := by rw [List.drop_eq_nil_of_le (by omega)] at hq; exact hq
        subst hqa
        exact g_meetU id ⟨rfl, ⟨rfl, rfl, trivial⟩, ⟨rfl, trivial⟩, rfl, fun _ _ => rfl⟩
    repeat' first
      | refine g_go T hC true 400 rfl rfl ?_
      | refine g_cond rfl (fun h => ?_) (fun h => ?_)
      | refine g_end T hC (by kernel_rfl) ?_
      | refine g_splitD (fun h => ?_) (fun h => ?_)
      | refine g_splitG rfl rfl rfl (fun h => ?_) (fun h => ?_)
      | refine g_splitP rfl rfl (fun h => ?_) (fun h => ?_)
    refine g_loopU [(1, I A4), (2, .one (.bx 1002 0))] [(1002, some (.box ((descR d).map V.p)))] hC ?_ ?_
    · refine g_loop (fun p : Nat × Int => p.1 ≤ (d.pots).length ∧ -1 ≤ p.2 ∧ p.2 ≤ 1000000 ∧ stepF oBad oF ((d.pots).drop p.1) p.2 = A4) (fun p => ([(1, I p.2), (2, .one (.bx 1002 0)), (10, I p.1)], [(1002, some (.box ((descR d).map V.p)))])) (fun p => (d.pots).length - p.1) hC
        (0, A3) ⟨Nat.zero_le _, by simp only; omega, by simp only; omega, e4⟩ id ⟨rfl, ⟨rfl, rfl, rfl, trivial⟩, ⟨rfl, trivial⟩, rfl, fun _ _ => rfl⟩ ?_
      rintro ⟨k, q⟩ ⟨hk, hq1, hq2, hq⟩
      simp only at hk hq1 hq2 hq
      refine g_run' T hC true 1 rfl ?_
      repeat' first
        | refine g_go T hC true 400 rfl rfl ?_
        | refine g_cond rfl (fun h => ?_) (fun h => ?_)
        | refine g_end T hC (by kernel_rfl) ?_
        | refine g_splitD (fun h => ?_) (fun h => ?_)
        | refine g_splitG rfl rfl rfl (fun h => ?_) (fun h => ?_)
        | refine g_splitP rfl rfl (fun h => ?_) (fun h => ?_)
        | refine g_outE ?_
      · rename_i hlt0
        have hlt2 : k < (d.pots).length := by simpa using hlt0
        have hq0 : 0 ≤ q := of_decide_eq_true h
        clear hlt0 h
        obtain ⟨x, hx⟩ := exists_at hlt2
        rw [drop_at hx] at hq
        simp only [stepF, if_pos hq0] at hq
        have hb := oF_b x q hq0
        repeat' first
          | refine g_go T hC true 400 rfl rfl ?_
          | refine g_cond rfl (fun h => ?_) (fun h => ?_)
          | refine g_end T hC (by kernel_rfl) ?_
          | refine g_splitD (fun h => ?_) (fun h => ?_)
          | refine g_splitG rfl rfl rfl (fun h => ?_) (fun h => ?_)
          | refine g_splitP rfl rfl (fun h => ?_) (fun h => ?_)
          | refine g_idx T hC rfl rfl rfl (Int.natCast_nonneg _) (map_at (by assumption)) rfl rfl ?_
          | refine g_call hC (leftE_ok x.x 65 q (by omega) (by omega) hq1 hq2) rfl rfl (LeSs.refl _) rfl rfl rfl ?_
          | refine g_cutUR ?_
          | refine g_retl T (.inl rfl) rfl ?_
          | refine g_outR ?_
        all_goals first
          | (have hbad : oBad x = true := by clear hq; simp_all [oBad, long]
             rw [if_pos hbad] at hq
             exact (decide_eq_true (by omega)).symm)
          | (have hbad : oBad x = false := by clear hq; simp_all [oBad, long]
             rw [hbad] at hq
             simp only [Bool.false_eq_true, if_false] at hq
             simp only
             rw [wrapS (by omega)]
             exact g_round (k + 1, oF x q) ⟨by simp only; omega, by simp only; omega, by simp only; omega, hq⟩ id (by simp only; omega) ⟨rfl, ⟨rfl, rfl, rfl, trivial⟩, ⟨rfl, trivial⟩, rfl, fun _ _ => rfl⟩)
      · have hqa : q = A4 := by rw [stepF_neg (Int.not_le.1 (of_decide_eq_false h))] at hq; exact hq
        subst hqa
        exact g_meetU id ⟨rfl, ⟨rfl, rfl, trivial⟩, ⟨rfl, trivial⟩, rfl, fun _ _ => rfl⟩
      · have hge : ¬ k < (d.pots).length := by simpa using h
        have hqa : q = A4 := by rw [List.drop_eq_nil_of_le (by omega)] at hq; exact hq
        subst hqa
        exact g_meetU id ⟨rfl, ⟨rfl, rfl, trivial⟩, ⟨rfl, trivial⟩, rfl, fun _ _ => rfl⟩
    repeat' first
      | refine g_go T hC true 400 rfl rfl ?_
      | refine g_cond rfl (fun h => ?_) (fun h => ?_)
      | refine g_end T hC (by kernel_rfl) ?_
      | refine g_splitD (fun h => ?_) (fun h => ?_)
      | refine g_splitG rfl rfl rfl (fun h => ?_) (fun h => ?_)
      | refine g_splitP rfl rfl (fun h => ?_) (fun h => ?_)
    refine g_loopU [(1, I A5), (2, .one (.bx 1002 0))] [(1002, some (.box ((descR d).map V.p)))] hC ?_ ?_
    · refine g_loop (fun p : Nat × Int => p.1 ≤ (d.bounds).length ∧ -1 ≤ p.2 ∧ p.2 ≤ 1000000 ∧ stepF bBad bF ((d.bounds).drop p.1) p.2 = A5) (fun p => ([(1, I p.2), (2, .one (.bx 1002 0)), (11, I p.1)], [(1002, some (.box ((descR d).map V.p)))])) (fun p => (d.bounds).length - p.1) hC
        (0, A4) ⟨Nat.zero_le _, by simp only; omega, by simp only; omega, e5⟩ id ⟨rfl, ⟨rfl, rfl, rfl, trivial⟩, ⟨rfl, trivial⟩, rfl, fun _ _ => rfl⟩ ?_
      rintro ⟨k, q⟩ ⟨hk, hq1, hq2, hq⟩
      simp only at hk hq1 hq2 hq
      refine g_run' T hC true 1 rfl ?_
      repeat' first
        | refine g_go T hC true 400 rfl rfl ?_
        | refine g_cond rfl (fun h => ?_) (fun h => ?_)
        | refine g_end T hC (by kernel_rfl) ?_
        | refine g_splitD (fun h => ?_) (fun h => ?_)
        | refine g_splitG rfl rfl rfl (fun h => ?_) (fun h => ?_)
        | refine g_splitP rfl rfl (fun h => ?_) (fun h => ?_)
        | refine g_outE ?_
      · rename_i hlt0
        have hlt2 : k < (d.bounds).length := by simpa using hlt0
        have hq0 : 0 ≤ q := of_decide_eq_true h
        clear hlt0 h
        obtain ⟨x, hx⟩ := exists_at hlt2
        rw [drop_at hx] at hq
        simp only [stepF, if_pos hq0] at hq
        have hb := bF_b x q hq0
        repeat' first
          | refine g_go T hC true 400 rfl rfl ?_
          | refine g_cond rfl (fun h => ?_) (fun h => ?_)
          | refine g_end T hC (by kernel_rfl) ?_
          | refine g_splitD (fun h => ?_) (fun h => ?_)
          | refine g_splitG rfl rfl rfl (fun h => ?_) (fun h => ?_)
          | refine g_splitP rfl rfl (fun h => ?_) (fun h => ?_)
          | refine g_idx T hC rfl rfl rfl (Int.natCast_nonneg _) (map_at (by assumption)) rfl rfl ?_
          | refine g_call hC (leftE_ok x.x 65 q (by omega) (by omega) hq1 hq2) rfl rfl (LeSs.refl _) rfl rfl rfl ?_
          | refine g_cutUR ?_
          | refine g_retl T (.inl rfl) rfl ?_
          | refine g_outR ?_
        all_goals first
          | (have hbad : bBad x = true := by clear hq; simp_all [bBad, long]
             rw [if_pos hbad] at hq
             exact (decide_eq_true (by omega)).symm)
          | (have hbad : bBad x = false := by clear hq; simp_all [bBad, long]
             rw [hbad] at hq
             simp only [Bool.false_eq_true, if_false] at hq
             simp only
             rw [wrapS (by omega)]
             exact g_round (k + 1, bF x q) ⟨by simp only; omega, by simp only; omega, by simp only; omega, hq⟩ id (by simp only; omega) ⟨rfl, ⟨rfl, rfl, rfl, trivial⟩, ⟨rfl, trivial⟩, rfl, fun _ _ => rfl⟩)
      · have hqa : q = A5 := by rw [stepF_neg (Int.not_le.1 (of_decide_eq_false h))] at hq; exact hq
        subst hqa
        exact g_meetU id ⟨rfl, ⟨rfl, rfl, trivial⟩, ⟨rfl, trivial⟩, rfl, fun _ _ => rfl⟩
      · have hge : ¬ k < (d.bounds).length := by simpa using h
        have hqa : q = A5 := by rw [List.drop_eq_nil_of_le (by omega)] at hq; exact hq
        subst hqa
        exact g_meetU id ⟨rfl, ⟨rfl, rfl, trivial⟩, ⟨rfl, trivial⟩, rfl, fun _ _ => rfl⟩
    repeat' first
      | refine g_go T hC true 400 rfl rfl ?_
      | refine g_cond rfl (fun h => ?_) (fun h => ?_)
      | refine g_end T hC (by kernel_rfl) ?_
      | refine g_splitD (fun h => ?_) (fun h => ?_)
      | refine g_splitG rfl rfl rfl (fun h => ?_) (fun h => ?_)
      | refine g_splitP rfl rfl (fun h => ?_) (fun h => ?_)
    refine g_retq T (.inl rfl) rfl ?_
    rfl
  all_goals (simp_all [overS, overPre, long])
def greatS (d : Desc) : Bool := overS d 2000
theorem great_ok (d : Desc) : FnOK Tryz.prog 63 [aggS (descR d)] [] (.bq (greatS d)) [] := by
  refine fn_ok T Tryz.func63 (by kernel_rfl) rfl rfl rfl rfl fun C hC => ?_
  repeat' first
    | refine g_go T hC true 400 rfl rfl ?_
    | refine g_cond rfl (fun h => ?_) (fun h => ?_)
    | refine g_end T hC (by kernel_rfl) ?_
    | refine g_splitD (fun h => ?_) (fun h => ?_)
    | refine g_splitG rfl rfl rfl (fun h => ?_) (fun h => ?_)
    | refine g_splitP rfl rfl (fun h => ?_) (fun h => ?_)
    | refine g_call hC (over_ok d 2000 (by omega) (by omega)) rfl rfl (LeSs.refl _) rfl rfl rfl ?_
    | refine g_retq T (.inl rfl) rfl ?_
  rfl
end Hw.Z
