/- The engine and the contracts. -/
import Derived.Test.YtmnhegkogibipaaDoorC10
set_option linter.unusedVariables false
set_option linter.unusedSimpArgs false
namespace Hw.D
open Go Go.Proofs Hw.M

def sameT (a b : NodeT) : Bool := decide (a.n = b.n) && eqL sameF a.f b.f
def sameP (a b : Pr) : Bool := decide (a.n = b.n) && decide (a.res = b.res) && eqL sameF a.params b.params && eqL sameF a.locs b.locs && eqL sameS a.body b.body
def sameM (a b : Ms) : Bool := decide (a.n = b.n) && decide (a.t = b.t) && decide (a.z = b.z) && sameE a.x b.x
def sameI (a b : Iv) : Bool := decide (a.n = b.n) && decide (a.t = b.t) && sameE a.x b.x
def sameO (a b : Pt) : Bool := decide (a.t = b.t) && sameE a.x b.x
def sameB (a b : Bd) : Bool := decide (a.p = b.p) && sameE a.x b.x
def sameD (a b : Desc) : Bool := decide (a.n = b.n) && eqL sameF a.globals b.globals && eqL sameT a.types b.types && eqL sameP a.procs b.procs && eqL sameM a.measures b.measures && eqL sameI a.invs b.invs && eqL sameO a.pots b.pots && eqL sameB a.bounds b.bounds
theorem eqNT_ok (f : FuncId) (p : NodeT → NodeT → Bool) (a b : List NodeT) (hf : ∀ x ∈ a, ∀ y ∈ b, FnOK Tryd.prog f [aggS (nodeTR x), aggS (nodeTR y)] [] (.bq (p x y)) []) :
    FnOK Tryd.prog 34 [pS (.sl 2 (a.map nodeTR)), pS (.sl 2 (b.map nodeTR)), .one (.cl f [] [])] [] (.bq (eqL p a b)) [] := by
  refine fn_ok T Tryd.func34 (by kernel_rfl) rfl rfl rfl rfl fun C hC => ?_
  refine g_len 0 rfl fun hlen => ?_
  rw [List.length_map] at hlen
  repeat' first
    | refine g_go T hC true 400 rfl rfl ?_
    | refine g_cond rfl (fun h => ?_) (fun h => ?_)
    | refine g_end T hC (by kernel_rfl) ?_
    | refine g_splitD (fun h => ?_) (fun h => ?_)
    | refine g_splitG rfl rfl rfl (fun h => ?_) (fun h => ?_)
    | refine g_splitP rfl rfl (fun h => ?_) (fun h => ?_)
    | refine g_retl T (.inl rfl) rfl ?_
  all_goals (try simp only [List.length_map] at *)
  · have : ¬ (a.length : Int) = (b.length : Int) := by simpa using h
    exact (eqL_len fun e => this (by rw [e])).symm
  · have hab : a.length = b.length := by have : (a.length : Int) = (b.length : Int) := by simpa using h
                                         omega
    refine g_loop (fun i : Nat => i ≤ a.length ∧ eqL p (a.drop i) (b.drop i) = eqL p a b) (fun i => ([(1, pS (.sl 2 (b.map nodeTR))), (2, .one (.cl f [] [])), (15, pS (.sl 2 (a.map nodeTR))), (16, I a.length), (17, I i)], [])) (fun i => a.length - i) hC
      0 ⟨Nat.zero_le _, rfl⟩ id ⟨rfl, ⟨rfl, rfl, rfl, rfl, rfl, trivial⟩, trivial, rfl, fun _ _ => rfl⟩ ?_
    rintro i ⟨hi, hn⟩
    refine g_run' T hC true 200 rfl ?_
    refine g_cond rfl (fun h => ?_) (fun h => ?_)
    · have hlt : i < a.length := by have := of_decide_eq_true h; omega
      clear h
      obtain ⟨x, hx⟩ := exists_at hlt
      obtain ⟨y, hy⟩ := exists_at (hab ▸ hlt)
      have hS := hf x (List.mem_of_getElem? hx) y (List.mem_of_getElem? hy)
      rw [drop_at hx, drop_at hy, eqL] at hn
      repeat' first
        | refine g_go T hC true 400 rfl rfl ?_
        | refine g_cond rfl (fun h => ?_) (fun h => ?_)
        | refine g_end T hC (by kernel_rfl) ?_
        | refine g_splitD (fun h => ?_) (fun h => ?_)
        | refine g_splitG rfl rfl rfl (fun h => ?_) (fun h => ?_)
        | refine g_splitP rfl rfl (fun h => ?_) (fun h => ?_)
        | refine g_idx T hC rfl rfl rfl (Int.natCast_nonneg _) (map_at hx) rfl rfl ?_
        | refine g_idx T hC rfl rfl rfl (Int.natCast_nonneg _) (map_at hy) rfl rfl ?_
        | refine g_call hC (hS) rfl rfl (LeSs.refl _) rfl rfl rfl ?_
        | refine g_outR ?_
        | refine g_retl T (.inl rfl) rfl ?_
      · have hxy : p x y = false := by simpa using h
        rw [hxy] at hn; exact hn
      · have hxy : p x y = true := by simpa using h
        rw [hxy, Bool.true_and] at hn
        rw [wrap64 (by omega)]
        exact g_round (i + 1) ⟨by omega, hn⟩ id (by omega) ⟨rfl, ⟨rfl, rfl, rfl, rfl, rfl, trivial⟩, trivial, rfl, fun _ _ => rfl⟩
    · have hge : ¬ i < a.length := by have := of_decide_eq_false h; omega
      repeat' first
        | refine g_go T hC true 400 rfl rfl ?_
        | refine g_cond rfl (fun h => ?_) (fun h => ?_)
        | refine g_end T hC (by kernel_rfl) ?_
        | refine g_splitD (fun h => ?_) (fun h => ?_)
        | refine g_splitG rfl rfl rfl (fun h => ?_) (fun h => ?_)
        | refine g_splitP rfl rfl (fun h => ?_) (fun h => ?_)
        | refine g_outE ?_
        | refine g_retl T (.inl rfl) rfl ?_
      rw [List.drop_eq_nil_of_le (by omega), List.drop_eq_nil_of_le (by omega)] at hn
      exact hn
theorem eqPr_ok (f : FuncId) (p : Pr → Pr → Bool) (a b : List Pr) (hf : ∀ x ∈ a, ∀ y ∈ b, FnOK Tryd.prog f [aggS (procR x), aggS (procR y)] [] (.bq (p x y)) []) :
    FnOK Tryd.prog 36 [pS (.sl 5 (a.map procR)), pS (.sl 5 (b.map procR)), .one (.cl f [] [])] [] (.bq (eqL p a b)) [] := by
  refine fn_ok T Tryd.func36 (by kernel_rfl) rfl rfl rfl rfl fun C hC => ?_
  refine g_len 0 rfl fun hlen => ?_
  rw [List.length_map] at hlen
  repeat' first
    | refine g_go T hC true 400 rfl rfl ?_
    | refine g_cond rfl (fun h => ?_) (fun h => ?_)
    | refine g_end T hC (by kernel_rfl) ?_
    | refine g_splitD (fun h => ?_) (fun h => ?_)
    | refine g_splitG rfl rfl rfl (fun h => ?_) (fun h => ?_)
    | refine g_splitP rfl rfl (fun h => ?_) (fun h => ?_)
    | refine g_retl T (.inl rfl) rfl ?_
  all_goals (try simp only [List.length_map] at *)
  · have : ¬ (a.length : Int) = (b.length : Int) := by simpa using h
    exact (eqL_len fun e => this (by rw [e])).symm
  · have hab : a.length = b.length := by have : (a.length : Int) = (b.length : Int) := by simpa using h
                                         omega
    refine g_loop (fun i : Nat => i ≤ a.length ∧ eqL p (a.drop i) (b.drop i) = eqL p a b) (fun i => ([(1, pS (.sl 5 (b.map procR))), (2, .one (.cl f [] [])), (15, pS (.sl 5 (a.map procR))), (16, I a.length), (17, I i)], [])) (fun i => a.length - i) hC
      0 ⟨Nat.zero_le _, rfl⟩ id ⟨rfl, ⟨rfl, rfl, rfl, rfl, rfl, trivial⟩, trivial, rfl, fun _ _ => rfl⟩ ?_
    rintro i ⟨hi, hn⟩
    refine g_run' T hC true 200 rfl ?_
    refine g_cond rfl (fun h => ?_) (fun h => ?_)
    · have hlt : i < a.length := by have := of_decide_eq_true h; omega
      clear h
      obtain ⟨x, hx⟩ := exists_at hlt
      obtain ⟨y, hy⟩ := exists_at (hab ▸ hlt)
      have hS := hf x (List.mem_of_getElem? hx) y (List.mem_of_getElem? hy)
      rw [drop_at hx, drop_at hy, eqL] at hn
      repeat' first
        | refine g_go T hC true 400 rfl rfl ?_
        | refine g_cond rfl (fun h => ?_) (fun h => ?_)
        | refine g_end T hC (by kernel_rfl) ?_
        | refine g_splitD (fun h => ?_) (fun h => ?_)
        | refine g_splitG rfl rfl rfl (fun h => ?_) (fun h => ?_)
        | refine g_splitP rfl rfl (fun h => ?_) (fun h => ?_)
        | refine g_idx T hC rfl rfl rfl (Int.natCast_nonneg _) (map_at hx) rfl rfl ?_
        | refine g_idx T hC rfl rfl rfl (Int.natCast_nonneg _) (map_at hy) rfl rfl ?_
        | refine g_call hC (hS) rfl rfl (LeSs.refl _) rfl rfl rfl ?_
        | refine g_outR ?_
        | refine g_retl T (.inl rfl) rfl ?_
      · have hxy : p x y = false := by simpa using h
        rw [hxy] at hn; exact hn
      · have hxy : p x y = true := by simpa using h
        rw [hxy, Bool.true_and] at hn
        rw [wrap64 (by omega)]
        exact g_round (i + 1) ⟨by omega, hn⟩ id (by omega) ⟨rfl, ⟨rfl, rfl, rfl, rfl, rfl, trivial⟩, trivial, rfl, fun _ _ => rfl⟩
    · have hge : ¬ i < a.length := by have := of_decide_eq_false h; omega
      repeat' first
        | refine g_go T hC true 400 rfl rfl ?_
        | refine g_cond rfl (fun h => ?_) (fun h => ?_)
        | refine g_end T hC (by kernel_rfl) ?_
        | refine g_splitD (fun h => ?_) (fun h => ?_)
        | refine g_splitG rfl rfl rfl (fun h => ?_) (fun h => ?_)
        | refine g_splitP rfl rfl (fun h => ?_) (fun h => ?_)
        | refine g_outE ?_
        | refine g_retl T (.inl rfl) rfl ?_
      rw [List.drop_eq_nil_of_le (by omega), List.drop_eq_nil_of_le (by omega)] at hn
      exact hn
theorem eqMs_ok (f : FuncId) (p : Ms → Ms → Bool) (a b : List Ms) (hf : ∀ x ∈ a, ∀ y ∈ b, FnOK Tryd.prog f [aggS (measureR x), aggS (measureR y)] [] (.bq (p x y)) []) :
    FnOK Tryd.prog 40 [pS (.sl 7 (a.map measureR)), pS (.sl 7 (b.map measureR)), .one (.cl f [] [])] [] (.bq (eqL p a b)) [] := by
  refine fn_ok T Tryd.func40 (by kernel_rfl) rfl rfl rfl rfl fun C hC => ?_
  refine g_len 0 rfl fun hlen => ?_
  rw [List.length_map] at hlen
  repeat' first
    | refine g_go T hC true 400 rfl rfl ?_
    | refine g_cond rfl (fun h => ?_) (fun h => ?_)
    | refine g_end T hC (by kernel_rfl) ?_
    | refine g_splitD (fun h => ?_) (fun h => ?_)
    | refine g_splitG rfl rfl rfl (fun h => ?_) (fun h => ?_)
    | refine g_splitP rfl rfl (fun h => ?_) (fun h => ?_)
    | refine g_retl T (.inl rfl) rfl ?_
  all_goals (try simp only [List.length_map] at *)
  · have : ¬ (a.length : Int) = (b.length : Int) := by simpa using h
    exact (eqL_len fun e => this (by rw [e])).symm
  · have hab : a.length = b.length := by have : (a.length : Int) = (b.length : Int) := by simpa using h
                                         omega
    refine g_loop (fun i : Nat => i ≤ a.length ∧ eqL p (a.drop i) (b.drop i) = eqL p a b) (fun i => ([(1, pS (.sl 7 (b.map measureR))), (2, .one (.cl f [] [])), (15, pS (.sl 7 (a.map measureR))), (16, I a.length), (17, I i)], [])) (fun i => a.length - i) hC
      0 ⟨Nat.zero_le _, rfl⟩ id ⟨rfl, ⟨rfl, rfl, rfl, rfl, rfl, trivial⟩, trivial, rfl, fun _ _ => rfl⟩ ?_
    rintro i ⟨hi, hn⟩
    refine g_run' T hC true 200 rfl ?_
    refine g_cond rfl (fun h => ?_) (fun h => ?_)
    · have hlt : i < a.length := by have := of_decide_eq_true h; omega
      clear h
      obtain ⟨x, hx⟩ := exists_at hlt
      obtain ⟨y, hy⟩ := exists_at (hab ▸ hlt)
      have hS := hf x (List.mem_of_getElem? hx) y (List.mem_of_getElem? hy)
      rw [drop_at hx, drop_at hy, eqL] at hn
      repeat' first
        | refine g_go T hC true 400 rfl rfl ?_
        | refine g_cond rfl (fun h => ?_) (fun h => ?_)
        | refine g_end T hC (by kernel_rfl) ?_
        | refine g_splitD (fun h => ?_) (fun h => ?_)
        | refine g_splitG rfl rfl rfl (fun h => ?_) (fun h => ?_)
        | refine g_splitP rfl rfl (fun h => ?_) (fun h => ?_)
        | refine g_idx T hC rfl rfl rfl (Int.natCast_nonneg _) (map_at hx) rfl rfl ?_
        | refine g_idx T hC rfl rfl rfl (Int.natCast_nonneg _) (map_at hy) rfl rfl ?_
        | refine g_call hC (hS) rfl rfl (LeSs.refl _) rfl rfl rfl ?_
        | refine g_outR ?_
        | refine g_retl T (.inl rfl) rfl ?_
      · have hxy : p x y = false := by simpa using h
        rw [hxy] at hn; exact hn
      · have hxy : p x y = true := by simpa using h
        rw [hxy, Bool.true_and] at hn
        rw [wrap64 (by omega)]
        exact g_round (i + 1) ⟨by omega, hn⟩ id (by omega) ⟨rfl, ⟨rfl, rfl, rfl, rfl, rfl, trivial⟩, trivial, rfl, fun _ _ => rfl⟩
    · have hge : ¬ i < a.length := by have := of_decide_eq_false h; omega
      repeat' first
        | refine g_go T hC true 400 rfl rfl ?_
        | refine g_cond rfl (fun h => ?_) (fun h => ?_)
        | refine g_end T hC (by kernel_rfl) ?_
        | refine g_splitD (fun h => ?_) (fun h => ?_)
        | refine g_splitG rfl rfl rfl (fun h => ?_) (fun h => ?_)
        | refine g_splitP rfl rfl (fun h => ?_) (fun h => ?_)
        | refine g_outE ?_
        | refine g_retl T (.inl rfl) rfl ?_
      rw [List.drop_eq_nil_of_le (by omega), List.drop_eq_nil_of_le (by omega)] at hn
      exact hn
theorem eqIv_ok (f : FuncId) (p : Iv → Iv → Bool) (a b : List Iv) (hf : ∀ x ∈ a, ∀ y ∈ b, FnOK Tryd.prog f [aggS (invR x), aggS (invR y)] [] (.bq (p x y)) []) :
    FnOK Tryd.prog 42 [pS (.sl 6 (a.map invR)), pS (.sl 6 (b.map invR)), .one (.cl f [] [])] [] (.bq (eqL p a b)) [] := by
  refine fn_ok T Tryd.func42 (by kernel_rfl) rfl rfl rfl rfl fun C hC => ?_
  refine g_len 0 rfl fun hlen => ?_
  rw [List.length_map] at hlen
  repeat' first
    | refine g_go T hC true 400 rfl rfl ?_
    | refine g_cond rfl (fun h => ?_) (fun h => ?_)
    | refine g_end T hC (by kernel_rfl) ?_
    | refine g_splitD (fun h => ?_) (fun h => ?_)
    | refine g_splitG rfl rfl rfl (fun h => ?_) (fun h => ?_)
    | refine g_splitP rfl rfl (fun h => ?_) (fun h => ?_)
    | refine g_retl T (.inl rfl) rfl ?_
  all_goals (try simp only [List.length_map] at *)
  · have : ¬ (a.length : Int) = (b.length : Int) := by simpa using h
    exact (eqL_len fun e => this (by rw [e])).symm
  · have hab : a.length = b.length := by have : (a.length : Int) = (b.length : Int) := by simpa using h
                                         omega
    refine g_loop (fun i : Nat => i ≤ a.length ∧ eqL p (a.drop i) (b.drop i) = eqL p a b) (fun i => ([(1, pS (.sl 6 (b.map invR))), (2, .one (.cl f [] [])), (15, pS (.sl 6 (a.map invR))), (16, I a.length), (17, I i)], [])) (fun i => a.length - i) hC
      0 ⟨Nat.zero_le _, rfl⟩ id ⟨rfl, ⟨rfl, rfl, rfl, rfl, rfl, trivial⟩, trivial, rfl, fun _ _ => rfl⟩ ?_
    rintro i ⟨hi, hn⟩
    refine g_run' T hC true 200 rfl ?_
    refine g_cond rfl (fun h => ?_) (fun h => ?_)
    · have hlt : i < a.length := by have := of_decide_eq_true h; omega
      clear h
      obtain ⟨x, hx⟩ := exists_at hlt
      obtain ⟨y, hy⟩ := exists_at (hab ▸ hlt)
      have hS := hf x (List.mem_of_getElem? hx) y (List.mem_of_getElem? hy)
      rw [drop_at hx, drop_at hy, eqL] at hn
      repeat' first
        | refine g_go T hC true 400 rfl rfl ?_
        | refine g_cond rfl (fun h => ?_) (fun h => ?_)
        | refine g_end T hC (by kernel_rfl) ?_
        | refine g_splitD (fun h => ?_) (fun h => ?_)
        | refine g_splitG rfl rfl rfl (fun h => ?_) (fun h => ?_)
        | refine g_splitP rfl rfl (fun h => ?_) (fun h => ?_)
        | refine g_idx T hC rfl rfl rfl (Int.natCast_nonneg _) (map_at hx) rfl rfl ?_
        | refine g_idx T hC rfl rfl rfl (Int.natCast_nonneg _) (map_at hy) rfl rfl ?_
        | refine g_call hC (hS) rfl rfl (LeSs.refl _) rfl rfl rfl ?_
        | refine g_outR ?_
        | refine g_retl T (.inl rfl) rfl ?_
      · have hxy : p x y = false := by simpa using h
        rw [hxy] at hn; exact hn
      · have hxy : p x y = true := by simpa using h
        rw [hxy, Bool.true_and] at hn
        rw [wrap64 (by omega)]
        exact g_round (i + 1) ⟨by omega, hn⟩ id (by omega) ⟨rfl, ⟨rfl, rfl, rfl, rfl, rfl, trivial⟩, trivial, rfl, fun _ _ => rfl⟩
    · have hge : ¬ i < a.length := by have := of_decide_eq_false h; omega
      repeat' first
        | refine g_go T hC true 400 rfl rfl ?_
        | refine g_cond rfl (fun h => ?_) (fun h => ?_)
        | refine g_end T hC (by kernel_rfl) ?_
        | refine g_splitD (fun h => ?_) (fun h => ?_)
        | refine g_splitG rfl rfl rfl (fun h => ?_) (fun h => ?_)
        | refine g_splitP rfl rfl (fun h => ?_) (fun h => ?_)
        | refine g_outE ?_
        | refine g_retl T (.inl rfl) rfl ?_
      rw [List.drop_eq_nil_of_le (by omega), List.drop_eq_nil_of_le (by omega)] at hn
      exact hn
theorem eqPt_ok (f : FuncId) (p : Pt → Pt → Bool) (a b : List Pt) (hf : ∀ x ∈ a, ∀ y ∈ b, FnOK Tryd.prog f [aggS (potR x), aggS (potR y)] [] (.bq (p x y)) []) :
    FnOK Tryd.prog 44 [pS (.sl 5 (a.map potR)), pS (.sl 5 (b.map potR)), .one (.cl f [] [])] [] (.bq (eqL p a b)) [] := by
  refine fn_ok T Tryd.func44 (by kernel_rfl) rfl rfl rfl rfl fun C hC => ?_
  refine g_len 0 rfl fun hlen => ?_
  rw [List.length_map] at hlen
  repeat' first
    | refine g_go T hC true 400 rfl rfl ?_
    | refine g_cond rfl (fun h => ?_) (fun h => ?_)
    | refine g_end T hC (by kernel_rfl) ?_
    | refine g_splitD (fun h => ?_) (fun h => ?_)
    | refine g_splitG rfl rfl rfl (fun h => ?_) (fun h => ?_)
    | refine g_splitP rfl rfl (fun h => ?_) (fun h => ?_)
    | refine g_retl T (.inl rfl) rfl ?_
  all_goals (try simp only [List.length_map] at *)
  · have : ¬ (a.length : Int) = (b.length : Int) := by simpa using h
    exact (eqL_len fun e => this (by rw [e])).symm
  · have hab : a.length = b.length := by have : (a.length : Int) = (b.length : Int) := by simpa using h
                                         omega
    refine g_loop (fun i : Nat => i ≤ a.length ∧ eqL p (a.drop i) (b.drop i) = eqL p a b) (fun i => ([(1, pS (.sl 5 (b.map potR))), (2, .one (.cl f [] [])), (15, pS (.sl 5 (a.map potR))), (16, I a.length), (17, I i)], [])) (fun i => a.length - i) hC
      0 ⟨Nat.zero_le _, rfl⟩ id ⟨rfl, ⟨rfl, rfl, rfl, rfl, rfl, trivial⟩, trivial, rfl, fun _ _ => rfl⟩ ?_
    rintro i ⟨hi, hn⟩
    refine g_run' T hC true 200 rfl ?_
    refine g_cond rfl (fun h => ?_) (fun h => ?_)
    · have hlt : i < a.length := by have := of_decide_eq_true h; omega
      clear h
      obtain ⟨x, hx⟩ := exists_at hlt
      obtain ⟨y, hy⟩ := exists_at (hab ▸ hlt)
      have hS := hf x (List.mem_of_getElem? hx) y (List.mem_of_getElem? hy)
      rw [drop_at hx, drop_at hy, eqL] at hn
      repeat' first
        | refine g_go T hC true 400 rfl rfl ?_
        | refine g_cond rfl (fun h => ?_) (fun h => ?_)
        | refine g_end T hC (by kernel_rfl) ?_
        | refine g_splitD (fun h => ?_) (fun h => ?_)
        | refine g_splitG rfl rfl rfl (fun h => ?_) (fun h => ?_)
        | refine g_splitP rfl rfl (fun h => ?_) (fun h => ?_)
        | refine g_idx T hC rfl rfl rfl (Int.natCast_nonneg _) (map_at hx) rfl rfl ?_
        | refine g_idx T hC rfl rfl rfl (Int.natCast_nonneg _) (map_at hy) rfl rfl ?_
        | refine g_call hC (hS) rfl rfl (LeSs.refl _) rfl rfl rfl ?_
        | refine g_outR ?_
        | refine g_retl T (.inl rfl) rfl ?_
      · have hxy : p x y = false := by simpa using h
        rw [hxy] at hn; exact hn
      · have hxy : p x y = true := by simpa using h
        rw [hxy, Bool.true_and] at hn
        rw [wrap64 (by omega)]
        exact g_round (i + 1) ⟨by omega, hn⟩ id (by omega) ⟨rfl, ⟨rfl, rfl, rfl, rfl, rfl, trivial⟩, trivial, rfl, fun _ _ => rfl⟩
    · have hge : ¬ i < a.length := by have := of_decide_eq_false h; omega
      repeat' first
        | refine g_go T hC true 400 rfl rfl ?_
        | refine g_cond rfl (fun h => ?_) (fun h => ?_)
        | refine g_end T hC (by kernel_rfl) ?_
        | refine g_splitD (fun h => ?_) (fun h => ?_)
        | refine g_splitG rfl rfl rfl (fun h => ?_) (fun h => ?_)
        | refine g_splitP rfl rfl (fun h => ?_) (fun h => ?_)
        | refine g_outE ?_
        | refine g_retl T (.inl rfl) rfl ?_
      rw [List.drop_eq_nil_of_le (by omega), List.drop_eq_nil_of_le (by omega)] at hn
      exact hn
theorem eqBd_ok (f : FuncId) (p : Bd → Bd → Bool) (a b : List Bd) (hf : ∀ x ∈ a, ∀ y ∈ b, FnOK Tryd.prog f [aggS (boundR x), aggS (boundR y)] [] (.bq (p x y)) []) :
    FnOK Tryd.prog 46 [pS (.sl 5 (a.map boundR)), pS (.sl 5 (b.map boundR)), .one (.cl f [] [])] [] (.bq (eqL p a b)) [] := by
  refine fn_ok T Tryd.func46 (by kernel_rfl) rfl rfl rfl rfl fun C hC => ?_
  refine g_len 0 rfl fun hlen => ?_
  rw [List.length_map] at hlen
  repeat' first
    | refine g_go T hC true 400 rfl rfl ?_
    | refine g_cond rfl (fun h => ?_) (fun h => ?_)
    | refine g_end T hC (by kernel_rfl) ?_
    | refine g_splitD (fun h => ?_) (fun h => ?_)
    | refine g_splitG rfl rfl rfl (fun h => ?_) (fun h => ?_)
    | refine g_splitP rfl rfl (fun h => ?_) (fun h => ?_)
    | refine g_retl T (.inl rfl) rfl ?_
  all_goals (try simp only [List.length_map] at *)
  · have : ¬ (a.length : Int) = (b.length : Int) := by simpa using h
    exact (eqL_len fun e => this (by rw [e])).symm
  · have hab : a.length = b.length := by have : (a.length : Int) = (b.length : Int) := by simpa using h
                                         omega
    refine g_loop (fun i : Nat => i ≤ a.length ∧ eqL p (a.drop i) (b.drop i) = eqL p a b) (fun i => ([(1, pS (.sl 5 (b.map boundR))), (2, .one (.cl f [] [])), (15, pS (.sl 5 (a.map boundR))), (16, I a.length), (17, I i)], [])) (fun i => a.length - i) hC
      0 ⟨Nat.zero_le _, rfl⟩ id ⟨rfl, ⟨rfl, rfl, rfl, rfl, rfl, trivial⟩, trivial, rfl, fun _ _ => rfl⟩ ?_
    rintro i ⟨hi, hn⟩
    refine g_run' T hC true 200 rfl ?_
    refine g_cond rfl (fun h => ?_) (fun h => ?_)
    · have hlt : i < a.length := by have := of_decide_eq_true h; omega
      clear h
      obtain ⟨x, hx⟩ := exists_at hlt
      obtain ⟨y, hy⟩ := exists_at (hab ▸ hlt)
      have hS := hf x (List.mem_of_getElem? hx) y (List.mem_of_getElem? hy)
      rw [drop_at hx, drop_at hy, eqL] at hn
      repeat' first
        | refine g_go T hC true 400 rfl rfl ?_
        | refine g_cond rfl (fun h => ?_) (fun h => ?_)
        | refine g_end T hC (by kernel_rfl) ?_
        | refine g_splitD (fun h => ?_) (fun h => ?_)
        | refine g_splitG rfl rfl rfl (fun h => ?_) (fun h => ?_)
        | refine g_splitP rfl rfl (fun h => ?_) (fun h => ?_)
        | refine g_idx T hC rfl rfl rfl (Int.natCast_nonneg _) (map_at hx) rfl rfl ?_
        | refine g_idx T hC rfl rfl rfl (Int.natCast_nonneg _) (map_at hy) rfl rfl ?_
        | refine g_call hC (hS) rfl rfl (LeSs.refl _) rfl rfl rfl ?_
        | refine g_outR ?_
        | refine g_retl T (.inl rfl) rfl ?_
      · have hxy : p x y = false := by simpa using h
        rw [hxy] at hn; exact hn
      · have hxy : p x y = true := by simpa using h
        rw [hxy, Bool.true_and] at hn
        rw [wrap64 (by omega)]
        exact g_round (i + 1) ⟨by omega, hn⟩ id (by omega) ⟨rfl, ⟨rfl, rfl, rfl, rfl, rfl, trivial⟩, trivial, rfl, fun _ _ => rfl⟩
    · have hge : ¬ i < a.length := by have := of_decide_eq_false h; omega
      repeat' first
        | refine g_go T hC true 400 rfl rfl ?_
        | refine g_cond rfl (fun h => ?_) (fun h => ?_)
        | refine g_end T hC (by kernel_rfl) ?_
        | refine g_splitD (fun h => ?_) (fun h => ?_)
        | refine g_splitG rfl rfl rfl (fun h => ?_) (fun h => ?_)
        | refine g_splitP rfl rfl (fun h => ?_) (fun h => ?_)
        | refine g_outE ?_
        | refine g_retl T (.inl rfl) rfl ?_
      rw [List.drop_eq_nil_of_le (by omega), List.drop_eq_nil_of_le (by omega)] at hn
      exact hn
theorem sameT_ok (a b : NodeT) : FnOK Tryd.prog 35 [aggS (nodeTR a), aggS (nodeTR b)] [] (.bq (sameT a b)) [] := by
  have h1 := eqFields_ok a.f b.f
  unfold sameT
  generalize eqL sameF a.f b.f = q1 at h1 ⊢
  refine fn_ok T Tryd.func35 (by kernel_rfl) rfl rfl rfl rfl fun C hC => ?_
  repeat' first
    | refine g_go T hC true 400 rfl rfl ?_
    | refine g_cond rfl (fun h => ?_) (fun h => ?_)
    | refine g_end T hC (by kernel_rfl) ?_
    | refine g_splitD (fun h => ?_) (fun h => ?_)
    | refine g_splitG rfl rfl rfl (fun h => ?_) (fun h => ?_)
    | refine g_splitP rfl rfl (fun h => ?_) (fun h => ?_)
    | refine g_call hC (h1) rfl rfl (LeSs.refl _) rfl rfl rfl ?_
    | refine g_retq T (.inl rfl) rfl ?_
    | refine g_retl T (.inl rfl) rfl ?_
  all_goals clear h1
  all_goals (simp_all; done)
theorem sameP_ok (a b : Pr) : FnOK Tryd.prog 37 [aggS (procR a), aggS (procR b)] [] (.bq (sameP a b)) [] := by
  have h1 := eqFields_ok a.params b.params
  have h2 := eqFields_ok a.locs b.locs
  have h3 := eqSm_ok 39 sameS a.body b.body fun x _ y _ => sameStmt_ok (SizeOf.sizeOf x + 1) x y (by omega)
  unfold sameP
  generalize eqL sameF a.params b.params = q1 at h1 ⊢
  generalize eqL sameF a.locs b.locs = q2 at h2 ⊢
  generalize eqL sameS a.body b.body = q3 at h3 ⊢
  refine fn_ok T Tryd.func37 (by kernel_rfl) rfl rfl rfl rfl fun C hC => ?_
  repeat' first
    | refine g_go T hC true 400 rfl rfl ?_
    | refine g_cond rfl (fun h => ?_) (fun h => ?_)
    | refine g_end T hC (by kernel_rfl) ?_
    | refine g_splitD (fun h => ?_) (fun h => ?_)
    | refine g_splitG rfl rfl rfl (fun h => ?_) (fun h => ?_)
    | refine g_splitP rfl rfl (fun h => ?_) (fun h => ?_)
    | refine g_call hC (h1) rfl rfl (LeSs.refl _) rfl rfl rfl ?_
    | refine g_call hC (h2) rfl rfl (LeSs.refl _) rfl rfl rfl ?_
    | refine g_call hC (h3) rfl rfl (LeSs.refl _) rfl rfl rfl ?_
    | refine g_retq T (.inl rfl) rfl ?_
    | refine g_retl T (.inl rfl) rfl ?_
  all_goals clear h1 h2 h3
  all_goals (simp_all; done)
theorem sameM_ok (a b : Ms) : FnOK Tryd.prog 41 [aggS (measureR a), aggS (measureR b)] [] (.bq (sameM a b)) [] := by
  have h1 := sameExpr_ok (SizeOf.sizeOf a.x + 1) a.x b.x (by omega)
  unfold sameM
  generalize sameE a.x b.x = q1 at h1 ⊢
  refine fn_ok T Tryd.func41 (by kernel_rfl) rfl rfl rfl rfl fun C hC => ?_
  repeat' first
    | refine g_go T hC true 400 rfl rfl ?_
    | refine g_cond rfl (fun h => ?_) (fun h => ?_)
    | refine g_end T hC (by kernel_rfl) ?_
    | refine g_splitD (fun h => ?_) (fun h => ?_)
    | refine g_splitG rfl rfl rfl (fun h => ?_) (fun h => ?_)
    | refine g_splitP rfl rfl (fun h => ?_) (fun h => ?_)
    | refine g_call hC (h1) rfl rfl (LeSs.refl _) rfl rfl rfl ?_
    | refine g_retq T (.inl rfl) rfl ?_
    | refine g_retl T (.inl rfl) rfl ?_
  all_goals clear h1
  all_goals (simp_all; done)
theorem sameI_ok (a b : Iv) : FnOK Tryd.prog 43 [aggS (invR a), aggS (invR b)] [] (.bq (sameI a b)) [] := by
  have h1 := sameExpr_ok (SizeOf.sizeOf a.x + 1) a.x b.x (by omega)
  unfold sameI
  generalize sameE a.x b.x = q1 at h1 ⊢
  refine fn_ok T Tryd.func43 (by kernel_rfl) rfl rfl rfl rfl fun C hC => ?_
  repeat' first
    | refine g_go T hC true 400 rfl rfl ?_
    | refine g_cond rfl (fun h => ?_) (fun h => ?_)
    | refine g_end T hC (by kernel_rfl) ?_
    | refine g_splitD (fun h => ?_) (fun h => ?_)
    | refine g_splitG rfl rfl rfl (fun h => ?_) (fun h => ?_)
    | refine g_splitP rfl rfl (fun h => ?_) (fun h => ?_)
    | refine g_call hC (h1) rfl rfl (LeSs.refl _) rfl rfl rfl ?_
    | refine g_retq T (.inl rfl) rfl ?_
    | refine g_retl T (.inl rfl) rfl ?_
  all_goals clear h1
  all_goals (simp_all; done)
theorem sameO_ok (a b : Pt) : FnOK Tryd.prog 45 [aggS (potR a), aggS (potR b)] [] (.bq (sameO a b)) [] := by
  have h1 := sameExpr_ok (SizeOf.sizeOf a.x + 1) a.x b.x (by omega)
  unfold sameO
  generalize sameE a.x b.x = q1 at h1 ⊢
  refine fn_ok T Tryd.func45 (by kernel_rfl) rfl rfl rfl rfl fun C hC => ?_
  repeat' first
    | refine g_go T hC true 400 rfl rfl ?_
    | refine g_cond rfl (fun h => ?_) (fun h => ?_)
    | refine g_end T hC (by kernel_rfl) ?_
    | refine g_splitD (fun h => ?_) (fun h => ?_)
    | refine g_splitG rfl rfl rfl (fun h => ?_) (fun h => ?_)
    | refine g_splitP rfl rfl (fun h => ?_) (fun h => ?_)
    | refine g_call hC (h1) rfl rfl (LeSs.refl _) rfl rfl rfl ?_
    | refine g_retq T (.inl rfl) rfl ?_
    | refine g_retl T (.inl rfl) rfl ?_
  all_goals clear h1
  all_goals (simp_all; done)
theorem sameB_ok (a b : Bd) : FnOK Tryd.prog 47 [aggS (boundR a), aggS (boundR b)] [] (.bq (sameB a b)) [] := by
  have h1 := sameExpr_ok (SizeOf.sizeOf a.x + 1) a.x b.x (by omega)
  unfold sameB
  generalize sameE a.x b.x = q1 at h1 ⊢
  refine fn_ok T Tryd.func47 (by kernel_rfl) rfl rfl rfl rfl fun C hC => ?_
  repeat' first
    | refine g_go T hC true 400 rfl rfl ?_
    | refine g_cond rfl (fun h => ?_) (fun h => ?_)
    | refine g_end T hC (by kernel_rfl) ?_
    | refine g_splitD (fun h => ?_) (fun h => ?_)
    | refine g_splitG rfl rfl rfl (fun h => ?_) (fun h => ?_)
    | refine g_splitP rfl rfl (fun h => ?_) (fun h => ?_)
    | refine g_call hC (h1) rfl rfl (LeSs.refl _) rfl rfl rfl ?_
    | refine g_retq T (.inl rfl) rfl ?_
    | refine g_retl T (.inl rfl) rfl ?_
  all_goals clear h1
  all_goals (simp_all; done)
theorem same09_ok (a b : Desc) : FnOK Tryd.prog 15 [aggS (descR a), aggS (descR b)] [] (.bq (sameD a b)) [] := by
  have h1 := eqFields_ok a.globals b.globals
  have h2 := eqNT_ok 35 sameT a.types b.types fun x _ y _ => sameT_ok x y
  have h3 := eqPr_ok 37 sameP a.procs b.procs fun x _ y _ => sameP_ok x y
  have h4 := eqMs_ok 41 sameM a.measures b.measures fun x _ y _ => sameM_ok x y
  have h5 := eqIv_ok 43 sameI a.invs b.invs fun x _ y _ => sameI_ok x y
  have h6 := eqPt_ok 45 sameO a.pots b.pots fun x _ y _ => sameO_ok x y
  have h7 := eqBd_ok 47 sameB a.bounds b.bounds fun x _ y _ => sameB_ok x y
  unfold sameD
  generalize eqL sameF a.globals b.globals = q1 at h1 ⊢
  generalize eqL sameT a.types b.types = q2 at h2 ⊢
  generalize eqL sameP a.procs b.procs = q3 at h3 ⊢
  generalize eqL sameM a.measures b.measures = q4 at h4 ⊢
  generalize eqL sameI a.invs b.invs = q5 at h5 ⊢
  generalize eqL sameO a.pots b.pots = q6 at h6 ⊢
  generalize eqL sameB a.bounds b.bounds = q7 at h7 ⊢
  refine fn_ok T Tryd.func15 (by kernel_rfl) rfl rfl rfl rfl fun C hC => ?_
  repeat' first
    | refine g_go T hC true 400 rfl rfl ?_
    | refine g_cond rfl (fun h => ?_) (fun h => ?_)
    | refine g_end T hC (by kernel_rfl) ?_
    | refine g_splitD (fun h => ?_) (fun h => ?_)
    | refine g_splitG rfl rfl rfl (fun h => ?_) (fun h => ?_)
    | refine g_splitP rfl rfl (fun h => ?_) (fun h => ?_)
    | refine g_call hC (h1) rfl rfl (LeSs.refl _) rfl rfl rfl ?_
    | refine g_call hC (h2) rfl rfl (LeSs.refl _) rfl rfl rfl ?_
    | refine g_call hC (h3) rfl rfl (LeSs.refl _) rfl rfl rfl ?_
    | refine g_call hC (h4) rfl rfl (LeSs.refl _) rfl rfl rfl ?_
    | refine g_call hC (h5) rfl rfl (LeSs.refl _) rfl rfl rfl ?_
    | refine g_call hC (h6) rfl rfl (LeSs.refl _) rfl rfl rfl ?_
    | refine g_call hC (h7) rfl rfl (LeSs.refl _) rfl rfl rfl ?_
    | refine g_retq T (.inl rfl) rfl ?_
    | refine g_retl T (.inl rfl) rfl ?_
  all_goals clear h1 h2 h3 h4 h5 h6 h7
  all_goals (simp_all; done)
end Hw.D
