/- The engine and the contracts. -/
import Derived.Test.YtmnhegkogibipaaGreatDoorC4
import Derived.Test.YtmnhegkogibipaaGreatDoorE3
set_option linter.unusedVariables false
set_option linter.unusedSimpArgs false
namespace Hw.Z
open Go Go.Proofs Hw.M

def idxR {α σ : Type} (p : α → σ → Bool) (nx : α → σ → σ) : List α → Nat → σ → Int × σ
  | [], _, s => (-1, s)
  | x :: r, k, s => if p x s = true then ((k : Int), nx x s) else idxR p nx r (k + 1) (nx x s)
def anyR {α σ : Type} (p : α → σ → Bool) (nx : α → σ → σ) : List α → σ → Bool × σ
  | [], s => (false, s)
  | x :: r, s => if p x s = true then (true, nx x s) else anyR p nx r (nx x s)
theorem anyR_12 {α σ : Type} (p : α → σ → Bool) (nx : α → σ → σ) : ∀ (l : List α) (k : Nat) (s : σ), ∃ i s', idxR p nx l k s = (i, s') ∧ anyR p nx l s = (decide (0 ≤ i), s')
  | [], k, s => ⟨-1, s, rfl, rfl⟩
  | x :: r, k, s => by
    simp only [idxR, anyR]
    by_cases h : p x s = true
    · exact ⟨k, nx x s, if_pos h, by rw [if_pos h, decide_eq_true (by omega)]⟩
    · rw [if_neg h, if_neg h]; exact anyR_12 p nx r (k + 1) (nx x s)
theorem anyR_1 {α σ : Type} (p : α → σ → Bool) (nx : α → σ → σ) (l : List α) (k : Nat) (s : σ) : decide (0 ≤ (idxR p nx l k s).1) = (anyR p nx l s).1 := by
  obtain ⟨i, s', h1, h2⟩ := anyR_12 p nx l k s
  simp only [h1, h2]
theorem anyR_2 {α σ : Type} (p : α → σ → Bool) (nx : α → σ → σ) (l : List α) (k : Nat) (s : σ) : (idxR p nx l k s).2 = (anyR p nx l s).2 := by
  obtain ⟨i, s', h1, h2⟩ := anyR_12 p nx l k s
  simp only [h1, h2]
/-- Without a state. -/
theorem anyR_no {α : Type} (p : α → Bool) : ∀ (l : List α) (s : Unit), (anyR (fun x _ => p x) (fun _ s => s) l s).1 = l.any p
  | [], _ => rfl
  | x :: r, s => by
    simp only [anyR, List.any_cons]
    cases h : p x with
    | true => rfl
    | false => simp only [Bool.false_eq_true, if_false, Bool.false_or]; exact anyR_no p r s

theorem exprS_idx (f : FuncId) (dp : Int) (l : List Ex) (p : Ex → Int → Bool) (nx : Ex → Int → Int) (inv : Int → Prop)
    (hf : ∀ x ∈ l, ∀ s : Int, inv s → FnOK Tryz.prog f [aggS (exprC x), .one (.bx 1 0), .one (.bx 2 0)] [(0, .box [.p (ki s)]), (1, .box [.p (ki dp)]), (2, .box [.bx 0 0])] (.bq (p x s)) ((fun s : Int => [(0, .box [.p (ki s)]), (1, .box [.p (ki dp)]), (2, .box [.bx 0 0])]) (nx x s)) ∧ (p x s = false → inv (nx x s))) (s : Int) (hs : inv s) :
    FnOK Tryz.prog 194 [pS (.sl 4 (l.map exprR)), .one (.cl f [] [.bx 1 0, .bx 2 0])] [(0, .box [.p (ki s)]), (1, .box [.p (ki dp)]), (2, .box [.bx 0 0])] (I (idxR p nx l 0 s).1) ((fun s : Int => [(0, .box [.p (ki s)]), (1, .box [.p (ki dp)]), (2, .box [.bx 0 0])]) (idxR p nx l 0 s).2) := by
  refine fn_ok T Tryz.func194 (by kernel_rfl) rfl rfl rfl rfl fun C hC => ?_
  have hs0 := hs
  refine g_len 0 rfl fun hl => ?_
  rw [List.length_map] at hl
  repeat' first
    | refine g_go T hC true 400 rfl rfl ?_
    | refine g_cond rfl (fun h => ?_) (fun h => ?_)
    | refine g_end T hC (by kernel_rfl) ?_
    | refine g_splitD (fun h => ?_) (fun h => ?_)
    | refine g_splitG rfl rfl rfl (fun h => ?_) (fun h => ?_)
    | refine g_splitP rfl rfl (fun h => ?_) (fun h => ?_)
  rw [List.length_map]
  refine g_loop (fun q : Nat × Int => q.1 ≤ l.length ∧ inv q.2 ∧ idxR p nx (l.drop q.1) q.1 q.2 = idxR p nx l 0 s) (fun q => (fun s : Int => ([(0, pS (.sl 4 (l.map exprR))), (1, .one (.cl f [] [.bx 1 0, .bx 2 0])), (7, I l.length), (8, I q.1)], [(0, some (.box [.p (ki s)])), (1, some (.box [.p (ki dp)])), (2, some (.box [.bx 0 0]))])) q.2) (fun q => l.length - q.1) hC
    (0, s) ⟨Nat.zero_le _, hs, rfl⟩ id ⟨rfl, ⟨rfl, rfl, rfl, rfl, trivial⟩, ⟨rfl, rfl, rfl, trivial⟩, rfl, fun _ _ => rfl⟩ ?_
  generalize idxR p nx l 0 s = res
  clear hs hs0
  rintro ⟨i, s⟩ ⟨hi, hv, hn⟩
  simp only at hi hv hn
  refine g_run' T hC true 200 rfl ?_
  refine g_cond rfl (fun hh => ?_) (fun hh => ?_)
  · have hlt : i < l.length := by simpa using hh
    clear hh
    obtain ⟨x, hx⟩ := exists_at hlt
    rw [drop_at hx] at hn
    simp only [idxR] at hn
    have hv2 := (hf x (List.mem_of_getElem? hx) s hv).2
    repeat' first
      | refine g_go T hC true 400 rfl rfl ?_
      | refine g_cond rfl (fun h => ?_) (fun h => ?_)
      | refine g_end T hC (by kernel_rfl) ?_
      | refine g_splitD (fun h => ?_) (fun h => ?_)
      | refine g_splitG rfl rfl rfl (fun h => ?_) (fun h => ?_)
      | refine g_splitP rfl rfl (fun h => ?_) (fun h => ?_)
      | refine g_idx T hC rfl rfl rfl (Int.natCast_nonneg _) (map_atE hx) rfl rfl ?_
      | refine g_callR hC (hf x (List.mem_of_getElem? hx) s hv).1 id rfl rfl (LeSs.refl _) rfl rfl rfl rfl rfl rfl rfl rfl ?_
      | refine g_outR ?_
    · rw [if_pos (by assumption)] at hn
      subst hn
      exact g_fin ⟨.inl rfl, id, _, rfl, .refl _, ⟨rfl, rfl, rfl, trivial⟩, rfl, rfl⟩
    · have hpf : p x s = false := by assumption
      rw [hpf] at hn
      simp only [Bool.false_eq_true, if_false] at hn
      rw [wrap64 (by omega)]
      exact g_round (i + 1, nx x s) ⟨by simp only; omega, hv2 hpf, hn⟩ id (by simp only; omega) ⟨rfl, ⟨rfl, rfl, rfl, rfl, trivial⟩, ⟨rfl, rfl, rfl, trivial⟩, rfl, fun _ _ => rfl⟩
  · have hge : ¬ i < l.length := by simpa using hh
    rw [List.drop_eq_nil_of_le (by omega)] at hn
    simp only [idxR] at hn
    subst hn
    repeat' first
      | refine g_go T hC true 400 rfl rfl ?_
      | refine g_cond rfl (fun h => ?_) (fun h => ?_)
      | refine g_end T hC (by kernel_rfl) ?_
      | refine g_splitD (fun h => ?_) (fun h => ?_)
      | refine g_splitG rfl rfl rfl (fun h => ?_) (fun h => ?_)
      | refine g_splitP rfl rfl (fun h => ?_) (fun h => ?_)
      | refine g_outE ?_
    exact g_fin ⟨.inl rfl, id, _, rfl, .refl _, ⟨rfl, rfl, rfl, trivial⟩, rfl, rfl⟩
theorem exprS_has (f : FuncId) (dp : Int) (l : List Ex) (p : Ex → Int → Bool) (nx : Ex → Int → Int) (inv : Int → Prop)
    (hf : ∀ x ∈ l, ∀ s : Int, inv s → FnOK Tryz.prog f [aggS (exprC x), .one (.bx 1 0), .one (.bx 2 0)] [(0, .box [.p (ki s)]), (1, .box [.p (ki dp)]), (2, .box [.bx 0 0])] (.bq (p x s)) ((fun s : Int => [(0, .box [.p (ki s)]), (1, .box [.p (ki dp)]), (2, .box [.bx 0 0])]) (nx x s)) ∧ (p x s = false → inv (nx x s))) (s : Int) (hs : inv s) :
    FnOK Tryz.prog 150 [pS (.sl 4 (l.map exprR)), .one (.cl f [] [.bx 1 0, .bx 2 0])] [(0, .box [.p (ki s)]), (1, .box [.p (ki dp)]), (2, .box [.bx 0 0])] (.bq (anyR p nx l s).1) ((fun s : Int => [(0, .box [.p (ki s)]), (1, .box [.p (ki dp)]), (2, .box [.bx 0 0])]) (anyR p nx l s).2) := by
  refine fn_ok T Tryz.func150 (by kernel_rfl) rfl rfl rfl rfl fun C hC => ?_
  repeat' first
    | refine g_go T hC true 400 rfl rfl ?_
    | refine g_cond rfl (fun h => ?_) (fun h => ?_)
    | refine g_end T hC (by kernel_rfl) ?_
    | refine g_splitD (fun h => ?_) (fun h => ?_)
    | refine g_splitG rfl rfl rfl (fun h => ?_) (fun h => ?_)
    | refine g_splitP rfl rfl (fun h => ?_) (fun h => ?_)
    | refine g_callR hC (exprS_idx f dp l p nx inv hf s hs) (nm [0, 1, 2]) rfl rfl (LeSs.refl _) rfl rfl rfl rfl rfl rfl rfl rfl ?_
  exact g_fin ⟨.inl rfl, id, _, rfl, .qq (anyR_1 p nx l 0 s), by rw [← anyR_2 p nx l 0 s]; exact ⟨rfl, rfl, rfl, trivial⟩, rfl, rfl⟩

theorem exprN_idx (f : FuncId)  (l : List Ex) (p : Ex → Unit → Bool) (nx : Ex → Unit → Unit) (inv : Unit → Prop)
    (hf : ∀ x ∈ l, ∀ s : Unit, inv s → FnOK Tryz.prog f [aggS (exprC x)] [] (.bq (p x s)) ((fun s : Unit => []) (nx x s)) ∧ (p x s = false → inv (nx x s))) (s : Unit) (hs : inv s) :
    FnOK Tryz.prog 194 [pS (.sl 4 (l.map exprR)), .one (.cl f [] [])] [] (I (idxR p nx l 0 s).1) ((fun s : Unit => []) (idxR p nx l 0 s).2) := by
  refine fn_ok T Tryz.func194 (by kernel_rfl) rfl rfl rfl rfl fun C hC => ?_
  have hs0 := hs
  refine g_len 0 rfl fun hl => ?_
  rw [List.length_map] at hl
  repeat' first
    | refine g_go T hC true 400 rfl rfl ?_
    | refine g_cond rfl (fun h => ?_) (fun h => ?_)
    | refine g_end T hC (by kernel_rfl) ?_
    | refine g_splitD (fun h => ?_) (fun h => ?_)
    | refine g_splitG rfl rfl rfl (fun h => ?_) (fun h => ?_)
    | refine g_splitP rfl rfl (fun h => ?_) (fun h => ?_)
  rw [List.length_map]
  refine g_loop (fun q : Nat × Unit => q.1 ≤ l.length ∧ inv q.2 ∧ idxR p nx (l.drop q.1) q.1 q.2 = idxR p nx l 0 s) (fun q => (fun s : Unit => ([(0, pS (.sl 4 (l.map exprR))), (1, .one (.cl f [] [])), (7, I l.length), (8, I q.1)], [])) q.2) (fun q => l.length - q.1) hC
    (0, s) ⟨Nat.zero_le _, hs, rfl⟩ id ⟨rfl, ⟨rfl, rfl, rfl, rfl, trivial⟩, trivial, rfl, fun _ _ => rfl⟩ ?_
  generalize idxR p nx l 0 s = res
  clear hs hs0
  rintro ⟨i, s⟩ ⟨hi, hv, hn⟩
  simp only at hi hv hn
  refine g_run' T hC true 200 rfl ?_
  refine g_cond rfl (fun hh => ?_) (fun hh => ?_)
  · have hlt : i < l.length := by simpa using hh
    clear hh
    obtain ⟨x, hx⟩ := exists_at hlt
    rw [drop_at hx] at hn
    simp only [idxR] at hn
    have hv2 := (hf x (List.mem_of_getElem? hx) s hv).2
    repeat' first
      | refine g_go T hC true 400 rfl rfl ?_
      | refine g_cond rfl (fun h => ?_) (fun h => ?_)
      | refine g_end T hC (by kernel_rfl) ?_
      | refine g_splitD (fun h => ?_) (fun h => ?_)
      | refine g_splitG rfl rfl rfl (fun h => ?_) (fun h => ?_)
      | refine g_splitP rfl rfl (fun h => ?_) (fun h => ?_)
      | refine g_idx T hC rfl rfl rfl (Int.natCast_nonneg _) (map_atE hx) rfl rfl ?_
      | refine g_callR hC (hf x (List.mem_of_getElem? hx) s hv).1 id rfl rfl (LeSs.refl _) rfl rfl rfl rfl rfl rfl rfl rfl ?_
      | refine g_outR ?_
    · rw [if_pos (by assumption)] at hn
      subst hn
      exact g_fin ⟨.inl rfl, id, _, rfl, .refl _, trivial, rfl, rfl⟩
    · have hpf : p x s = false := by assumption
      rw [hpf] at hn
      simp only [Bool.false_eq_true, if_false] at hn
      rw [wrap64 (by omega)]
      exact g_round (i + 1, nx x s) ⟨by simp only; omega, hv2 hpf, hn⟩ id (by simp only; omega) ⟨rfl, ⟨rfl, rfl, rfl, rfl, trivial⟩, trivial, rfl, fun _ _ => rfl⟩
  · have hge : ¬ i < l.length := by simpa using hh
    rw [List.drop_eq_nil_of_le (by omega)] at hn
    simp only [idxR] at hn
    subst hn
    repeat' first
      | refine g_go T hC true 400 rfl rfl ?_
      | refine g_cond rfl (fun h => ?_) (fun h => ?_)
      | refine g_end T hC (by kernel_rfl) ?_
      | refine g_splitD (fun h => ?_) (fun h => ?_)
      | refine g_splitG rfl rfl rfl (fun h => ?_) (fun h => ?_)
      | refine g_splitP rfl rfl (fun h => ?_) (fun h => ?_)
      | refine g_outE ?_
    exact g_fin ⟨.inl rfl, id, _, rfl, .refl _, trivial, rfl, rfl⟩
theorem exprN_has (f : FuncId)  (l : List Ex) (p : Ex → Unit → Bool) (nx : Ex → Unit → Unit) (inv : Unit → Prop)
    (hf : ∀ x ∈ l, ∀ s : Unit, inv s → FnOK Tryz.prog f [aggS (exprC x)] [] (.bq (p x s)) ((fun s : Unit => []) (nx x s)) ∧ (p x s = false → inv (nx x s))) (s : Unit) (hs : inv s) :
    FnOK Tryz.prog 150 [pS (.sl 4 (l.map exprR)), .one (.cl f [] [])] [] (.bq (anyR p nx l s).1) ((fun s : Unit => []) (anyR p nx l s).2) := by
  refine fn_ok T Tryz.func150 (by kernel_rfl) rfl rfl rfl rfl fun C hC => ?_
  repeat' first
    | refine g_go T hC true 400 rfl rfl ?_
    | refine g_cond rfl (fun h => ?_) (fun h => ?_)
    | refine g_end T hC (by kernel_rfl) ?_
    | refine g_splitD (fun h => ?_) (fun h => ?_)
    | refine g_splitG rfl rfl rfl (fun h => ?_) (fun h => ?_)
    | refine g_splitP rfl rfl (fun h => ?_) (fun h => ?_)
    | refine g_callR hC (exprN_idx f  l p nx inv hf s hs) (nm []) rfl rfl (LeSs.refl _) rfl rfl rfl rfl rfl rfl rfl rfl ?_
  exact g_fin ⟨.inl rfl, id, _, rfl, .qq (anyR_1 p nx l 0 s), by rw [← anyR_2 p nx l 0 s]; exact trivial, rfl, rfl⟩

theorem exprN_any (f : FuncId) (l : List Ex) (p : Ex → Bool) (hf : ∀ x ∈ l, FnOK Tryz.prog f [aggS (exprC x)] [] (.bq (p x)) []) : FnOK Tryz.prog 150 [pS (.sl 4 (l.map exprR)), .one (.cl f [] [])] [] (.bq (l.any p)) [] := by
  have := exprN_has f l (fun x _ => p x) (fun _ s => s) (fun _ => True) (fun x hx s _ => ⟨hf x hx, fun _ => trivial⟩) () trivial
  rw [anyR_no] at this
  exact this
theorem fieldN_idx (f : FuncId)  (l : List Fld) (p : Fld → Unit → Bool) (nx : Fld → Unit → Unit) (inv : Unit → Prop)
    (hf : ∀ x ∈ l, ∀ s : Unit, inv s → FnOK Tryz.prog f [aggS (fieldR x)] [] (.bq (p x s)) ((fun s : Unit => []) (nx x s)) ∧ (p x s = false → inv (nx x s))) (s : Unit) (hs : inv s) :
    FnOK Tryz.prog 118 [pS (.sl 2 (l.map fieldR)), .one (.cl f [] [])] [] (I (idxR p nx l 0 s).1) ((fun s : Unit => []) (idxR p nx l 0 s).2) := by
  refine fn_ok T Tryz.func118 (by kernel_rfl) rfl rfl rfl rfl fun C hC => ?_
  have hs0 := hs
  refine g_len 0 rfl fun hl => ?_
  rw [List.length_map] at hl
  repeat' first
    | refine g_go T hC true 400 rfl rfl ?_
    | refine g_cond rfl (fun h => ?_) (fun h => ?_)
    | refine g_end T hC (by kernel_rfl) ?_
    | refine g_splitD (fun h => ?_) (fun h => ?_)
    | refine g_splitG rfl rfl rfl (fun h => ?_) (fun h => ?_)
    | refine g_splitP rfl rfl (fun h => ?_) (fun h => ?_)
  rw [List.length_map]
  refine g_loop (fun q : Nat × Unit => q.1 ≤ l.length ∧ inv q.2 ∧ idxR p nx (l.drop q.1) q.1 q.2 = idxR p nx l 0 s) (fun q => (fun s : Unit => ([(0, pS (.sl 2 (l.map fieldR))), (1, .one (.cl f [] [])), (7, I l.length), (8, I q.1)], [])) q.2) (fun q => l.length - q.1) hC
    (0, s) ⟨Nat.zero_le _, hs, rfl⟩ id ⟨rfl, ⟨rfl, rfl, rfl, rfl, trivial⟩, trivial, rfl, fun _ _ => rfl⟩ ?_
  generalize idxR p nx l 0 s = res
  clear hs hs0
  rintro ⟨i, s⟩ ⟨hi, hv, hn⟩
  simp only at hi hv hn
  refine g_run' T hC true 200 rfl ?_
  refine g_cond rfl (fun hh => ?_) (fun hh => ?_)
  · have hlt : i < l.length := by simpa using hh
    clear hh
    obtain ⟨x, hx⟩ := exists_at hlt
    rw [drop_at hx] at hn
    simp only [idxR] at hn
    have hv2 := (hf x (List.mem_of_getElem? hx) s hv).2
    repeat' first
      | refine g_go T hC true 400 rfl rfl ?_
      | refine g_cond rfl (fun h => ?_) (fun h => ?_)
      | refine g_end T hC (by kernel_rfl) ?_
      | refine g_splitD (fun h => ?_) (fun h => ?_)
      | refine g_splitG rfl rfl rfl (fun h => ?_) (fun h => ?_)
      | refine g_splitP rfl rfl (fun h => ?_) (fun h => ?_)
      | refine g_idx T hC rfl rfl rfl (Int.natCast_nonneg _) (map_at hx) rfl rfl ?_
      | refine g_callR hC (hf x (List.mem_of_getElem? hx) s hv).1 id rfl rfl (LeSs.refl _) rfl rfl rfl rfl rfl rfl rfl rfl ?_
      | refine g_outR ?_
    · rw [if_pos (by assumption)] at hn
      subst hn
      exact g_fin ⟨.inl rfl, id, _, rfl, .refl _, trivial, rfl, rfl⟩
    · have hpf : p x s = false := by assumption
      rw [hpf] at hn
      simp only [Bool.false_eq_true, if_false] at hn
      rw [wrap64 (by omega)]
      exact g_round (i + 1, nx x s) ⟨by simp only; omega, hv2 hpf, hn⟩ id (by simp only; omega) ⟨rfl, ⟨rfl, rfl, rfl, rfl, trivial⟩, trivial, rfl, fun _ _ => rfl⟩
  · have hge : ¬ i < l.length := by simpa using hh
    rw [List.drop_eq_nil_of_le (by omega)] at hn
    simp only [idxR] at hn
    subst hn
    repeat' first
      | refine g_go T hC true 400 rfl rfl ?_
      | refine g_cond rfl (fun h => ?_) (fun h => ?_)
      | refine g_end T hC (by kernel_rfl) ?_
      | refine g_splitD (fun h => ?_) (fun h => ?_)
      | refine g_splitG rfl rfl rfl (fun h => ?_) (fun h => ?_)
      | refine g_splitP rfl rfl (fun h => ?_) (fun h => ?_)
      | refine g_outE ?_
    exact g_fin ⟨.inl rfl, id, _, rfl, .refl _, trivial, rfl, rfl⟩
theorem fieldN_has (f : FuncId)  (l : List Fld) (p : Fld → Unit → Bool) (nx : Fld → Unit → Unit) (inv : Unit → Prop)
    (hf : ∀ x ∈ l, ∀ s : Unit, inv s → FnOK Tryz.prog f [aggS (fieldR x)] [] (.bq (p x s)) ((fun s : Unit => []) (nx x s)) ∧ (p x s = false → inv (nx x s))) (s : Unit) (hs : inv s) :
    FnOK Tryz.prog 111 [pS (.sl 2 (l.map fieldR)), .one (.cl f [] [])] [] (.bq (anyR p nx l s).1) ((fun s : Unit => []) (anyR p nx l s).2) := by
  refine fn_ok T Tryz.func111 (by kernel_rfl) rfl rfl rfl rfl fun C hC => ?_
  repeat' first
    | refine g_go T hC true 400 rfl rfl ?_
    | refine g_cond rfl (fun h => ?_) (fun h => ?_)
    | refine g_end T hC (by kernel_rfl) ?_
    | refine g_splitD (fun h => ?_) (fun h => ?_)
    | refine g_splitG rfl rfl rfl (fun h => ?_) (fun h => ?_)
    | refine g_splitP rfl rfl (fun h => ?_) (fun h => ?_)
    | refine g_callR hC (fieldN_idx f  l p nx inv hf s hs) (nm []) rfl rfl (LeSs.refl _) rfl rfl rfl rfl rfl rfl rfl rfl ?_
  exact g_fin ⟨.inl rfl, id, _, rfl, .qq (anyR_1 p nx l 0 s), by rw [← anyR_2 p nx l 0 s]; exact trivial, rfl, rfl⟩

theorem fieldN_any (f : FuncId) (l : List Fld) (p : Fld → Bool) (hf : ∀ x ∈ l, FnOK Tryz.prog f [aggS (fieldR x)] [] (.bq (p x)) []) : FnOK Tryz.prog 111 [pS (.sl 2 (l.map fieldR)), .one (.cl f [] [])] [] (.bq (l.any p)) [] := by
  have := fieldN_has f l (fun x _ => p x) (fun _ s => s) (fun _ => True) (fun x hx s _ => ⟨hf x hx, fun _ => trivial⟩) () trivial
  rw [anyR_no] at this
  exact this
theorem boundN_idx (f : FuncId)  (l : List Bd) (p : Bd → Unit → Bool) (nx : Bd → Unit → Unit) (inv : Unit → Prop)
    (hf : ∀ x ∈ l, ∀ s : Unit, inv s → FnOK Tryz.prog f [aggS (boundR x)] [] (.bq (p x s)) ((fun s : Unit => []) (nx x s)) ∧ (p x s = false → inv (nx x s))) (s : Unit) (hs : inv s) :
    FnOK Tryz.prog 208 [pS (.sl 5 (l.map boundR)), .one (.cl f [] [])] [] (I (idxR p nx l 0 s).1) ((fun s : Unit => []) (idxR p nx l 0 s).2) := by
  refine fn_ok T Tryz.func208 (by kernel_rfl) rfl rfl rfl rfl fun C hC => ?_
  have hs0 := hs
  refine g_len 0 rfl fun hl => ?_
  rw [List.length_map] at hl
  repeat' first
    | refine g_go T hC true 400 rfl rfl ?_
    | refine g_cond rfl (fun h => ?_) (fun h => ?_)
    | refine g_end T hC (by kernel_rfl) ?_
    | refine g_splitD (fun h => ?_) (fun h => ?_)
    | refine g_splitG rfl rfl rfl (fun h => ?_) (fun h => ?_)
    | refine g_splitP rfl rfl (fun h => ?_) (fun h => ?_)
  rw [List.length_map]
  refine g_loop (fun q : Nat × Unit => q.1 ≤ l.length ∧ inv q.2 ∧ idxR p nx (l.drop q.1) q.1 q.2 = idxR p nx l 0 s) (fun q => (fun s : Unit => ([(0, pS (.sl 5 (l.map boundR))), (1, .one (.cl f [] [])), (7, I l.length), (8, I q.1)], [])) q.2) (fun q => l.length - q.1) hC
    (0, s) ⟨Nat.zero_le _, hs, rfl⟩ id ⟨rfl, ⟨rfl, rfl, rfl, rfl, trivial⟩, trivial, rfl, fun _ _ => rfl⟩ ?_
  generalize idxR p nx l 0 s = res
  clear hs hs0
  rintro ⟨i, s⟩ ⟨hi, hv, hn⟩
  simp only at hi hv hn
  refine g_run' T hC true 200 rfl ?_
  refine g_cond rfl (fun hh => ?_) (fun hh => ?_)
  · have hlt : i < l.length := by simpa using hh
    clear hh
    obtain ⟨x, hx⟩ := exists_at hlt
    rw [drop_at hx] at hn
    simp only [idxR] at hn
    have hv2 := (hf x (List.mem_of_getElem? hx) s hv).2
    repeat' first
      | refine g_go T hC true 400 rfl rfl ?_
      | refine g_cond rfl (fun h => ?_) (fun h => ?_)
      | refine g_end T hC (by kernel_rfl) ?_
      | refine g_splitD (fun h => ?_) (fun h => ?_)
      | refine g_splitG rfl rfl rfl (fun h => ?_) (fun h => ?_)
      | refine g_splitP rfl rfl (fun h => ?_) (fun h => ?_)
      | refine g_idx T hC rfl rfl rfl (Int.natCast_nonneg _) (map_at hx) rfl rfl ?_
      | refine g_callR hC (hf x (List.mem_of_getElem? hx) s hv).1 id rfl rfl (LeSs.refl _) rfl rfl rfl rfl rfl rfl rfl rfl ?_
      | refine g_outR ?_
    · rw [if_pos (by assumption)] at hn
      subst hn
      exact g_fin ⟨.inl rfl, id, _, rfl, .refl _, trivial, rfl, rfl⟩
    · have hpf : p x s = false := by assumption
      rw [hpf] at hn
      simp only [Bool.false_eq_true, if_false] at hn
      rw [wrap64 (by omega)]
      exact g_round (i + 1, nx x s) ⟨by simp only; omega, hv2 hpf, hn⟩ id (by simp only; omega) ⟨rfl, ⟨rfl, rfl, rfl, rfl, trivial⟩, trivial, rfl, fun _ _ => rfl⟩
  · have hge : ¬ i < l.length := by simpa using hh
    rw [List.drop_eq_nil_of_le (by omega)] at hn
    simp only [idxR] at hn
    subst hn
    repeat' first
      | refine g_go T hC true 400 rfl rfl ?_
      | refine g_cond rfl (fun h => ?_) (fun h => ?_)
      | refine g_end T hC (by kernel_rfl) ?_
      | refine g_splitD (fun h => ?_) (fun h => ?_)
      | refine g_splitG rfl rfl rfl (fun h => ?_) (fun h => ?_)
      | refine g_splitP rfl rfl (fun h => ?_) (fun h => ?_)
      | refine g_outE ?_
    exact g_fin ⟨.inl rfl, id, _, rfl, .refl _, trivial, rfl, rfl⟩
theorem boundN_has (f : FuncId)  (l : List Bd) (p : Bd → Unit → Bool) (nx : Bd → Unit → Unit) (inv : Unit → Prop)
    (hf : ∀ x ∈ l, ∀ s : Unit, inv s → FnOK Tryz.prog f [aggS (boundR x)] [] (.bq (p x s)) ((fun s : Unit => []) (nx x s)) ∧ (p x s = false → inv (nx x s))) (s : Unit) (hs : inv s) :
    FnOK Tryz.prog 166 [pS (.sl 5 (l.map boundR)), .one (.cl f [] [])] [] (.bq (anyR p nx l s).1) ((fun s : Unit => []) (anyR p nx l s).2) := by
  refine fn_ok T Tryz.func166 (by kernel_rfl) rfl rfl rfl rfl fun C hC => ?_
  repeat' first
    | refine g_go T hC true 400 rfl rfl ?_
    | refine g_cond rfl (fun h => ?_) (fun h => ?_)
    | refine g_end T hC (by kernel_rfl) ?_
    | refine g_splitD (fun h => ?_) (fun h => ?_)
    | refine g_splitG rfl rfl rfl (fun h => ?_) (fun h => ?_)
    | refine g_splitP rfl rfl (fun h => ?_) (fun h => ?_)
    | refine g_callR hC (boundN_idx f  l p nx inv hf s hs) (nm []) rfl rfl (LeSs.refl _) rfl rfl rfl rfl rfl rfl rfl rfl ?_
  exact g_fin ⟨.inl rfl, id, _, rfl, .qq (anyR_1 p nx l 0 s), by rw [← anyR_2 p nx l 0 s]; exact trivial, rfl, rfl⟩

theorem boundN_any (f : FuncId) (l : List Bd) (p : Bd → Bool) (hf : ∀ x ∈ l, FnOK Tryz.prog f [aggS (boundR x)] [] (.bq (p x)) []) : FnOK Tryz.prog 166 [pS (.sl 5 (l.map boundR)), .one (.cl f [] [])] [] (.bq (l.any p)) [] := by
  have := boundN_has f l (fun x _ => p x) (fun _ s => s) (fun _ => True) (fun x hx s _ => ⟨hf x hx, fun _ => trivial⟩) () trivial
  rw [anyR_no] at this
  exact this
theorem typeN_idx (f : FuncId)  (l : List NodeT) (p : NodeT → Unit → Bool) (nx : NodeT → Unit → Unit) (inv : Unit → Prop)
    (hf : ∀ x ∈ l, ∀ s : Unit, inv s → FnOK Tryz.prog f [aggS (nodeTR x)] [] (.bq (p x s)) ((fun s : Unit => []) (nx x s)) ∧ (p x s = false → inv (nx x s))) (s : Unit) (hs : inv s) :
    FnOK Tryz.prog 116 [pS (.sl 2 (l.map nodeTR)), .one (.cl f [] [])] [] (I (idxR p nx l 0 s).1) ((fun s : Unit => []) (idxR p nx l 0 s).2) := by
  refine fn_ok T Tryz.func116 (by kernel_rfl) rfl rfl rfl rfl fun C hC => ?_
  have hs0 := hs
  refine g_len 0 rfl fun hl => ?_
  rw [List.length_map] at hl
  repeat' first
    | refine g_go T hC true 400 rfl rfl ?_
    | refine g_cond rfl (fun h => ?_) (fun h => ?_)
    | refine g_end T hC (by kernel_rfl) ?_
    | refine g_splitD (fun h => ?_) (fun h => ?_)
    | refine g_splitG rfl rfl rfl (fun h => ?_) (fun h => ?_)
    | refine g_splitP rfl rfl (fun h => ?_) (fun h => ?_)
  rw [List.length_map]
  refine g_loop (fun q : Nat × Unit => q.1 ≤ l.length ∧ inv q.2 ∧ idxR p nx (l.drop q.1) q.1 q.2 = idxR p nx l 0 s) (fun q => (fun s : Unit => ([(0, pS (.sl 2 (l.map nodeTR))), (1, .one (.cl f [] [])), (7, I l.length), (8, I q.1)], [])) q.2) (fun q => l.length - q.1) hC
    (0, s) ⟨Nat.zero_le _, hs, rfl⟩ id ⟨rfl, ⟨rfl, rfl, rfl, rfl, trivial⟩, trivial, rfl, fun _ _ => rfl⟩ ?_
  generalize idxR p nx l 0 s = res
  clear hs hs0
  rintro ⟨i, s⟩ ⟨hi, hv, hn⟩
  simp only at hi hv hn
  refine g_run' T hC true 200 rfl ?_
  refine g_cond rfl (fun hh => ?_) (fun hh => ?_)
  · have hlt : i < l.length := by simpa using hh
    clear hh
    obtain ⟨x, hx⟩ := exists_at hlt
    rw [drop_at hx] at hn
    simp only [idxR] at hn
    have hv2 := (hf x (List.mem_of_getElem? hx) s hv).2
    repeat' first
      | refine g_go T hC true 400 rfl rfl ?_
      | refine g_cond rfl (fun h => ?_) (fun h => ?_)
      | refine g_end T hC (by kernel_rfl) ?_
      | refine g_splitD (fun h => ?_) (fun h => ?_)
      | refine g_splitG rfl rfl rfl (fun h => ?_) (fun h => ?_)
      | refine g_splitP rfl rfl (fun h => ?_) (fun h => ?_)
      | refine g_idx T hC rfl rfl rfl (Int.natCast_nonneg _) (map_at hx) rfl rfl ?_
      | refine g_callR hC (hf x (List.mem_of_getElem? hx) s hv).1 id rfl rfl (LeSs.refl _) rfl rfl rfl rfl rfl rfl rfl rfl ?_
      | refine g_outR ?_
    · rw [if_pos (by assumption)] at hn
      subst hn
      exact g_fin ⟨.inl rfl, id, _, rfl, .refl _, trivial, rfl, rfl⟩
    · have hpf : p x s = false := by assumption
      rw [hpf] at hn
      simp only [Bool.false_eq_true, if_false] at hn
      rw [wrap64 (by omega)]
      exact g_round (i + 1, nx x s) ⟨by simp only; omega, hv2 hpf, hn⟩ id (by simp only; omega) ⟨rfl, ⟨rfl, rfl, rfl, rfl, trivial⟩, trivial, rfl, fun _ _ => rfl⟩
  · have hge : ¬ i < l.length := by simpa using hh
    rw [List.drop_eq_nil_of_le (by omega)] at hn
    simp only [idxR] at hn
    subst hn
    repeat' first
      | refine g_go T hC true 400 rfl rfl ?_
      | refine g_cond rfl (fun h => ?_) (fun h => ?_)
      | refine g_end T hC (by kernel_rfl) ?_
      | refine g_splitD (fun h => ?_) (fun h => ?_)
      | refine g_splitG rfl rfl rfl (fun h => ?_) (fun h => ?_)
      | refine g_splitP rfl rfl (fun h => ?_) (fun h => ?_)
      | refine g_outE ?_
    exact g_fin ⟨.inl rfl, id, _, rfl, .refl _, trivial, rfl, rfl⟩
theorem typeN_has (f : FuncId)  (l : List NodeT) (p : NodeT → Unit → Bool) (nx : NodeT → Unit → Unit) (inv : Unit → Prop)
    (hf : ∀ x ∈ l, ∀ s : Unit, inv s → FnOK Tryz.prog f [aggS (nodeTR x)] [] (.bq (p x s)) ((fun s : Unit => []) (nx x s)) ∧ (p x s = false → inv (nx x s))) (s : Unit) (hs : inv s) :
    FnOK Tryz.prog 104 [pS (.sl 2 (l.map nodeTR)), .one (.cl f [] [])] [] (.bq (anyR p nx l s).1) ((fun s : Unit => []) (anyR p nx l s).2) := by
  refine fn_ok T Tryz.func104 (by kernel_rfl) rfl rfl rfl rfl fun C hC => ?_
  repeat' first
    | refine g_go T hC true 400 rfl rfl ?_
    | refine g_cond rfl (fun h => ?_) (fun h => ?_)
    | refine g_end T hC (by kernel_rfl) ?_
    | refine g_splitD (fun h => ?_) (fun h => ?_)
    | refine g_splitG rfl rfl rfl (fun h => ?_) (fun h => ?_)
    | refine g_splitP rfl rfl (fun h => ?_) (fun h => ?_)
    | refine g_callR hC (typeN_idx f  l p nx inv hf s hs) (nm []) rfl rfl (LeSs.refl _) rfl rfl rfl rfl rfl rfl rfl rfl ?_
  exact g_fin ⟨.inl rfl, id, _, rfl, .qq (anyR_1 p nx l 0 s), by rw [← anyR_2 p nx l 0 s]; exact trivial, rfl, rfl⟩

theorem typeN_any (f : FuncId) (l : List NodeT) (p : NodeT → Bool) (hf : ∀ x ∈ l, FnOK Tryz.prog f [aggS (nodeTR x)] [] (.bq (p x)) []) : FnOK Tryz.prog 104 [pS (.sl 2 (l.map nodeTR)), .one (.cl f [] [])] [] (.bq (l.any p)) [] := by
  have := typeN_has f l (fun x _ => p x) (fun _ s => s) (fun _ => True) (fun x hx s _ => ⟨hf x hx, fun _ => trivial⟩) () trivial
  rw [anyR_no] at this
  exact this
theorem procN_idx (f : FuncId)  (l : List Pr) (p : Pr → Unit → Bool) (nx : Pr → Unit → Unit) (inv : Unit → Prop)
    (hf : ∀ x ∈ l, ∀ s : Unit, inv s → FnOK Tryz.prog f [aggS (procR x)] [] (.bq (p x s)) ((fun s : Unit => []) (nx x s)) ∧ (p x s = false → inv (nx x s))) (s : Unit) (hs : inv s) :
    FnOK Tryz.prog 149 [pS (.sl 5 (l.map procR)), .one (.cl f [] [])] [] (I (idxR p nx l 0 s).1) ((fun s : Unit => []) (idxR p nx l 0 s).2) := by
  refine fn_ok T Tryz.func149 (by kernel_rfl) rfl rfl rfl rfl fun C hC => ?_
  have hs0 := hs
  refine g_len 0 rfl fun hl => ?_
  rw [List.length_map] at hl
  repeat' first
    | refine g_go T hC true 400 rfl rfl ?_
    | refine g_cond rfl (fun h => ?_) (fun h => ?_)
    | refine g_end T hC (by kernel_rfl) ?_
    | refine g_splitD (fun h => ?_) (fun h => ?_)
    | refine g_splitG rfl rfl rfl (fun h => ?_) (fun h => ?_)
    | refine g_splitP rfl rfl (fun h => ?_) (fun h => ?_)
  rw [List.length_map]
  refine g_loop (fun q : Nat × Unit => q.1 ≤ l.length ∧ inv q.2 ∧ idxR p nx (l.drop q.1) q.1 q.2 = idxR p nx l 0 s) (fun q => (fun s : Unit => ([(0, pS (.sl 5 (l.map procR))), (1, .one (.cl f [] [])), (7, I l.length), (8, I q.1)], [])) q.2) (fun q => l.length - q.1) hC
    (0, s) ⟨Nat.zero_le _, hs, rfl⟩ id ⟨rfl, ⟨rfl, rfl, rfl, rfl, trivial⟩, trivial, rfl, fun _ _ => rfl⟩ ?_
  generalize idxR p nx l 0 s = res
  clear hs hs0
  rintro ⟨i, s⟩ ⟨hi, hv, hn⟩
  simp only at hi hv hn
  refine g_run' T hC true 200 rfl ?_
  refine g_cond rfl (fun hh => ?_) (fun hh => ?_)
  · have hlt : i < l.length := by simpa using hh
    clear hh
    obtain ⟨x, hx⟩ := exists_at hlt
    rw [drop_at hx] at hn
    simp only [idxR] at hn
    have hv2 := (hf x (List.mem_of_getElem? hx) s hv).2
    repeat' first
      | refine g_go T hC true 400 rfl rfl ?_
      | refine g_cond rfl (fun h => ?_) (fun h => ?_)
      | refine g_end T hC (by kernel_rfl) ?_
      | refine g_splitD (fun h => ?_) (fun h => ?_)
      | refine g_splitG rfl rfl rfl (fun h => ?_) (fun h => ?_)
      | refine g_splitP rfl rfl (fun h => ?_) (fun h => ?_)
      | refine g_idx T hC rfl rfl rfl (Int.natCast_nonneg _) (map_at hx) rfl rfl ?_
      | refine g_callR hC (hf x (List.mem_of_getElem? hx) s hv).1 id rfl rfl (LeSs.refl _) rfl rfl rfl rfl rfl rfl rfl rfl ?_
      | refine g_outR ?_
    · rw [if_pos (by assumption)] at hn
      subst hn
      exact g_fin ⟨.inl rfl, id, _, rfl, .refl _, trivial, rfl, rfl⟩
    · have hpf : p x s = false := by assumption
      rw [hpf] at hn
      simp only [Bool.false_eq_true, if_false] at hn
      rw [wrap64 (by omega)]
      exact g_round (i + 1, nx x s) ⟨by simp only; omega, hv2 hpf, hn⟩ id (by simp only; omega) ⟨rfl, ⟨rfl, rfl, rfl, rfl, trivial⟩, trivial, rfl, fun _ _ => rfl⟩
  · have hge : ¬ i < l.length := by simpa using hh
    rw [List.drop_eq_nil_of_le (by omega)] at hn
    simp only [idxR] at hn
    subst hn
    repeat' first
      | refine g_go T hC true 400 rfl rfl ?_
      | refine g_cond rfl (fun h => ?_) (fun h => ?_)
      | refine g_end T hC (by kernel_rfl) ?_
      | refine g_splitD (fun h => ?_) (fun h => ?_)
      | refine g_splitG rfl rfl rfl (fun h => ?_) (fun h => ?_)
      | refine g_splitP rfl rfl (fun h => ?_) (fun h => ?_)
      | refine g_outE ?_
    exact g_fin ⟨.inl rfl, id, _, rfl, .refl _, trivial, rfl, rfl⟩
theorem procN_has (f : FuncId)  (l : List Pr) (p : Pr → Unit → Bool) (nx : Pr → Unit → Unit) (inv : Unit → Prop)
    (hf : ∀ x ∈ l, ∀ s : Unit, inv s → FnOK Tryz.prog f [aggS (procR x)] [] (.bq (p x s)) ((fun s : Unit => []) (nx x s)) ∧ (p x s = false → inv (nx x s))) (s : Unit) (hs : inv s) :
    FnOK Tryz.prog 87 [pS (.sl 5 (l.map procR)), .one (.cl f [] [])] [] (.bq (anyR p nx l s).1) ((fun s : Unit => []) (anyR p nx l s).2) := by
  refine fn_ok T Tryz.func87 (by kernel_rfl) rfl rfl rfl rfl fun C hC => ?_
  repeat' first
    | refine g_go T hC true 400 rfl rfl ?_
    | refine g_cond rfl (fun h => ?_) (fun h => ?_)
    | refine g_end T hC (by kernel_rfl) ?_
    | refine g_splitD (fun h => ?_) (fun h => ?_)
    | refine g_splitG rfl rfl rfl (fun h => ?_) (fun h => ?_)
    | refine g_splitP rfl rfl (fun h => ?_) (fun h => ?_)
    | refine g_callR hC (procN_idx f  l p nx inv hf s hs) (nm []) rfl rfl (LeSs.refl _) rfl rfl rfl rfl rfl rfl rfl rfl ?_
  exact g_fin ⟨.inl rfl, id, _, rfl, .qq (anyR_1 p nx l 0 s), by rw [← anyR_2 p nx l 0 s]; exact trivial, rfl, rfl⟩

theorem procN_any (f : FuncId) (l : List Pr) (p : Pr → Bool) (hf : ∀ x ∈ l, FnOK Tryz.prog f [aggS (procR x)] [] (.bq (p x)) []) : FnOK Tryz.prog 87 [pS (.sl 5 (l.map procR)), .one (.cl f [] [])] [] (.bq (l.any p)) [] := by
  have := procN_has f l (fun x _ => p x) (fun _ s => s) (fun _ => True) (fun x hx s _ => ⟨hf x hx, fun _ => trivial⟩) () trivial
  rw [anyR_no] at this
  exact this
theorem memN_idx (f : FuncId)  (l : List Hp) (p : Hp → Unit → Bool) (nx : Hp → Unit → Unit) (inv : Unit → Prop)
    (hf : ∀ x ∈ l, ∀ s : Unit, inv s → FnOK Tryz.prog f [aggS (memR x)] [] (.bq (p x s)) ((fun s : Unit => []) (nx x s)) ∧ (p x s = false → inv (nx x s))) (s : Unit) (hs : inv s) :
    FnOK Tryz.prog 129 [pS (.sl 2 (l.map memR)), .one (.cl f [] [])] [] (I (idxR p nx l 0 s).1) ((fun s : Unit => []) (idxR p nx l 0 s).2) := by
  refine fn_ok T Tryz.func129 (by kernel_rfl) rfl rfl rfl rfl fun C hC => ?_
  have hs0 := hs
  refine g_len 0 rfl fun hl => ?_
  rw [List.length_map] at hl
  repeat' first
    | refine g_go T hC true 400 rfl rfl ?_
    | refine g_cond rfl (fun h => ?_) (fun h => ?_)
    | refine g_end T hC (by kernel_rfl) ?_
    | refine g_splitD (fun h => ?_) (fun h => ?_)
    | refine g_splitG rfl rfl rfl (fun h => ?_) (fun h => ?_)
    | refine g_splitP rfl rfl (fun h => ?_) (fun h => ?_)
  rw [List.length_map]
  refine g_loop (fun q : Nat × Unit => q.1 ≤ l.length ∧ inv q.2 ∧ idxR p nx (l.drop q.1) q.1 q.2 = idxR p nx l 0 s) (fun q => (fun s : Unit => ([(0, pS (.sl 2 (l.map memR))), (1, .one (.cl f [] [])), (7, I l.length), (8, I q.1)], [])) q.2) (fun q => l.length - q.1) hC
    (0, s) ⟨Nat.zero_le _, hs, rfl⟩ id ⟨rfl, ⟨rfl, rfl, rfl, rfl, trivial⟩, trivial, rfl, fun _ _ => rfl⟩ ?_
  generalize idxR p nx l 0 s = res
  clear hs hs0
  rintro ⟨i, s⟩ ⟨hi, hv, hn⟩
  simp only at hi hv hn
  refine g_run' T hC true 200 rfl ?_
  refine g_cond rfl (fun hh => ?_) (fun hh => ?_)
  · have hlt : i < l.length := by simpa using hh
    clear hh
    obtain ⟨x, hx⟩ := exists_at hlt
    rw [drop_at hx] at hn
    simp only [idxR] at hn
    have hv2 := (hf x (List.mem_of_getElem? hx) s hv).2
    repeat' first
      | refine g_go T hC true 400 rfl rfl ?_
      | refine g_cond rfl (fun h => ?_) (fun h => ?_)
      | refine g_end T hC (by kernel_rfl) ?_
      | refine g_splitD (fun h => ?_) (fun h => ?_)
      | refine g_splitG rfl rfl rfl (fun h => ?_) (fun h => ?_)
      | refine g_splitP rfl rfl (fun h => ?_) (fun h => ?_)
      | refine g_idx T hC rfl rfl rfl (Int.natCast_nonneg _) (map_at hx) rfl rfl ?_
      | refine g_callR hC (hf x (List.mem_of_getElem? hx) s hv).1 id rfl rfl (LeSs.refl _) rfl rfl rfl rfl rfl rfl rfl rfl ?_
      | refine g_outR ?_
    · rw [if_pos (by assumption)] at hn
      subst hn
      exact g_fin ⟨.inl rfl, id, _, rfl, .refl _, trivial, rfl, rfl⟩
    · have hpf : p x s = false := by assumption
      rw [hpf] at hn
      simp only [Bool.false_eq_true, if_false] at hn
      rw [wrap64 (by omega)]
      exact g_round (i + 1, nx x s) ⟨by simp only; omega, hv2 hpf, hn⟩ id (by simp only; omega) ⟨rfl, ⟨rfl, rfl, rfl, rfl, trivial⟩, trivial, rfl, fun _ _ => rfl⟩
  · have hge : ¬ i < l.length := by simpa using hh
    rw [List.drop_eq_nil_of_le (by omega)] at hn
    simp only [idxR] at hn
    subst hn
    repeat' first
      | refine g_go T hC true 400 rfl rfl ?_
      | refine g_cond rfl (fun h => ?_) (fun h => ?_)
      | refine g_end T hC (by kernel_rfl) ?_
      | refine g_splitD (fun h => ?_) (fun h => ?_)
      | refine g_splitG rfl rfl rfl (fun h => ?_) (fun h => ?_)
      | refine g_splitP rfl rfl (fun h => ?_) (fun h => ?_)
      | refine g_outE ?_
    exact g_fin ⟨.inl rfl, id, _, rfl, .refl _, trivial, rfl, rfl⟩
theorem memN_has (f : FuncId)  (l : List Hp) (p : Hp → Unit → Bool) (nx : Hp → Unit → Unit) (inv : Unit → Prop)
    (hf : ∀ x ∈ l, ∀ s : Unit, inv s → FnOK Tryz.prog f [aggS (memR x)] [] (.bq (p x s)) ((fun s : Unit => []) (nx x s)) ∧ (p x s = false → inv (nx x s))) (s : Unit) (hs : inv s) :
    FnOK Tryz.prog 64 [pS (.sl 2 (l.map memR)), .one (.cl f [] [])] [] (.bq (anyR p nx l s).1) ((fun s : Unit => []) (anyR p nx l s).2) := by
  refine fn_ok T Tryz.func64 (by kernel_rfl) rfl rfl rfl rfl fun C hC => ?_
  repeat' first
    | refine g_go T hC true 400 rfl rfl ?_
    | refine g_cond rfl (fun h => ?_) (fun h => ?_)
    | refine g_end T hC (by kernel_rfl) ?_
    | refine g_splitD (fun h => ?_) (fun h => ?_)
    | refine g_splitG rfl rfl rfl (fun h => ?_) (fun h => ?_)
    | refine g_splitP rfl rfl (fun h => ?_) (fun h => ?_)
    | refine g_callR hC (memN_idx f  l p nx inv hf s hs) (nm []) rfl rfl (LeSs.refl _) rfl rfl rfl rfl rfl rfl rfl rfl ?_
  exact g_fin ⟨.inl rfl, id, _, rfl, .qq (anyR_1 p nx l 0 s), by rw [← anyR_2 p nx l 0 s]; exact trivial, rfl, rfl⟩

theorem memN_any (f : FuncId) (l : List Hp) (p : Hp → Bool) (hf : ∀ x ∈ l, FnOK Tryz.prog f [aggS (memR x)] [] (.bq (p x)) []) : FnOK Tryz.prog 64 [pS (.sl 2 (l.map memR)), .one (.cl f [] [])] [] (.bq (l.any p)) [] := by
  have := memN_has f l (fun x _ => p x) (fun _ s => s) (fun _ => True) (fun x hx s _ => ⟨hf x hx, fun _ => trivial⟩) () trivial
  rw [anyR_no] at this
  exact this
end Hw.Z
namespace Hw.Z
open Go Go.Proofs Hw.M

theorem take_ok (c : Int) (h : -1000000 ≤ c) (h2 : c ≤ 1000000) : FnOK Tryz.prog 209 [.one (.bx 0 0)] [(0, .box [.p (ki c)])] (.bq (decide (0 ≤ c - 1))) [(0, .box [.p (ki (c - 1))])] := by
  refine fn_ok T Tryz.func209 (by kernel_rfl) rfl rfl rfl rfl fun C hC => ?_
  repeat' first
    | refine g_go T hC true 400 rfl rfl ?_
    | refine g_cond rfl (fun h => ?_) (fun h => ?_)
    | refine g_end T hC (by kernel_rfl) ?_
    | refine g_splitD (fun h => ?_) (fun h => ?_)
    | refine g_splitG rfl rfl rfl (fun h => ?_) (fun h => ?_)
    | refine g_splitP rfl rfl (fun h => ?_) (fun h => ?_)
  rw [wrap64 (by omega)]
  exact g_fin ⟨.inl rfl, id, _, rfl, .qq rfl, ⟨rfl, trivial⟩, rfl, rfl⟩
def partsN (op : Int) : Int := if partsS op = -2 then 2 else partsS op
theorem partsS_mid {op : Int} (h1 : 9 ≤ op) (h2 : op ≤ 23) (h3 : op ≠ 18) (h4 : op ≠ 21) : partsS op = 2 := by
  unfold partsS
  rw [if_neg (by simp; omega), if_neg (by simp; omega), if_neg (by omega), if_neg (by omega), if_pos (by simp; omega)]
theorem partsS_out {op : Int} (h1 : op < 1 ∨ 24 < op) : partsS op = -2 := by
  unfold partsS
  rw [if_neg (by simp; omega), if_neg (by simp; omega), if_neg (by omega), if_neg (by omega), if_neg (by simp; omega)]
theorem astParts_ok (op : Int) : FnOK Tryz.prog 234 [I op] [] (.tup [I (partsN op), .bq (!decide (partsS op = -2))]) [] := by
  have key : ∀ n b, (n = partsN op ∧ b = !decide (partsS op = -2)) → LeS (.tup [I n, Bo b]) (.tup [I (partsN op), .bq (!decide (partsS op = -2))]) := fun n b h => by
    obtain ⟨rfl, rfl⟩ := h; exact LeS.tup (.cons (.refl _) (.cons (LeS.qb rfl) .nil))
  have key2 : ∀ n b, (n = partsN op ∧ b = !decide (partsS op = -2)) → LeS (.tup [I n, .bq b]) (.tup [I (partsN op), .bq (!decide (partsS op = -2))]) := fun n b h => by
    obtain ⟨rfl, rfl⟩ := h; exact LeS.refl _
  refine fn_ok T Tryz.func234 (by kernel_rfl) rfl rfl rfl rfl fun C hC => ?_
  repeat' first
    | refine g_go T hC true 400 rfl rfl ?_
    | refine g_condS rfl (fun h => ?_) (fun h => ?_)
    | refine g_end T hC (by kernel_rfl) ?_
    | refine g_splitD (fun h => ?_) (fun h => ?_)
    | refine g_splitG rfl rfl rfl (fun h => ?_) (fun h => ?_)
    | refine g_splitP rfl rfl (fun h => ?_) (fun h => ?_)
  all_goals
    first
      | refine g_fin ⟨.inl rfl, id, _, rfl, key _ _ ?_, trivial, rfl, rfl⟩
      | refine g_fin ⟨.inl rfl, id, _, rfl, key2 _ _ ?_, trivial, rfl, rfl⟩
    clear key key2
    first
      | (obtain rfl := of_decide_eq_true h; exact ⟨rfl, rfl⟩)
      | (simp only [decide_eq_true_eq, decide_eq_false_iff_not] at *
         by_cases h23 : op ≤ 23
         · have e := partsS_mid (op := op) (by omega) h23 (by omega) (by omega)
           exact ⟨by rw [partsN, e]; rfl, by rw [e]; simp [h23]⟩
         · have e := partsS_out (op := op) (by omega)
           exact ⟨by rw [partsN, e]; rfl, by rw [e]; simp [h23]⟩)
      | (simp only [decide_eq_true_eq, decide_eq_false_iff_not] at *
         have e := partsS_out (op := op) (by omega)
         exact ⟨by rw [partsN, e]; rfl, by rw [e]; rfl⟩)

def nPart (e : Ex) : Bool := if e.op = 1 then decide (0 ≤ e.n) && decide (e.n ≤ 1099511627776) else if e.op = 2 then decide (e.n = 0) || decide (e.n = 1) else decide (e.n = 0)
theorem nodeS_eq (e : Ex) : nodeS e = (!decide (partsS e.op = -2) && !(decide (0 ≤ partsS e.op) && !decide ((e.l.length : Int) = partsS e.op)) && !(decide (partsS e.op = -1) && decide (6 < (e.l.length : Int))) && namedS e && nPart e) := rfl
theorem nodeS_eq2 (e : Ex) : nodeS e = (!decide (partsS e.op = -2) && (namedS e && nPart e) && !(decide (0 ≤ partsS e.op) && !decide ((e.l.length : Int) = partsS e.op)) && !(decide (partsS e.op = -1) && decide (6 < (e.l.length : Int)))) := by
  rw [nodeS_eq]
  generalize decide (partsS e.op = -2) = a
  generalize (decide (0 ≤ partsS e.op) && !decide ((e.l.length : Int) = partsS e.op)) = b
  generalize (decide (partsS e.op = -1) && decide (6 < (e.l.length : Int))) = c
  cases a <;> cases b <;> cases c <;> cases namedS e <;> cases nPart e <;> rfl
theorem partsS_ge (op : Int) : -2 ≤ partsS op ∧ (partsS op < 0 → partsS op = -1 ∨ partsS op = -2) := by
  unfold partsS
  repeat' split
  all_goals omega
theorem astNamed_ok (e : Ex) : FnOK Tryz.prog 235 [aggS (exprC e)] [] (.bq (namedS e && nPart e)) [] := by
  refine fn_ok T Tryz.func235 (by kernel_rfl) rfl rfl rfl rfl fun C hC => ?_
  repeat' first
    | refine g_go T hC true 400 rfl rfl ?_
    | refine g_condS rfl (fun h => ?_) (fun h => ?_)
    | refine g_end T hC (by kernel_rfl) ?_
    | refine g_splitD (fun h => ?_) (fun h => ?_)
    | refine g_splitG rfl rfl rfl (fun h => ?_) (fun h => ?_)
    | refine g_splitP rfl rfl (fun h => ?_) (fun h => ?_)
    | refine g_call hC (lexName_ok _) rfl rfl (LeSs.refl _) rfl rfl rfl ?_
    | refine g_retl T (.inl rfl) rfl ?_
    | refine g_retq T (.inl rfl) rfl ?_
  all_goals (simp_all [namedS, nPart] <;> omega)
mutual
def exB : Ex → Int → Int → Bool × Int
  | .mk op n s l, d, c => if (decide (0 ≤ c - 1) && !decide (60 < d) && nodeS (.mk op n s l)) = true then exL l (d + 1) (c - 1) else (false, c - 1)
def exL : List Ex → Int → Int → Bool × Int
  | [], _, c => (true, c)
  | x :: r, d, c => if (exB x d c).1 = true then exL r d (exB x d c).2 else (false, (exB x d c).2)
end
theorem exB_eq (e : Ex) (d c : Int) : exB e d c = if (decide (0 ≤ c - 1) && !decide (60 < d) && nodeS e) = true then exL e.l (d + 1) (c - 1) else (false, c - 1) := by
  cases e; rfl
mutual
theorem exB_bound : ∀ (e : Ex) (d c : Int), 0 ≤ c → -1 ≤ (exB e d c).2 ∧ (exB e d c).2 ≤ c ∧ ((exB e d c).1 = true → 0 ≤ (exB e d c).2)
  | .mk op n s l, d, c, h => by
    simp only [exB]
    split
    · rename_i h'
      simp only [Bool.and_eq_true, decide_eq_true_eq] at h'
      have := exL_bound l (d + 1) (c - 1) h'.1.1
      exact ⟨this.1, by omega, this.2.2⟩
    · simp only; exact ⟨by omega, by omega, fun e => by cases e⟩
theorem exL_bound : ∀ (l : List Ex) (d c : Int), 0 ≤ c → -1 ≤ (exL l d c).2 ∧ (exL l d c).2 ≤ c ∧ ((exL l d c).1 = true → 0 ≤ (exL l d c).2)
  | [], d, c, h => by simp only [exL]; exact ⟨by omega, by omega, fun _ => h⟩
  | x :: r, d, c, h => by
    simp only [exL]
    have h1 := exB_bound x d c h
    split
    · rename_i h2
      have h3 := exL_bound r d _ (h1.2.2 h2)
      exact ⟨h3.1, by omega, h3.2.2⟩
    · exact ⟨h1.1, h1.2.1, fun e => by cases e⟩
end
theorem anyR_ex (d : Int) : ∀ (l : List Ex) (c : Int), anyR (fun x c => !(exB x d c).1) (fun x c => (exB x d c).2) l c = (!(exL l d c).1, (exL l d c).2)
  | [], c => rfl
  | x :: r, c => by
    simp only [anyR, exL]
    cases h : (exB x d c).1 with
    | true => simp only [Bool.not_true, Bool.false_eq_true, if_false, if_true]; exact anyR_ex d r _
    | false => rfl

theorem expr1_ok (x : Ex) (dp c : Int) (h1 : 0 ≤ dp) (h2 : dp ≤ 60) (h : FnOK Tryz.prog 191 [aggS (exprC x), I (dp + 1), .one (.bx 0 0)] [(0, .box [.p (ki c)])] (.bq (exB x (dp + 1) c).1) [(0, .box [.p (ki (exB x (dp + 1) c).2)])]) :
    FnOK Tryz.prog 236 [aggS (exprC x), .one (.bx 1 0), .one (.bx 2 0)] [(0, .box [.p (ki c)]), (1, .box [.p (ki dp)]), (2, .box [.bx 0 0])] (.bq (!(exB x (dp + 1) c).1))
      [(0, .box [.p (ki (exB x (dp + 1) c).2)]), (1, .box [.p (ki dp)]), (2, .box [.bx 0 0])] := by
  refine fn_ok T Tryz.func236 (by kernel_rfl) rfl rfl rfl rfl fun C hC => ?_
  repeat' first
    | refine g_go T hC true 400 rfl rfl ?_
    | refine g_cond rfl (fun h => ?_) (fun h => ?_)
    | refine g_end T hC (by kernel_rfl) ?_
    | refine g_splitD (fun h => ?_) (fun h => ?_)
    | refine g_splitG rfl rfl rfl (fun h => ?_) (fun h => ?_)
    | refine g_splitP rfl rfl (fun h => ?_) (fun h => ?_)
  rw [wrap64 (by omega)]
  repeat' first
    | refine g_go T hC true 400 rfl rfl ?_
    | refine g_cond rfl (fun h => ?_) (fun h => ?_)
    | refine g_end T hC (by kernel_rfl) ?_
    | refine g_splitD (fun h => ?_) (fun h => ?_)
    | refine g_splitG rfl rfl rfl (fun h => ?_) (fun h => ?_)
    | refine g_splitP rfl rfl (fun h => ?_) (fun h => ?_)
    | refine g_callR hC (h) (nm [0]) rfl rfl (LeSs.refl _) rfl rfl rfl rfl rfl rfl rfl rfl ?_
  exact g_fin ⟨.inl rfl, id, _, rfl, .qq rfl, ⟨rfl, rfl, rfl, trivial⟩, rfl, rfl⟩
theorem astExpr_ok : ∀ (N : Nat) (e : Ex) (d c : Int), sizeOf e < N → 0 ≤ d → d ≤ 61 → 0 ≤ c → c ≤ 1000 → FnOK Tryz.prog 191 [aggS (exprC e), I d, .one (.bx 0 0)] [(0, .box [.p (ki c)])] (.bq (exB e d c).1) [(0, .box [.p (ki (exB e d c).2)])] := by
  intro N
  induction N with
  | zero => intro e d c h; omega
  | succ N ih =>
    intro e d c hN hd1 hd2 hc1 hc2
    have no : (decide (0 ≤ c - 1) && !decide (60 < d) && nodeS e) = false → (exB e d c) = (false, c - 1) := fun h => by rw [exB_eq, h]; rfl
    have yes : (decide (0 ≤ c - 1) && !decide (60 < d) && nodeS e) = true → (exB e d c) = exL e.l (d + 1) (c - 1) := fun h => by rw [exB_eq, if_pos h]
    refine fn_ok T Tryz.func191 (by kernel_rfl) rfl rfl rfl rfl fun C hC => ?_
    repeat' first
      | refine g_go T hC true 400 rfl rfl ?_
      | refine g_cond rfl (fun h => ?_) (fun h => ?_)
      | refine g_end T hC (by kernel_rfl) ?_
      | refine g_splitD (fun h => ?_) (fun h => ?_)
      | refine g_splitG rfl rfl rfl (fun h => ?_) (fun h => ?_)
      | refine g_splitP rfl rfl (fun h => ?_) (fun h => ?_)
      | refine g_call hC (astParts_ok _) rfl rfl (LeSs.refl _) rfl rfl rfl ?_
      | refine g_callR hC (take_ok c (by omega) (by omega)) (nm [0]) rfl rfl (LeSs.refl _) rfl rfl rfl rfl rfl rfl rfl rfl ?_
      | refine g_call hC (astNamed_ok _) rfl rfl (LeSs.refl _) rfl rfl rfl ?_
    all_goals (try simp only [List.length_map] at *)
    all_goals first
      | (have hn : (decide (0 ≤ c - 1) && !decide (60 < d) && nodeS e) = false := by clear ih no yes; rw [nodeS_eq2]; have := partsS_ge e.op; generalize (namedS e && nPart e) = q at *; simp_all [partsN] <;> omega
         rw [no hn]
         exact g_fin ⟨.inl rfl, id, _, rfl, .qb rfl, ⟨rfl, trivial⟩, rfl, rfl⟩)
      | (have hy : (decide (0 ≤ c - 1) && !decide (60 < d) && nodeS e) = true := by clear ih no yes; rw [nodeS_eq2]; have := partsS_ge e.op; generalize (namedS e && nPart e) = q at *; simp_all [partsN] <;> omega
         rw [yes hy]
         simp only [Bool.and_eq_true, Bool.not_eq_true', decide_eq_true_eq, decide_eq_false_iff_not] at hy
         have hh : FnOK Tryz.prog 150 [pS (exprsP e.l), .one (.cl 236 [] [.bx 1 0, .bx 2 0])] [(0, .box [.p (ki (c - 1))]), (1, .box [.p (ki d)]), (2, .box [.bx 0 0])]
             (.bq (!(exL e.l (d + 1) (c - 1)).1)) [(0, .box [.p (ki (exL e.l (d + 1) (c - 1)).2)]), (1, .box [.p (ki d)]), (2, .box [.bx 0 0])] := by
           have := exprS_has 236 d e.l (fun x c => !(exB x (d + 1) c).1) (fun x c => (exB x (d + 1) c).2) (fun c => 0 ≤ c ∧ c ≤ 1000) (fun x hx c hc => ⟨expr1_ok x d c (by omega) (by omega) (ih x (d + 1) c (by have := List.sizeOf_lt_of_mem hx; have := sizeE_sub e; omega) (by omega) (by omega) hc.1 hc.2), fun hp => by
             have hb := exB_bound x (d + 1) c hc.1
             exact ⟨hb.2.2 (by simpa using hp), by omega⟩⟩) (c - 1) ⟨by omega, by omega⟩
           rw [anyR_ex] at this
           exact this
         repeat' first
           | refine g_go T hC true 400 rfl rfl ?_
           | refine g_cond rfl (fun h => ?_) (fun h => ?_)
           | refine g_end T hC (by kernel_rfl) ?_
           | refine g_splitD (fun h => ?_) (fun h => ?_)
           | refine g_splitG rfl rfl rfl (fun h => ?_) (fun h => ?_)
           | refine g_splitP rfl rfl (fun h => ?_) (fun h => ?_)
           | refine g_callR hC (hh) (nm [0, 1004, 1005]) rfl rfl (LeSs.refl _) rfl rfl rfl rfl rfl rfl rfl rfl ?_
         exact g_fin ⟨.inl rfl, id, _, rfl, .qq (by simp), ⟨rfl, trivial⟩, rfl, rfl⟩)
end Hw.Z
namespace Hw.Z
open Go Go.Proofs Hw.M

/-! The program's count of an expression is the reference's. -/
theorem countL_ge : ∀ (l : List Ex) (d n : Int), n ≤ countL l d n
  | [], d, n => by simp only [countL]; omega
  | e :: es, d, n => by
    simp only [countL]
    have h1 := (countS_bound e (d + 1)).1
    have h2 := countL_ge es d (n + countS e (d + 1))
    split <;> omega
mutual
theorem exB_count : ∀ (e : Ex) (d c : Int), 0 ≤ c → c ≤ 1000 → (exB e d c).1 = decide (countS e d ≤ c) ∧ (countS e d ≤ c → (exB e d c).2 = c - countS e d)
  | .mk op n s l, d, c, h0, h1 => by
    by_cases hb : (decide (60 < d) || !nodeS (.mk op n s l)) = true
    · have e1 : countS (.mk op n s l) d = 1001 := by simp only [countS]; exact if_pos hb
      have e2 : exB (.mk op n s l) d c = (false, c - 1) := by
        simp only [exB]; refine if_neg fun h => ?_
        simp only [Bool.and_eq_true, Bool.or_eq_true, Bool.not_eq_true'] at h hb
        rcases hb with hb | hb
        · rw [hb] at h; simp at h
        · rw [hb] at h; simp at h
      rw [e1, e2]
      exact ⟨(decide_eq_false (by omega)).symm, fun h => by omega⟩
    · have e1 : countS (.mk op n s l) d = countL l d 1 := by simp only [countS]; exact if_neg hb
      simp only [Bool.or_eq_true, decide_eq_true_eq, Bool.not_eq_true', not_or, Bool.not_eq_false] at hb
      rw [e1]
      by_cases hc : 0 ≤ c - 1
      · have e2 : exB (.mk op n s l) d c = exL l (d + 1) (c - 1) := by simp only [exB]; exact if_pos (by simp [hc, hb.2]; omega)
        rw [e2]
        have := exL_count l d (c - 1) 1 (by omega) (by omega) (by omega)
        rw [show 1 + (c - 1) = c by omega] at this
        exact this
      · have e2 : exB (.mk op n s l) d c = (false, c - 1) := by simp only [exB]; exact if_neg fun h => by simp only [Bool.and_eq_true, decide_eq_true_eq] at h; omega
        rw [e2]
        have := countL_ge l d 1
        exact ⟨(decide_eq_false (by omega)).symm, fun h => by omega⟩
theorem exL_count : ∀ (l : List Ex) (d c n : Int), 0 ≤ c → 1 ≤ n → n + c ≤ 1000 → (exL l (d + 1) c).1 = decide (countL l d n ≤ n + c) ∧ (countL l d n ≤ n + c → (exL l (d + 1) c).2 = n + c - countL l d n)
  | [], d, c, n, h0, h1, h2 => by
    have e1 : countL [] d n = n := by simp only [countL]
    rw [e1]; simp only [exL]; exact ⟨(decide_eq_true (by omega)).symm, fun _ => by omega⟩
  | x :: r, d, c, n, h0, h1, h2 => by
    have hx := exB_count x (d + 1) c h0 (by omega)
    have hk := (countS_bound x (d + 1)).1
    by_cases hc : countS x (d + 1) ≤ c
    · have e1 : countL (x :: r) d n = countL r d (n + countS x (d + 1)) := by simp only [countL]; exact if_neg (by omega)
      have e2 : exL (x :: r) (d + 1) c = exL r (d + 1) (c - countS x (d + 1)) := by
        simp only [exL]; rw [hx.1, decide_eq_true hc, if_pos rfl, hx.2 hc]
      rw [e1, e2]
      have := exL_count r d (c - countS x (d + 1)) (n + countS x (d + 1)) (by omega) (by omega) (by omega)
      rw [show n + countS x (d + 1) + (c - countS x (d + 1)) = n + c by omega] at this
      exact this
    · have e2 : exL (x :: r) (d + 1) c = (false, (exB x (d + 1) c).2) := by
        simp only [exL]; rw [hx.1, decide_eq_false hc]; exact if_neg (by simp)
      have hg := countL_ge r d (n + countS x (d + 1))
      have hbig : n + c < countL (x :: r) d n := by
        simp only [countL]
        by_cases h3 : 1000 < n + countS x (d + 1)
        · rw [if_pos h3]; omega
        · rw [if_neg h3]; omega
      rw [e2]
      exact ⟨(decide_eq_false (by omega)).symm, fun h => by omega⟩
end
theorem exB_ok (e : Ex) : (exB e 1 1000).1 = exprOk e := (exB_count e 1 1000 (by omega) (by omega)).1
theorem validExpr_ok (e : Ex) : FnOK Tryz.prog 147 [aggS (exprC e)] [] (.bq (exprOk e)) [] := by
  refine fn_ok T Tryz.func147 (by kernel_rfl) rfl rfl rfl rfl fun C hC => ?_
  repeat' first
    | refine g_go T hC true 400 rfl rfl ?_
    | refine g_cond rfl (fun h => ?_) (fun h => ?_)
    | refine g_end T hC (by kernel_rfl) ?_
    | refine g_splitD (fun h => ?_) (fun h => ?_)
    | refine g_splitG rfl rfl rfl (fun h => ?_) (fun h => ?_)
    | refine g_splitP rfl rfl (fun h => ?_) (fun h => ?_)
    | refine g_callR hC (astExpr_ok (sizeOf e + 1) e 1 1000 (by omega) (by omega) (by omega) (by omega) (by omega)) (nm [1005]) rfl rfl (LeSs.refl _) rfl rfl rfl rfl rfl rfl rfl rfl ?_
  exact g_fin ⟨.inl rfl, id, _, rfl, .qq (exB_ok e), trivial, rfl, rfl⟩

/-! Statements -/
def shapeP (s : Sm) : Bool := (if s.op = 1 ∨ s.op = 2 then isName s.s else decide (s.s = (⟨#[]⟩ : ByteArray))) && !(!decide (s.op = 3) && (decide (0 < (s.els.length : Int)) || (!decide (s.op = 4) && decide (0 < (s.l.length : Int))))) &&
  (if s.op = 1 ∨ s.op = 3 ∨ s.op = 4 then decide ((s.e.length : Int) = 1) else if s.op = 2 then decide ((s.e.length : Int) = 2) else if s.op = 5 then decide ((s.e.length : Int) ≤ 1)
    else if s.op = 6 then decide ((s.e.length : Int) = 1) && decide ((s.e[0]?).map Ex.op = some 7) else false)
theorem shapeP_S (s : Sm) : (shapeP s && s.e.all exprOk) = shapeS s := by
  have hz : ∀ n : Nat, decide ((n : Int) = 0) = !decide (0 < (n : Int)) := fun n => by
    by_cases h : (n : Int) = 0
    · rw [decide_eq_true h, decide_eq_false (by omega)]; rfl
    · rw [decide_eq_false h, decide_eq_true (by omega)]; rfl
  have h1 : ∀ n : Nat, (!decide ((n : Int) < 1) && !decide (1 < (n : Int))) = decide ((n : Int) = 1) := fun n => by
    by_cases h : (n : Int) = 1
    · simp [h]
    · rw [decide_eq_false h]; by_cases h2 : (n : Int) < 1 <;> simp [h2] <;> omega
  have h2 : ∀ n : Nat, (!decide ((n : Int) < 2) && !decide (2 < (n : Int))) = decide ((n : Int) = 2) := fun n => by
    by_cases h : (n : Int) = 2
    · simp [h]
    · rw [decide_eq_false h]; by_cases h2 : (n : Int) < 2 <;> simp [h2] <;> omega
  have h3 : ∀ n : Nat, (!decide ((n : Int) < 0) && !decide (1 < (n : Int))) = decide ((n : Int) ≤ 1) := fun n => by
    by_cases h : (n : Int) ≤ 1
    · simp [h] <;> omega
    · simp [h] <;> omega
  simp only [shapeS, shapeB, shapeP, simpleS, exprsOk, h1, h2, h3, hz]
  generalize s.e.all exprOk = A
  generalize isName s.s = B
  generalize decide (s.s = (⟨#[]⟩ : ByteArray)) = E
  generalize decide (0 < (s.els.length : Int)) = X
  generalize decide (0 < (s.l.length : Int)) = Y
  generalize decide ((s.e[0]?).map Ex.op = some 7) = Z
  generalize decide ((s.e.length : Int) = 1) = N1
  generalize decide ((s.e.length : Int) = 2) = N2
  generalize decide ((s.e.length : Int) ≤ 1) = N3
  by_cases o1 : s.op = 1
  · simp only [o1, Int.reduceEq, true_or, or_true, false_or, or_false, if_true, if_false, decide_true, decide_false]; revert A B E X Y Z N1 N2 N3; decide
  by_cases o2 : s.op = 2
  · simp only [o2, Int.reduceEq, true_or, or_true, false_or, or_false, if_true, if_false, decide_true, decide_false]; revert A B E X Y Z N1 N2 N3; decide
  by_cases o3 : s.op = 3
  · simp only [o3, Int.reduceEq, true_or, or_true, false_or, or_false, if_true, if_false, decide_true, decide_false]; revert A B E X Y Z N1 N2 N3; decide
  by_cases o4 : s.op = 4
  · simp only [o4, Int.reduceEq, true_or, or_true, false_or, or_false, if_true, if_false, decide_true, decide_false]; revert A B E X Y Z N1 N2 N3; decide
  by_cases o5 : s.op = 5
  · simp only [o5, Int.reduceEq, true_or, or_true, false_or, or_false, if_true, if_false, decide_true, decide_false]; revert A B E X Y Z N1 N2 N3; decide
  by_cases o6 : s.op = 6
  · simp only [o6, Int.reduceEq, true_or, or_true, false_or, or_false, if_true, if_false, decide_true, decide_false]; revert A B E X Y Z N1 N2 N3; decide
  simp only [o1, o2, o3, o4, o5, o6, or_self, if_false, Bool.and_false, Bool.false_and]
theorem astShape_ok (s : Sm) : FnOK Tryz.prog 210 [aggS (stmtC s)] [] (.bq (shapeP s)) [] := by
  refine fn_ok T Tryz.func210 (by kernel_rfl) rfl rfl rfl rfl fun C hC => ?_
  repeat' first
    | refine g_go T hC true 400 rfl rfl ?_
    | refine g_condS rfl (fun h => ?_) (fun h => ?_)
    | refine g_end T hC (by kernel_rfl) ?_
    | refine g_splitD (fun h => ?_) (fun h => ?_)
    | refine g_splitG rfl rfl rfl (fun h => ?_) (fun h => ?_)
    | refine g_splitP rfl rfl (fun h => ?_) (fun h => ?_)
    | refine g_call hC (lexName_ok _) rfl rfl (LeSs.refl _) rfl rfl rfl ?_
    | refine g_retl T (.inl rfl) rfl ?_
    | refine g_retq T (.inl rfl) rfl ?_
    | (obtain ⟨x, hx⟩ := exists_at (l := s.e) (i := 0) (by have := of_decide_eq_true h; simp only [List.length_map] at this; omega); refine g_idx T hC rfl rfl rfl (Int.le_refl _) (map_atE0 hx) rfl rfl ?_)
  all_goals (try simp only [List.length_map] at *)
  all_goals (simp_all [shapeP] <;> omega)
end Hw.Z
namespace Hw.Z
open Go Go.Proofs Hw.M

mutual
def stB : Sm → Int → Int → Bool × Int
  | .mk op s e l els, d, c => if (decide (0 ≤ c - 1) && (shapeP (.mk op s e l els) && e.all exprOk)) = true then
      (if (if decide (0 < (l.length : Int)) && decide (60 < d + 1) then (false, c - 1) else stQ l (d + 1) (c - 1)).1 = true then
        (if decide (0 < (els.length : Int)) && decide (60 < d + 1) then (false, (if decide (0 < (l.length : Int)) && decide (60 < d + 1) then (false, c - 1) else stQ l (d + 1) (c - 1)).2)
          else stQ els (d + 1) (if decide (0 < (l.length : Int)) && decide (60 < d + 1) then (false, c - 1) else stQ l (d + 1) (c - 1)).2)
        else (false, (if decide (0 < (l.length : Int)) && decide (60 < d + 1) then (false, c - 1) else stQ l (d + 1) (c - 1)).2))
      else (false, c - 1)
def stQ : List Sm → Int → Int → Bool × Int
  | [], _, c => (true, c)
  | x :: r, d, c => if (stB x d c).1 = true then stQ r d (stB x d c).2 else (false, (stB x d c).2)
end
/-- The program's way through statements. -/
def stP (l : List Sm) (d c : Int) : Bool × Int := if decide (0 < (l.length : Int)) && decide (60 < d) then (false, c) else stQ l d c
theorem stB_eq (s : Sm) (d c : Int) : stB s d c = if (decide (0 ≤ c - 1) && (shapeP s && s.e.all exprOk)) = true then
    (if (stP s.l (d + 1) (c - 1)).1 = true then stP s.els (d + 1) (stP s.l (d + 1) (c - 1)).2 else (false, (stP s.l (d + 1) (c - 1)).2)) else (false, c - 1) := by
  cases s; rfl
theorem stP_nil (d c : Int) : stP [] d c = (true, c) := rfl

theorem bump_ge {n k : Int} (h : 0 ≤ k) : n ≤ bump n k := by
  unfold bump
  by_cases q : n ≤ 200
  · rw [if_pos q]; omega
  · rw [if_neg q]; omega
theorem stN_gt (s : Sm) (d n : Int) (h0 : 0 ≤ n) (h1 : n ≤ 200) : n < stN s d n := by
  rw [stN_eq]
  split
  · omega
  · have a1 := (stL_bound s.l (d + 1) 0 (by omega) (by omega)).1
    have a2 := (stL_bound s.els (d + 1) 0 (by omega) (by omega)).1
    have b1 := bump_ge (n := n + 1) a1
    have b2 := bump_ge (n := bump (n + 1) (stL s.l (d + 1) 0)) a2
    omega
theorem stL_ge : ∀ (l : List Sm) (d n : Int), 0 ≤ n → n ≤ 200 → n ≤ stL l d n
  | [], d, n, _, _ => by simp only [stL]; omega
  | s :: r, d, n, h0, h1 => by
    have h2 := stN_gt s d n h0 h1
    simp only [stL]
    by_cases h3 : 200 < stN s d n
    · rw [if_pos h3]; omega
    · rw [if_neg h3]
      have := stL_ge r d (stN s d n) (by omega) (by omega)
      omega
theorem stL_deep {l : List Sm} {d : Int} (h : 0 < (l.length : Int)) (hd : 60 < d) (n : Int) : stL l d n = 201 := by
  cases l with
  | nil => simp at h
  | cons s r =>
    have : stN s d n = 201 := by rw [stN_eq, if_pos (by simp [hd])]
    simp only [stL, this]; rfl
/-- What the program's way says of the reference's count. -/
def Says (r : Bool × Int) (k t : Int) : Prop := r.1 = decide (k ≤ t) ∧ (k ≤ t → r.2 = t - k)
theorem Says.of_le {r : Bool × Int} {k t : Int} (h : k ≤ t) (e : r = (true, t - k)) : Says r k t := by subst e; exact ⟨(decide_eq_true h).symm, fun _ => rfl⟩
theorem Says.of_gt {r : Bool × Int} {k t : Int} (h : t < k) (e : r.1 = false) : Says r k t := ⟨by rw [e]; exact (decide_eq_false (by omega)).symm, fun h' => by omega⟩
theorem Says.le {r : Bool × Int} {k t : Int} (h : Says r k t) (h1 : k ≤ t) : r = (true, t - k) := Prod.ext (h.1.trans (decide_eq_true h1)) (h.2 h1)
theorem Says.gt {r : Bool × Int} {k t : Int} (h : Says r k t) (h1 : t < k) : r.1 = false := h.1.trans (decide_eq_false (by omega))
mutual
theorem stB_count : ∀ (s : Sm) (d c n : Int), 0 ≤ n → 0 ≤ c → n + c ≤ 200 → d ≤ 60 → Says (stB s d c) (stN s d n) (n + c)
  | .mk op s e l els, d, c, n, h0, h1, h2, hd => by
    have hgt := stN_gt (.mk op s e l els) d n h0 (by omega)
    have eB : stB (.mk op s e l els) d c = if (decide (0 ≤ c - 1) && shapeS (.mk op s e l els)) = true then
        (if (stP l (d + 1) (c - 1)).1 = true then stP els (d + 1) (stP l (d + 1) (c - 1)).2 else (false, (stP l (d + 1) (c - 1)).2)) else (false, c - 1) := by
      rw [stB_eq, shapeP_S]; rfl
    rw [eB]
    by_cases hs : shapeS (.mk op s e l els) = true
    · have eN : stN (.mk op s e l els) d n = bump (bump (n + 1) (stL l (d + 1) 0)) (stL els (d + 1) 0) := by
        rw [stN_eq, if_neg (by simp [hs]; omega)]; rfl
      rw [hs, Bool.and_true]
      by_cases hc : 0 ≤ c - 1
      · rw [if_pos (decide_eq_true hc)]
        have a1 := (stL_bound l (d + 1) 0 (by omega) (by omega)).1
        have a2 := (stL_bound els (d + 1) 0 (by omega) (by omega)).1
        have hl := stP_count l (d + 1) (c - 1) (by omega) (by omega)
        by_cases k1 : stL l (d + 1) 0 ≤ c - 1
        · rw [hl.le k1, if_pos rfl]
          have hm := stP_count els (d + 1) (c - 1 - stL l (d + 1) 0) (by omega) (by omega)
          simp only
          have eb : bump (n + 1) (stL l (d + 1) 0) = n + 1 + stL l (d + 1) 0 := if_pos (by omega)
          have eb2 : bump (n + 1 + stL l (d + 1) 0) (stL els (d + 1) 0) = n + 1 + stL l (d + 1) 0 + stL els (d + 1) 0 := if_pos (by omega)
          rw [eN, eb, eb2]
          by_cases k2 : stL els (d + 1) 0 ≤ c - 1 - stL l (d + 1) 0
          · rw [hm.le k2]
            exact .of_le (by omega) (Prod.ext rfl (by simp only; omega))
          · exact .of_gt (by omega) (hm.gt (by omega))
        · have e1 := hl.gt (by omega)
          rw [e1]
          refine .of_gt ?_ rfl
          rw [eN]
          have eb : bump (n + 1) (stL l (d + 1) 0) = n + 1 + stL l (d + 1) 0 := if_pos (by omega)
          rw [eb]
          have := bump_ge (n := n + 1 + stL l (d + 1) 0) a2
          omega
      · rw [if_neg (by simp; omega)]
        exact .of_gt (by omega) rfl
    · have hs' : shapeS (.mk op s e l els) = false := by simpa using hs
      have eN : stN (.mk op s e l els) d n = 201 := by rw [stN_eq, if_pos (by simp [hs'])]
      rw [hs', Bool.and_false, if_neg (by simp), eN]
      exact .of_gt (by omega) rfl
theorem stQ_count : ∀ (l : List Sm) (d c n : Int), 0 ≤ n → 0 ≤ c → n + c ≤ 200 → d ≤ 60 → Says (stQ l d c) (stL l d n) (n + c)
  | [], d, c, n, h0, h1, h2, hd => by
    have e1 : stL [] d n = n := by simp only [stL]
    rw [e1]; exact .of_le (by omega) (by simp only [stQ]; exact Prod.ext rfl (by simp only; omega))
  | x :: r, d, c, n, h0, h1, h2, hd => by
    have hx := stB_count x d c n h0 h1 h2 hd
    have hg := stN_gt x d n h0 (by omega)
    by_cases k : stN x d n ≤ n + c
    · have e1 : stL (x :: r) d n = stL r d (stN x d n) := by simp only [stL]; exact if_neg (by omega)
      have e2 : stQ (x :: r) d c = stQ r d (n + c - stN x d n) := by simp only [stQ]; rw [hx.le k]; rfl
      rw [e1, e2]
      have := stQ_count r d (n + c - stN x d n) (stN x d n) (by omega) (by omega) (by omega) hd
      rw [show stN x d n + (n + c - stN x d n) = n + c by omega] at this
      exact this
    · have e2 : (stQ (x :: r) d c).1 = false := by simp only [stQ]; rw [hx.gt (by omega)]; rfl
      refine .of_gt ?_ e2
      simp only [stL]
      by_cases h3 : 200 < stN x d n
      · rw [if_pos h3]; omega
      · rw [if_neg h3]
        have := stL_ge r d (stN x d n) (by omega) (by omega)
        omega
theorem stP_count : ∀ (l : List Sm) (d c : Int), 0 ≤ c → c ≤ 200 → Says (stP l d c) (stL l d 0) c
  | l, d, c, h0, h1 => by
    unfold stP
    by_cases hd : 60 < d
    · by_cases hl : 0 < (l.length : Int)
      · rw [if_pos (by simp [hl, hd]; omega), stL_deep hl hd]
        exact .of_gt (by omega) rfl
      · have : l = [] := List.eq_nil_of_length_eq_zero (by omega)
        subst this
        rw [if_neg (by simp)]
        exact .of_le (by simp only [stL]; omega) (by simp only [stQ, stL]; exact Prod.ext rfl (by simp only; omega))
    · rw [if_neg (by simp [hd])]
      have := stQ_count l d c 0 (by omega) h0 (by omega) (by omega)
      rw [Int.zero_add] at this
      exact this
end
end Hw.Z
namespace Hw.Z
open Go Go.Proofs Hw.M

theorem stB_bound_of {c : Int} (h : 0 ≤ c) : True := trivial
mutual
theorem stB_bound : ∀ (s : Sm) (d c : Int), 0 ≤ c → -1 ≤ (stB s d c).2 ∧ (stB s d c).2 ≤ c ∧ ((stB s d c).1 = true → 0 ≤ (stB s d c).2)
  | .mk op s e l els, d, c, h => by
    have eB : stB (.mk op s e l els) d c = if (decide (0 ≤ c - 1) && (shapeP (.mk op s e l els) && e.all exprOk)) = true then
        (if (stP l (d + 1) (c - 1)).1 = true then stP els (d + 1) (stP l (d + 1) (c - 1)).2 else (false, (stP l (d + 1) (c - 1)).2)) else (false, c - 1) := rfl
    rw [eB]
    by_cases hc : (decide (0 ≤ c - 1) && (shapeP (.mk op s e l els) && e.all exprOk)) = true
    · rw [if_pos hc]
      have h0 : 0 ≤ c - 1 := by simp only [Bool.and_eq_true, decide_eq_true_eq] at hc; exact hc.1
      have h1 := stP_bound l (d + 1) (c - 1) h0
      by_cases h2 : (stP l (d + 1) (c - 1)).1 = true
      · rw [if_pos h2]
        have h3 := stP_bound els (d + 1) _ (h1.2.2 h2)
        exact ⟨h3.1, by omega, h3.2.2⟩
      · rw [if_neg h2]; exact ⟨h1.1, by simp only; omega, fun e => by cases e⟩
    · rw [if_neg hc]; exact ⟨by simp only; omega, by simp only; omega, fun e => by cases e⟩
theorem stQ_bound : ∀ (l : List Sm) (d c : Int), 0 ≤ c → -1 ≤ (stQ l d c).2 ∧ (stQ l d c).2 ≤ c ∧ ((stQ l d c).1 = true → 0 ≤ (stQ l d c).2)
  | [], d, c, h => by simp only [stQ]; exact ⟨by omega, by omega, fun _ => h⟩
  | x :: r, d, c, h => by
    have h1 := stB_bound x d c h
    simp only [stQ]
    by_cases h2 : (stB x d c).1 = true
    · rw [if_pos h2]
      have h3 := stQ_bound r d _ (h1.2.2 h2)
      exact ⟨h3.1, by omega, h3.2.2⟩
    · rw [if_neg h2]; exact ⟨h1.1, h1.2.1, fun e => by cases e⟩
theorem stP_bound : ∀ (l : List Sm) (d c : Int), 0 ≤ c → -1 ≤ (stP l d c).2 ∧ (stP l d c).2 ≤ c ∧ ((stP l d c).1 = true → 0 ≤ (stP l d c).2)
  | l, d, c, h => by
    unfold stP
    by_cases h2 : (decide (0 < (l.length : Int)) && decide (60 < d)) = true
    · rw [if_pos h2]; exact ⟨by simp only; omega, by simp only; omega, fun e => by cases e⟩
    · rw [if_neg h2]; exact stQ_bound l d c h
end
theorem stmts1_ok (x : Ex) : FnOK Tryz.prog 211 [aggS (exprC x)] [] (.bq (!exprOk x)) [] := by
  refine fn_ok T Tryz.func211 (by kernel_rfl) rfl rfl rfl rfl fun C hC => ?_
  repeat' first
    | refine g_go T hC true 400 rfl rfl ?_
    | refine g_cond rfl (fun h => ?_) (fun h => ?_)
    | refine g_end T hC (by kernel_rfl) ?_
    | refine g_splitD (fun h => ?_) (fun h => ?_)
    | refine g_splitG rfl rfl rfl (fun h => ?_) (fun h => ?_)
    | refine g_splitP rfl rfl (fun h => ?_) (fun h => ?_)
    | refine g_call hC (validExpr_ok _) rfl rfl (LeSs.refl _) rfl rfl rfl ?_
    | refine g_retq T (.inl rfl) rfl ?_
  rfl
theorem any_not (l : List Ex) : (l.any fun x => !exprOk x) = !l.all exprOk := by
  induction l with
  | nil => rfl
  | cons a l ih => simp only [List.any_cons, List.all_cons, ih, Bool.not_and]
set_option maxHeartbeats 1000000 in
theorem astStmts_ok : ∀ (N : Nat) (l : List Sm) (d c : Int), sizeOf l < N → 0 ≤ d → d ≤ 61 → 0 ≤ c → c ≤ 200 → FnOK Tryz.prog 168 [pS (stmtsP l), I d, .one (.bx 0 0)] [(0, .box [.p (ki c)])] (.bq (stP l d c).1) [(0, .box [.p (ki (stP l d c).2)])] := by
  intro N
  induction N with
  | zero => intro l d c h; omega
  | succ N ih =>
    intro l d c hN hd1 hd2 hc1 hc2
    refine fn_ok T Tryz.func168 (by kernel_rfl) rfl rfl rfl rfl fun C hC => ?_
    refine g_len 0 rfl fun hlen => ?_
    rw [List.length_map] at hlen
    repeat' first
      | refine g_go T hC true 400 rfl rfl ?_
      | refine g_cond rfl (fun h => ?_) (fun h => ?_)
      | refine g_end T hC (by kernel_rfl) ?_
      | refine g_splitD (fun h => ?_) (fun h => ?_)
      | refine g_splitG rfl rfl rfl (fun h => ?_) (fun h => ?_)
      | refine g_splitP rfl rfl (fun h => ?_) (fun h => ?_)
    all_goals (try simp only [List.length_map] at *)
    · have e : stP l d c = (false, c) := by unfold stP; rw [if_pos (by simp_all)]
      rw [e]
      exact g_fin ⟨.inl rfl, id, _, rfl, .qb rfl, ⟨rfl, trivial⟩, rfl, rfl⟩
    all_goals
      have hlow : l = [] ∨ d ≤ 60 := by
        by_cases hz : d ≤ 60
        · exact .inr hz
        · left
          have : ¬ 0 < (l.length : Int) := fun h0 => by simp_all <;> omega
          exact List.eq_nil_of_length_eq_zero (by omega)
      have e : stP l d c = stQ l d c := by
        unfold stP
        rcases hlow with rfl | hlow
        · rw [if_neg (by simp)]
        · rw [if_neg (by simp; omega)]
      rw [e]
      clear e h
      generalize hR : stQ l d c = RES
      refine g_loop (fun q : Nat × Int => q.1 ≤ l.length ∧ 0 ≤ q.2 ∧ q.2 ≤ 200 ∧ stQ (l.drop q.1) d q.2 = RES) (fun q => ([(1, I d), (2, .one (.bx 0 0)), (16, pS (stmtsP l)), (17, I l.length), (18, I q.1)], [(0, some (.box [.p (ki q.2)]))])) (fun q => l.length - q.1) hC
        (0, c) ⟨Nat.zero_le _, hc1, hc2, hR⟩ id ⟨rfl, ⟨rfl, rfl, rfl, rfl, rfl, trivial⟩, ⟨rfl, trivial⟩, rfl, fun _ _ => rfl⟩ ?_
      clear hR
      rintro ⟨i, q⟩ ⟨hi, hq1, hq2, hn⟩
      simp only at hi hq1 hq2 hn
      refine g_run' T hC true 200 rfl ?_
      refine g_cond rfl (fun h => ?_) (fun h => ?_)
      rotate_left
      · have hge : ¬ i < l.length := by simpa using h
        rw [List.drop_eq_nil_of_le (by omega)] at hn
        simp only [stQ] at hn
        subst hn
        repeat' first
          | refine g_go T hC true 400 rfl rfl ?_
          | refine g_cond rfl (fun h => ?_) (fun h => ?_)
          | refine g_end T hC (by kernel_rfl) ?_
          | refine g_splitD (fun h => ?_) (fun h => ?_)
          | refine g_splitG rfl rfl rfl (fun h => ?_) (fun h => ?_)
          | refine g_splitP rfl rfl (fun h => ?_) (fun h => ?_)
          | refine g_outE ?_
        exact g_fin ⟨.inl rfl, id, _, rfl, .qb rfl, ⟨rfl, trivial⟩, rfl, rfl⟩
      have hlt : i < l.length := by simpa using h
      clear h
      have hd : d ≤ 60 := by
        rcases hlow with rfl | hlow
        · simp at hlt
        · exact hlow
      obtain ⟨x, hx⟩ := exists_at hlt
      have hsz := size_at hx
      have hss := size_sub x
      have hbs := stB_bound x d q hq1
      rw [drop_at hx] at hn
      simp only [stQ] at hn
      have no : ∀ r : Bool × Int, r.1 = false → stB x d q = r → r = RES := fun r h1 h2 => by
        rw [h2, if_neg (by rw [h1]; simp)] at hn
        rw [← hn]; exact Prod.ext h1 rfl
      have eB := stB_eq x d q
      have w1 : IntKind.i64.wrap (d + 1) = d + 1 := wrap64 (by omega)
      have hA := exprN_any 211 x.e (fun y => !exprOk y) (fun y _ => stmts1_ok y)
      rw [any_not] at hA
      have b1 := fun h0 => stP_bound x.l (d + 1) (q - 1) h0
      have nn : (!decide (0 ≤ q - 1)) = false → 0 ≤ q - 1 := fun h => by simpa using h
      have k1 := fun (h0 : (!decide (0 ≤ q - 1)) = false) => ih x.l (d + 1) (q - 1) (by omega) (by omega) (by omega) (nn h0) (by omega)
      have k2 := fun (h0 : (!decide (0 ≤ q - 1)) = false) (h1 : (!(stP x.l (d + 1) (q - 1)).1) = false) => ih x.els (d + 1) (stP x.l (d + 1) (q - 1)).2 (by omega) (by omega) (by omega) ((b1 (nn h0)).2.2 (by simpa using h1)) (by have := (b1 (nn h0)).2.1; omega)
      clear ih hsz hss
      generalize hr1 : stP x.l (d + 1) (q - 1) = r1 at *
      generalize hr2 : stP x.els (d + 1) r1.2 = r2 at *
      generalize hsb : stB x d q = sb at *
      repeat' first
        | refine g_go T hC true 400 rfl rfl ?_
        | refine g_cond rfl (fun h => ?_) (fun h => ?_)
        | refine g_end T hC (by kernel_rfl) ?_
        | refine g_splitD (fun h => ?_) (fun h => ?_)
        | refine g_splitG rfl rfl rfl (fun h => ?_) (fun h => ?_)
        | refine g_splitP rfl rfl (fun h => ?_) (fun h => ?_)
        | refine g_idx T hC rfl rfl rfl (Int.natCast_nonneg _) (map_atS (by assumption)) rfl rfl ?_
        | refine g_callR hC (take_ok q (by omega) (by omega)) (nm [0]) rfl rfl (LeSs.refl _) rfl rfl rfl rfl rfl rfl rfl rfl ?_
        | refine g_call hC (astShape_ok _) rfl rfl (LeSs.refl _) rfl rfl rfl ?_
        | refine g_call hC (hA) rfl rfl (LeSs.refl _) rfl rfl rfl ?_
        | rw [w1]
        | refine g_callR hC (k1 (by assumption)) (nm [0]) rfl rfl (LeSs.refl _) rfl rfl rfl rfl rfl rfl rfl rfl ?_
        | refine g_callR hC (k2 (by assumption) (by assumption)) (nm [0]) rfl rfl (LeSs.refl _) rfl rfl rfl rfl rfl rfl rfl rfl ?_
        | refine g_outR ?_
      all_goals clear k1 k2 hA w1 hx hr1 hr2 hsb b1 nn
      all_goals first
        | (have e : sb = (false, q - 1) := by clear hn no hbs hlow; rw [eB]; clear eB; exact if_neg (fun hcc => by simp only [Bool.and_eq_true, decide_eq_true_eq] at hcc; obtain ⟨hk1, hk2, hk3⟩ := hcc; simp_all [-List.all_eq_true, -List.all_eq_false] <;> omega)
           have e2 := no _ rfl e
           subst e2
           exact g_fin ⟨.inl rfl, id, _, rfl, .qb rfl, ⟨rfl, trivial⟩, rfl, rfl⟩)
        | (have e : sb = (false, r1.2) := by clear hn no hbs hlow; rw [eB]; clear eB; rw [if_pos (by simp_all [-List.all_eq_true, -List.all_eq_false]), if_neg (by simp_all [-List.all_eq_true, -List.all_eq_false])]
           have e2 := no _ rfl e
           subst e2
           exact g_fin ⟨.inl rfl, id, _, rfl, .qb rfl, ⟨rfl, trivial⟩, rfl, rfl⟩)
        | (have e : sb = r2 := by clear hn no hbs hlow; rw [eB]; clear eB; rw [if_pos (by simp_all [-List.all_eq_true, -List.all_eq_false]), if_pos (by simp_all [-List.all_eq_true, -List.all_eq_false])]
           have h2 : r2.1 = false := by simpa using h
           have e2 := no _ h2 e
           have e3 : RES = (false, r2.2) := by rw [← e2]; exact Prod.ext h2 rfl
           subst e3
           exact g_fin ⟨.inl rfl, id, _, rfl, .qb rfl, ⟨rfl, trivial⟩, rfl, rfl⟩)
        | (have e : sb = r2 := by clear hn no hbs hlow; rw [eB]; clear eB; rw [if_pos (by simp_all [-List.all_eq_true, -List.all_eq_false]), if_pos (by simp_all [-List.all_eq_true, -List.all_eq_false])]
           have h2 : r2.1 = true := by simpa using h
           rw [e, if_pos h2] at hn
           rw [e] at hbs
           rw [wrapS (by omega)]
           exact g_round (i + 1, r2.2) ⟨by simp only; omega, hbs.2.2 h2, by simp only; omega, hn⟩ id (by simp only; omega) ⟨rfl, ⟨rfl, rfl, rfl, rfl, rfl, trivial⟩, ⟨rfl, trivial⟩, rfl, fun _ _ => rfl⟩)
end Hw.Z
