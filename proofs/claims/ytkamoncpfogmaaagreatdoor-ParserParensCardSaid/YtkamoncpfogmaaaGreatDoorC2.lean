/- The engine and the contracts. -/
import Derived.Test.YtkamoncpfogmaaaGreatDoorC1
import Derived.Test.YtkamoncpfogmaaaGreatDoorE3
import Derived.Laws.IdiomCopy
import Derived.Laws.IdiomStrings
import Derived.Laws.Slices
import Derived.Below
import Derived.Laws.StructEq
import Derived.Laws.Strings3
import Derived.Laws.DeepStrings4
set_option linter.unusedVariables false
set_option linter.unusedSimpArgs false
namespace Hw.Pa
open Go Go.Proofs Hw.M

def idxR {α σ : Type} (p : α → σ → Bool) (nx : α → σ → σ) : List α → Nat → σ → Int × σ
  | [], _, s => (-1, s)
  | x :: r, k, s => if p x s = true then ((k : Int), nx x s) else idxR p nx r (k + 1) (nx x s)
def anyR {α σ : Type} (p : α → σ → Bool) (nx : α → σ → σ) : List α → σ → Bool × σ
  | [], s => (false, s)
  | x :: r, s => if p x s = true then (true, nx x s) else anyR p nx r (nx x s)
theorem anyR_12 {α σ : Type} (p : α → σ → Bool) (nx : α → σ → σ) : ∀ (l : List α) (k : Nat) (s : σ), ∃ i s', idxR p nx l k s = (i, s') ∧ anyR p nx l s = (decide (0 ≤ i), s')
  | [], k, s => ⟨-1, s, rfl, rfl⟩
  | x :: r, k, s => by
    simp only [idxR, anyR]
    by_cases h : p x s = true
    · exact ⟨k, nx x s, if_pos h, by rw [if_pos h, decide_eq_true (by omega)]⟩
    · rw [if_neg h, if_neg h]; exact anyR_12 p nx r (k + 1) (nx x s)
theorem anyR_1 {α σ : Type} (p : α → σ → Bool) (nx : α → σ → σ) (l : List α) (k : Nat) (s : σ) : decide (0 ≤ (idxR p nx l k s).1) = (anyR p nx l s).1 := by
  obtain ⟨i, s', h1, h2⟩ := anyR_12 p nx l k s
  simp only [h1, h2]
theorem anyR_2 {α σ : Type} (p : α → σ → Bool) (nx : α → σ → σ) (l : List α) (k : Nat) (s : σ) : (idxR p nx l k s).2 = (anyR p nx l s).2 := by
  obtain ⟨i, s', h1, h2⟩ := anyR_12 p nx l k s
  simp only [h1, h2]
theorem anyR_no {α : Type} (p : α → Bool) : ∀ (l : List α) (s : Unit), (anyR (fun x _ => p x) (fun _ s => s) l s).1 = l.any p
  | [], _ => rfl
  | x :: r, s => by
    simp only [anyR, List.any_cons]
    cases h : p x with
    | true => rfl
    | false => simp only [Bool.false_eq_true, if_false, Bool.false_or]; exact anyR_no p r s

theorem exprS_idx (f : FuncId) (dp : Int) (l : List Ex) (p : Ex → Int → Bool) (nx : Ex → Int → Int) (inv : Int → Prop)
    (hf : ∀ x ∈ l, ∀ s : Int, inv s → FnOK Tryz.prog f [aggS (exprC x), .one (.bx 1 0), .one (.bx 2 0)] [(0, .box [.p (ki s)]), (1, .box [.p (ki dp)]), (2, .box [.bx 0 0])] (.bq (p x s)) ((fun s : Int => [(0, .box [.p (ki s)]), (1, .box [.p (ki dp)]), (2, .box [.bx 0 0])]) (nx x s)) ∧ (p x s = false → inv (nx x s))) (s : Int) (hs : inv s) :
    FnOK Tryz.prog 153 [pS (.sl 4 (l.map exprR)), .one (.cl f [] [.bx 1 0, .bx 2 0])] [(0, .box [.p (ki s)]), (1, .box [.p (ki dp)]), (2, .box [.bx 0 0])] (I (idxR p nx l 0 s).1) ((fun s : Int => [(0, .box [.p (ki s)]), (1, .box [.p (ki dp)]), (2, .box [.bx 0 0])]) (idxR p nx l 0 s).2) := by
  refine fn_ok T Tryz.func153 (by kernel_rfl) rfl rfl rfl rfl fun C hC => ?_
  have hs0 := hs
  refine g_len 0 rfl fun hl => ?_
  rw [List.length_map] at hl
  repeat' first | refine g_go T hC true 400 rfl rfl ?_ | refine g_cond rfl (fun h => ?_) (fun h => ?_)
  rw [List.length_map]
  refine g_loop (fun q : Nat × Int => q.1 ≤ l.length ∧ inv q.2 ∧ idxR p nx (l.drop q.1) q.1 q.2 = idxR p nx l 0 s) (fun q => (fun s : Int => ([(0, pS (.sl 4 (l.map exprR))), (1, .one (.cl f [] [.bx 1 0, .bx 2 0])), (7, I l.length), (8, I q.1)], [(0, some (.box [.p (ki s)])), (1, some (.box [.p (ki dp)])), (2, some (.box [.bx 0 0]))])) q.2) (fun q => l.length - q.1) hC
    (0, s) ⟨Nat.zero_le _, hs, rfl⟩ id ⟨rfl, ⟨rfl, rfl, rfl, rfl, trivial⟩, ⟨rfl, rfl, rfl, trivial⟩, rfl, fun _ _ => rfl⟩ ?_
  generalize idxR p nx l 0 s = res
  clear hs hs0
  rintro ⟨i, s⟩ ⟨hi, hv, hn⟩
  simp only at hi hv hn
  refine g_run' T hC true 200 rfl ?_
  refine g_cond rfl (fun hh => ?_) (fun hh => ?_)
  · have hlt : i < l.length := by simpa using hh
    clear hh
    obtain ⟨x, hx⟩ := exists_at hlt
    rw [drop_at hx] at hn
    simp only [idxR] at hn
    have hv2 := (hf x (List.mem_of_getElem? hx) s hv).2
    repeat' first | refine g_go T hC true 400 rfl rfl ?_ | refine g_cond rfl (fun h => ?_) (fun h => ?_) | refine g_idx T hC rfl rfl rfl (Int.natCast_nonneg _) (map_atE hx) rfl rfl ?_ | refine g_callR hC (hf x (List.mem_of_getElem? hx) s hv).1 id rfl rfl (LeSs.refl _) rfl rfl rfl rfl rfl rfl rfl rfl ?_ | refine g_outR ?_
    · rw [if_pos (by assumption)] at hn
      subst hn
      exact g_fin ⟨.inl rfl, id, _, rfl, .refl _, ⟨rfl, rfl, rfl, trivial⟩, rfl, rfl⟩
    · have hpf : p x s = false := by assumption
      rw [hpf] at hn
      simp only [Bool.false_eq_true, if_false] at hn
      rw [wrap64 (by omega)]
      exact g_round (i + 1, nx x s) ⟨by simp only; omega, hv2 hpf, hn⟩ id (by simp only; omega) ⟨rfl, ⟨rfl, rfl, rfl, rfl, trivial⟩, ⟨rfl, rfl, rfl, trivial⟩, rfl, fun _ _ => rfl⟩
  · have hge : ¬ i < l.length := by simpa using hh
    rw [List.drop_eq_nil_of_le (by omega)] at hn
    simp only [idxR] at hn
    subst hn
    repeat' first | refine g_go T hC true 400 rfl rfl ?_ | refine g_cond rfl (fun h => ?_) (fun h => ?_) | refine g_outE ?_
    exact g_fin ⟨.inl rfl, id, _, rfl, .refl _, ⟨rfl, rfl, rfl, trivial⟩, rfl, rfl⟩
theorem exprS_has (f : FuncId) (dp : Int) (l : List Ex) (p : Ex → Int → Bool) (nx : Ex → Int → Int) (inv : Int → Prop)
    (hf : ∀ x ∈ l, ∀ s : Int, inv s → FnOK Tryz.prog f [aggS (exprC x), .one (.bx 1 0), .one (.bx 2 0)] [(0, .box [.p (ki s)]), (1, .box [.p (ki dp)]), (2, .box [.bx 0 0])] (.bq (p x s)) ((fun s : Int => [(0, .box [.p (ki s)]), (1, .box [.p (ki dp)]), (2, .box [.bx 0 0])]) (nx x s)) ∧ (p x s = false → inv (nx x s))) (s : Int) (hs : inv s) :
    FnOK Tryz.prog 130 [pS (.sl 4 (l.map exprR)), .one (.cl f [] [.bx 1 0, .bx 2 0])] [(0, .box [.p (ki s)]), (1, .box [.p (ki dp)]), (2, .box [.bx 0 0])] (.bq (anyR p nx l s).1) ((fun s : Int => [(0, .box [.p (ki s)]), (1, .box [.p (ki dp)]), (2, .box [.bx 0 0])]) (anyR p nx l s).2) := by
  refine fn_ok T Tryz.func130 (by kernel_rfl) rfl rfl rfl rfl fun C hC => ?_
  repeat' first | refine g_go T hC true 400 rfl rfl ?_ | refine g_cond rfl (fun h => ?_) (fun h => ?_) | refine g_callR hC (exprS_idx f dp l p nx inv hf s hs) (nm [0, 1, 2]) rfl rfl (LeSs.refl _) rfl rfl rfl rfl rfl rfl rfl rfl ?_
  exact g_fin ⟨.inl rfl, id, _, rfl, .qq (anyR_1 p nx l 0 s), by rw [← anyR_2 p nx l 0 s]; exact ⟨rfl, rfl, rfl, trivial⟩, rfl, rfl⟩

theorem exprN_idx (f : FuncId)  (l : List Ex) (p : Ex → Unit → Bool) (nx : Ex → Unit → Unit) (inv : Unit → Prop)
    (hf : ∀ x ∈ l, ∀ s : Unit, inv s → FnOK Tryz.prog f [aggS (exprC x)] [] (.bq (p x s)) ((fun s : Unit => []) (nx x s)) ∧ (p x s = false → inv (nx x s))) (s : Unit) (hs : inv s) :
    FnOK Tryz.prog 153 [pS (.sl 4 (l.map exprR)), .one (.cl f [] [])] [] (I (idxR p nx l 0 s).1) ((fun s : Unit => []) (idxR p nx l 0 s).2) := by
  refine fn_ok T Tryz.func153 (by kernel_rfl) rfl rfl rfl rfl fun C hC => ?_
  have hs0 := hs
  refine g_len 0 rfl fun hl => ?_
  rw [List.length_map] at hl
  repeat' first | refine g_go T hC true 400 rfl rfl ?_ | refine g_cond rfl (fun h => ?_) (fun h => ?_)
  rw [List.length_map]
  refine g_loop (fun q : Nat × Unit => q.1 ≤ l.length ∧ inv q.2 ∧ idxR p nx (l.drop q.1) q.1 q.2 = idxR p nx l 0 s) (fun q => (fun s : Unit => ([(0, pS (.sl 4 (l.map exprR))), (1, .one (.cl f [] [])), (7, I l.length), (8, I q.1)], [])) q.2) (fun q => l.length - q.1) hC
    (0, s) ⟨Nat.zero_le _, hs, rfl⟩ id ⟨rfl, ⟨rfl, rfl, rfl, rfl, trivial⟩, trivial, rfl, fun _ _ => rfl⟩ ?_
  generalize idxR p nx l 0 s = res
  clear hs hs0
  rintro ⟨i, s⟩ ⟨hi, hv, hn⟩
  simp only at hi hv hn
  refine g_run' T hC true 200 rfl ?_
  refine g_cond rfl (fun hh => ?_) (fun hh => ?_)
  · have hlt : i < l.length := by simpa using hh
    clear hh
    obtain ⟨x, hx⟩ := exists_at hlt
    rw [drop_at hx] at hn
    simp only [idxR] at hn
    have hv2 := (hf x (List.mem_of_getElem? hx) s hv).2
    repeat' first | refine g_go T hC true 400 rfl rfl ?_ | refine g_cond rfl (fun h => ?_) (fun h => ?_) | refine g_idx T hC rfl rfl rfl (Int.natCast_nonneg _) (map_atE hx) rfl rfl ?_ | refine g_callR hC (hf x (List.mem_of_getElem? hx) s hv).1 id rfl rfl (LeSs.refl _) rfl rfl rfl rfl rfl rfl rfl rfl ?_ | refine g_outR ?_
    · rw [if_pos (by assumption)] at hn
      subst hn
      exact g_fin ⟨.inl rfl, id, _, rfl, .refl _, trivial, rfl, rfl⟩
    · have hpf : p x s = false := by assumption
      rw [hpf] at hn
      simp only [Bool.false_eq_true, if_false] at hn
      rw [wrap64 (by omega)]
      exact g_round (i + 1, nx x s) ⟨by simp only; omega, hv2 hpf, hn⟩ id (by simp only; omega) ⟨rfl, ⟨rfl, rfl, rfl, rfl, trivial⟩, trivial, rfl, fun _ _ => rfl⟩
  · have hge : ¬ i < l.length := by simpa using hh
    rw [List.drop_eq_nil_of_le (by omega)] at hn
    simp only [idxR] at hn
    subst hn
    repeat' first | refine g_go T hC true 400 rfl rfl ?_ | refine g_cond rfl (fun h => ?_) (fun h => ?_) | refine g_outE ?_
    exact g_fin ⟨.inl rfl, id, _, rfl, .refl _, trivial, rfl, rfl⟩
theorem exprN_has (f : FuncId)  (l : List Ex) (p : Ex → Unit → Bool) (nx : Ex → Unit → Unit) (inv : Unit → Prop)
    (hf : ∀ x ∈ l, ∀ s : Unit, inv s → FnOK Tryz.prog f [aggS (exprC x)] [] (.bq (p x s)) ((fun s : Unit => []) (nx x s)) ∧ (p x s = false → inv (nx x s))) (s : Unit) (hs : inv s) :
    FnOK Tryz.prog 130 [pS (.sl 4 (l.map exprR)), .one (.cl f [] [])] [] (.bq (anyR p nx l s).1) ((fun s : Unit => []) (anyR p nx l s).2) := by
  refine fn_ok T Tryz.func130 (by kernel_rfl) rfl rfl rfl rfl fun C hC => ?_
  repeat' first | refine g_go T hC true 400 rfl rfl ?_ | refine g_cond rfl (fun h => ?_) (fun h => ?_) | refine g_callR hC (exprN_idx f  l p nx inv hf s hs) (nm []) rfl rfl (LeSs.refl _) rfl rfl rfl rfl rfl rfl rfl rfl ?_
  exact g_fin ⟨.inl rfl, id, _, rfl, .qq (anyR_1 p nx l 0 s), by rw [← anyR_2 p nx l 0 s]; exact trivial, rfl, rfl⟩

theorem exprN_any (f : FuncId) (l : List Ex) (p : Ex → Bool) (hf : ∀ x ∈ l, FnOK Tryz.prog f [aggS (exprC x)] [] (.bq (p x)) []) : FnOK Tryz.prog 130 [pS (.sl 4 (l.map exprR)), .one (.cl f [] [])] [] (.bq (l.any p)) [] := by
  have := exprN_has f l (fun x _ => p x) (fun _ s => s) (fun _ => True) (fun x hx s _ => ⟨hf x hx, fun _ => trivial⟩) () trivial
  rw [anyR_no] at this
  exact this
theorem fieldN_idx (f : FuncId)  (l : List Fld) (p : Fld → Unit → Bool) (nx : Fld → Unit → Unit) (inv : Unit → Prop)
    (hf : ∀ x ∈ l, ∀ s : Unit, inv s → FnOK Tryz.prog f [aggS (fieldR x)] [] (.bq (p x s)) ((fun s : Unit => []) (nx x s)) ∧ (p x s = false → inv (nx x s))) (s : Unit) (hs : inv s) :
    FnOK Tryz.prog 88 [pS (.sl 2 (l.map fieldR)), .one (.cl f [] [])] [] (I (idxR p nx l 0 s).1) ((fun s : Unit => []) (idxR p nx l 0 s).2) := by
  refine fn_ok T Tryz.func88 (by kernel_rfl) rfl rfl rfl rfl fun C hC => ?_
  have hs0 := hs
  refine g_len 0 rfl fun hl => ?_
  rw [List.length_map] at hl
  repeat' first | refine g_go T hC true 400 rfl rfl ?_ | refine g_cond rfl (fun h => ?_) (fun h => ?_)
  rw [List.length_map]
  refine g_loop (fun q : Nat × Unit => q.1 ≤ l.length ∧ inv q.2 ∧ idxR p nx (l.drop q.1) q.1 q.2 = idxR p nx l 0 s) (fun q => (fun s : Unit => ([(0, pS (.sl 2 (l.map fieldR))), (1, .one (.cl f [] [])), (7, I l.length), (8, I q.1)], [])) q.2) (fun q => l.length - q.1) hC
    (0, s) ⟨Nat.zero_le _, hs, rfl⟩ id ⟨rfl, ⟨rfl, rfl, rfl, rfl, trivial⟩, trivial, rfl, fun _ _ => rfl⟩ ?_
  generalize idxR p nx l 0 s = res
  clear hs hs0
  rintro ⟨i, s⟩ ⟨hi, hv, hn⟩
  simp only at hi hv hn
  refine g_run' T hC true 200 rfl ?_
  refine g_cond rfl (fun hh => ?_) (fun hh => ?_)
  · have hlt : i < l.length := by simpa using hh
    clear hh
    obtain ⟨x, hx⟩ := exists_at hlt
    rw [drop_at hx] at hn
    simp only [idxR] at hn
    have hv2 := (hf x (List.mem_of_getElem? hx) s hv).2
    repeat' first | refine g_go T hC true 400 rfl rfl ?_ | refine g_cond rfl (fun h => ?_) (fun h => ?_) | refine g_idx T hC rfl rfl rfl (Int.natCast_nonneg _) (map_at hx) rfl rfl ?_ | refine g_callR hC (hf x (List.mem_of_getElem? hx) s hv).1 id rfl rfl (LeSs.refl _) rfl rfl rfl rfl rfl rfl rfl rfl ?_ | refine g_outR ?_
    · rw [if_pos (by assumption)] at hn
      subst hn
      exact g_fin ⟨.inl rfl, id, _, rfl, .refl _, trivial, rfl, rfl⟩
    · have hpf : p x s = false := by assumption
      rw [hpf] at hn
      simp only [Bool.false_eq_true, if_false] at hn
      rw [wrap64 (by omega)]
      exact g_round (i + 1, nx x s) ⟨by simp only; omega, hv2 hpf, hn⟩ id (by simp only; omega) ⟨rfl, ⟨rfl, rfl, rfl, rfl, trivial⟩, trivial, rfl, fun _ _ => rfl⟩
  · have hge : ¬ i < l.length := by simpa using hh
    rw [List.drop_eq_nil_of_le (by omega)] at hn
    simp only [idxR] at hn
    subst hn
    repeat' first | refine g_go T hC true 400 rfl rfl ?_ | refine g_cond rfl (fun h => ?_) (fun h => ?_) | refine g_outE ?_
    exact g_fin ⟨.inl rfl, id, _, rfl, .refl _, trivial, rfl, rfl⟩
theorem fieldN_has (f : FuncId)  (l : List Fld) (p : Fld → Unit → Bool) (nx : Fld → Unit → Unit) (inv : Unit → Prop)
    (hf : ∀ x ∈ l, ∀ s : Unit, inv s → FnOK Tryz.prog f [aggS (fieldR x)] [] (.bq (p x s)) ((fun s : Unit => []) (nx x s)) ∧ (p x s = false → inv (nx x s))) (s : Unit) (hs : inv s) :
    FnOK Tryz.prog 36 [pS (.sl 2 (l.map fieldR)), .one (.cl f [] [])] [] (.bq (anyR p nx l s).1) ((fun s : Unit => []) (anyR p nx l s).2) := by
  refine fn_ok T Tryz.func36 (by kernel_rfl) rfl rfl rfl rfl fun C hC => ?_
  repeat' first | refine g_go T hC true 400 rfl rfl ?_ | refine g_cond rfl (fun h => ?_) (fun h => ?_) | refine g_callR hC (fieldN_idx f  l p nx inv hf s hs) (nm []) rfl rfl (LeSs.refl _) rfl rfl rfl rfl rfl rfl rfl rfl ?_
  exact g_fin ⟨.inl rfl, id, _, rfl, .qq (anyR_1 p nx l 0 s), by rw [← anyR_2 p nx l 0 s]; exact trivial, rfl, rfl⟩

theorem fieldN_any (f : FuncId) (l : List Fld) (p : Fld → Bool) (hf : ∀ x ∈ l, FnOK Tryz.prog f [aggS (fieldR x)] [] (.bq (p x)) []) : FnOK Tryz.prog 36 [pS (.sl 2 (l.map fieldR)), .one (.cl f [] [])] [] (.bq (l.any p)) [] := by
  have := fieldN_has f l (fun x _ => p x) (fun _ s => s) (fun _ => True) (fun x hx s _ => ⟨hf x hx, fun _ => trivial⟩) () trivial
  rw [anyR_no] at this
  exact this
theorem boundN_idx (f : FuncId)  (l : List Bd) (p : Bd → Unit → Bool) (nx : Bd → Unit → Unit) (inv : Unit → Prop)
    (hf : ∀ x ∈ l, ∀ s : Unit, inv s → FnOK Tryz.prog f [aggS (boundR x)] [] (.bq (p x s)) ((fun s : Unit => []) (nx x s)) ∧ (p x s = false → inv (nx x s))) (s : Unit) (hs : inv s) :
    FnOK Tryz.prog 144 [pS (.sl 5 (l.map boundR)), .one (.cl f [] [])] [] (I (idxR p nx l 0 s).1) ((fun s : Unit => []) (idxR p nx l 0 s).2) := by
  refine fn_ok T Tryz.func144 (by kernel_rfl) rfl rfl rfl rfl fun C hC => ?_
  have hs0 := hs
  refine g_len 0 rfl fun hl => ?_
  rw [List.length_map] at hl
  repeat' first | refine g_go T hC true 400 rfl rfl ?_ | refine g_cond rfl (fun h => ?_) (fun h => ?_)
  rw [List.length_map]
  refine g_loop (fun q : Nat × Unit => q.1 ≤ l.length ∧ inv q.2 ∧ idxR p nx (l.drop q.1) q.1 q.2 = idxR p nx l 0 s) (fun q => (fun s : Unit => ([(0, pS (.sl 5 (l.map boundR))), (1, .one (.cl f [] [])), (7, I l.length), (8, I q.1)], [])) q.2) (fun q => l.length - q.1) hC
    (0, s) ⟨Nat.zero_le _, hs, rfl⟩ id ⟨rfl, ⟨rfl, rfl, rfl, rfl, trivial⟩, trivial, rfl, fun _ _ => rfl⟩ ?_
  generalize idxR p nx l 0 s = res
  clear hs hs0
  rintro ⟨i, s⟩ ⟨hi, hv, hn⟩
  simp only at hi hv hn
  refine g_run' T hC true 200 rfl ?_
  refine g_cond rfl (fun hh => ?_) (fun hh => ?_)
  · have hlt : i < l.length := by simpa using hh
    clear hh
    obtain ⟨x, hx⟩ := exists_at hlt
    rw [drop_at hx] at hn
    simp only [idxR] at hn
    have hv2 := (hf x (List.mem_of_getElem? hx) s hv).2
    repeat' first | refine g_go T hC true 400 rfl rfl ?_ | refine g_cond rfl (fun h => ?_) (fun h => ?_) | refine g_idx T hC rfl rfl rfl (Int.natCast_nonneg _) (map_at hx) rfl rfl ?_ | refine g_callR hC (hf x (List.mem_of_getElem? hx) s hv).1 id rfl rfl (LeSs.refl _) rfl rfl rfl rfl rfl rfl rfl rfl ?_ | refine g_outR ?_
    · rw [if_pos (by assumption)] at hn
      subst hn
      exact g_fin ⟨.inl rfl, id, _, rfl, .refl _, trivial, rfl, rfl⟩
    · have hpf : p x s = false := by assumption
      rw [hpf] at hn
      simp only [Bool.false_eq_true, if_false] at hn
      rw [wrap64 (by omega)]
      exact g_round (i + 1, nx x s) ⟨by simp only; omega, hv2 hpf, hn⟩ id (by simp only; omega) ⟨rfl, ⟨rfl, rfl, rfl, rfl, trivial⟩, trivial, rfl, fun _ _ => rfl⟩
  · have hge : ¬ i < l.length := by simpa using hh
    rw [List.drop_eq_nil_of_le (by omega)] at hn
    simp only [idxR] at hn
    subst hn
    repeat' first | refine g_go T hC true 400 rfl rfl ?_ | refine g_cond rfl (fun h => ?_) (fun h => ?_) | refine g_outE ?_
    exact g_fin ⟨.inl rfl, id, _, rfl, .refl _, trivial, rfl, rfl⟩
theorem boundN_has (f : FuncId)  (l : List Bd) (p : Bd → Unit → Bool) (nx : Bd → Unit → Unit) (inv : Unit → Prop)
    (hf : ∀ x ∈ l, ∀ s : Unit, inv s → FnOK Tryz.prog f [aggS (boundR x)] [] (.bq (p x s)) ((fun s : Unit => []) (nx x s)) ∧ (p x s = false → inv (nx x s))) (s : Unit) (hs : inv s) :
    FnOK Tryz.prog 106 [pS (.sl 5 (l.map boundR)), .one (.cl f [] [])] [] (.bq (anyR p nx l s).1) ((fun s : Unit => []) (anyR p nx l s).2) := by
  refine fn_ok T Tryz.func106 (by kernel_rfl) rfl rfl rfl rfl fun C hC => ?_
  repeat' first | refine g_go T hC true 400 rfl rfl ?_ | refine g_cond rfl (fun h => ?_) (fun h => ?_) | refine g_callR hC (boundN_idx f  l p nx inv hf s hs) (nm []) rfl rfl (LeSs.refl _) rfl rfl rfl rfl rfl rfl rfl rfl ?_
  exact g_fin ⟨.inl rfl, id, _, rfl, .qq (anyR_1 p nx l 0 s), by rw [← anyR_2 p nx l 0 s]; exact trivial, rfl, rfl⟩

theorem boundN_any (f : FuncId) (l : List Bd) (p : Bd → Bool) (hf : ∀ x ∈ l, FnOK Tryz.prog f [aggS (boundR x)] [] (.bq (p x)) []) : FnOK Tryz.prog 106 [pS (.sl 5 (l.map boundR)), .one (.cl f [] [])] [] (.bq (l.any p)) [] := by
  have := boundN_has f l (fun x _ => p x) (fun _ s => s) (fun _ => True) (fun x hx s _ => ⟨hf x hx, fun _ => trivial⟩) () trivial
  rw [anyR_no] at this
  exact this
theorem typeN_idx (f : FuncId)  (l : List NodeT) (p : NodeT → Unit → Bool) (nx : NodeT → Unit → Unit) (inv : Unit → Prop)
    (hf : ∀ x ∈ l, ∀ s : Unit, inv s → FnOK Tryz.prog f [aggS (nodeTR x)] [] (.bq (p x s)) ((fun s : Unit => []) (nx x s)) ∧ (p x s = false → inv (nx x s))) (s : Unit) (hs : inv s) :
    FnOK Tryz.prog 89 [pS (.sl 2 (l.map nodeTR)), .one (.cl f [] [])] [] (I (idxR p nx l 0 s).1) ((fun s : Unit => []) (idxR p nx l 0 s).2) := by
  refine fn_ok T Tryz.func89 (by kernel_rfl) rfl rfl rfl rfl fun C hC => ?_
  have hs0 := hs
  refine g_len 0 rfl fun hl => ?_
  rw [List.length_map] at hl
  repeat' first | refine g_go T hC true 400 rfl rfl ?_ | refine g_cond rfl (fun h => ?_) (fun h => ?_)
  rw [List.length_map]
  refine g_loop (fun q : Nat × Unit => q.1 ≤ l.length ∧ inv q.2 ∧ idxR p nx (l.drop q.1) q.1 q.2 = idxR p nx l 0 s) (fun q => (fun s : Unit => ([(0, pS (.sl 2 (l.map nodeTR))), (1, .one (.cl f [] [])), (7, I l.length), (8, I q.1)], [])) q.2) (fun q => l.length - q.1) hC
    (0, s) ⟨Nat.zero_le _, hs, rfl⟩ id ⟨rfl, ⟨rfl, rfl, rfl, rfl, trivial⟩, trivial, rfl, fun _ _ => rfl⟩ ?_
  generalize idxR p nx l 0 s = res
  clear hs hs0
  rintro ⟨i, s⟩ ⟨hi, hv, hn⟩
  simp only at hi hv hn
  refine g_run' T hC true 200 rfl ?_
  refine g_cond rfl (fun hh => ?_) (fun hh => ?_)
  · have hlt : i < l.length := by simpa using hh
    clear hh
    obtain ⟨x, hx⟩ := exists_at hlt
    rw [drop_at hx] at hn
    simp only [idxR] at hn
    have hv2 := (hf x (List.mem_of_getElem? hx) s hv).2
    repeat' first | refine g_go T hC true 400 rfl rfl ?_ | refine g_cond rfl (fun h => ?_) (fun h => ?_) | refine g_idx T hC rfl rfl rfl (Int.natCast_nonneg _) (map_at hx) rfl rfl ?_ | refine g_callR hC (hf x (List.mem_of_getElem? hx) s hv).1 id rfl rfl (LeSs.refl _) rfl rfl rfl rfl rfl rfl rfl rfl ?_ | refine g_outR ?_
    · rw [if_pos (by assumption)] at hn
      subst hn
      exact g_fin ⟨.inl rfl, id, _, rfl, .refl _, trivial, rfl, rfl⟩
    · have hpf : p x s = false := by assumption
      rw [hpf] at hn
      simp only [Bool.false_eq_true, if_false] at hn
      rw [wrap64 (by omega)]
      exact g_round (i + 1, nx x s) ⟨by simp only; omega, hv2 hpf, hn⟩ id (by simp only; omega) ⟨rfl, ⟨rfl, rfl, rfl, rfl, trivial⟩, trivial, rfl, fun _ _ => rfl⟩
  · have hge : ¬ i < l.length := by simpa using hh
    rw [List.drop_eq_nil_of_le (by omega)] at hn
    simp only [idxR] at hn
    subst hn
    repeat' first | refine g_go T hC true 400 rfl rfl ?_ | refine g_cond rfl (fun h => ?_) (fun h => ?_) | refine g_outE ?_
    exact g_fin ⟨.inl rfl, id, _, rfl, .refl _, trivial, rfl, rfl⟩
theorem typeN_has (f : FuncId)  (l : List NodeT) (p : NodeT → Unit → Bool) (nx : NodeT → Unit → Unit) (inv : Unit → Prop)
    (hf : ∀ x ∈ l, ∀ s : Unit, inv s → FnOK Tryz.prog f [aggS (nodeTR x)] [] (.bq (p x s)) ((fun s : Unit => []) (nx x s)) ∧ (p x s = false → inv (nx x s))) (s : Unit) (hs : inv s) :
    FnOK Tryz.prog 38 [pS (.sl 2 (l.map nodeTR)), .one (.cl f [] [])] [] (.bq (anyR p nx l s).1) ((fun s : Unit => []) (anyR p nx l s).2) := by
  refine fn_ok T Tryz.func38 (by kernel_rfl) rfl rfl rfl rfl fun C hC => ?_
  repeat' first | refine g_go T hC true 400 rfl rfl ?_ | refine g_cond rfl (fun h => ?_) (fun h => ?_) | refine g_callR hC (typeN_idx f  l p nx inv hf s hs) (nm []) rfl rfl (LeSs.refl _) rfl rfl rfl rfl rfl rfl rfl rfl ?_
  exact g_fin ⟨.inl rfl, id, _, rfl, .qq (anyR_1 p nx l 0 s), by rw [← anyR_2 p nx l 0 s]; exact trivial, rfl, rfl⟩

theorem typeN_any (f : FuncId) (l : List NodeT) (p : NodeT → Bool) (hf : ∀ x ∈ l, FnOK Tryz.prog f [aggS (nodeTR x)] [] (.bq (p x)) []) : FnOK Tryz.prog 38 [pS (.sl 2 (l.map nodeTR)), .one (.cl f [] [])] [] (.bq (l.any p)) [] := by
  have := typeN_has f l (fun x _ => p x) (fun _ s => s) (fun _ => True) (fun x hx s _ => ⟨hf x hx, fun _ => trivial⟩) () trivial
  rw [anyR_no] at this
  exact this
theorem procN_idx (f : FuncId)  (l : List Pr) (p : Pr → Unit → Bool) (nx : Pr → Unit → Unit) (inv : Unit → Prop)
    (hf : ∀ x ∈ l, ∀ s : Unit, inv s → FnOK Tryz.prog f [aggS (procR x)] [] (.bq (p x s)) ((fun s : Unit => []) (nx x s)) ∧ (p x s = false → inv (nx x s))) (s : Unit) (hs : inv s) :
    FnOK Tryz.prog 108 [pS (.sl 5 (l.map procR)), .one (.cl f [] [])] [] (I (idxR p nx l 0 s).1) ((fun s : Unit => []) (idxR p nx l 0 s).2) := by
  refine fn_ok T Tryz.func108 (by kernel_rfl) rfl rfl rfl rfl fun C hC => ?_
  have hs0 := hs
  refine g_len 0 rfl fun hl => ?_
  rw [List.length_map] at hl
  repeat' first | refine g_go T hC true 400 rfl rfl ?_ | refine g_cond rfl (fun h => ?_) (fun h => ?_)
  rw [List.length_map]
  refine g_loop (fun q : Nat × Unit => q.1 ≤ l.length ∧ inv q.2 ∧ idxR p nx (l.drop q.1) q.1 q.2 = idxR p nx l 0 s) (fun q => (fun s : Unit => ([(0, pS (.sl 5 (l.map procR))), (1, .one (.cl f [] [])), (7, I l.length), (8, I q.1)], [])) q.2) (fun q => l.length - q.1) hC
    (0, s) ⟨Nat.zero_le _, hs, rfl⟩ id ⟨rfl, ⟨rfl, rfl, rfl, rfl, trivial⟩, trivial, rfl, fun _ _ => rfl⟩ ?_
  generalize idxR p nx l 0 s = res
  clear hs hs0
  rintro ⟨i, s⟩ ⟨hi, hv, hn⟩
  simp only at hi hv hn
  refine g_run' T hC true 200 rfl ?_
  refine g_cond rfl (fun hh => ?_) (fun hh => ?_)
  · have hlt : i < l.length := by simpa using hh
    clear hh
    obtain ⟨x, hx⟩ := exists_at hlt
    rw [drop_at hx] at hn
    simp only [idxR] at hn
    have hv2 := (hf x (List.mem_of_getElem? hx) s hv).2
    repeat' first | refine g_go T hC true 400 rfl rfl ?_ | refine g_cond rfl (fun h => ?_) (fun h => ?_) | refine g_idx T hC rfl rfl rfl (Int.natCast_nonneg _) (map_at hx) rfl rfl ?_ | refine g_callR hC (hf x (List.mem_of_getElem? hx) s hv).1 id rfl rfl (LeSs.refl _) rfl rfl rfl rfl rfl rfl rfl rfl ?_ | refine g_outR ?_
    · rw [if_pos (by assumption)] at hn
      subst hn
      exact g_fin ⟨.inl rfl, id, _, rfl, .refl _, trivial, rfl, rfl⟩
    · have hpf : p x s = false := by assumption
      rw [hpf] at hn
      simp only [Bool.false_eq_true, if_false] at hn
      rw [wrap64 (by omega)]
      exact g_round (i + 1, nx x s) ⟨by simp only; omega, hv2 hpf, hn⟩ id (by simp only; omega) ⟨rfl, ⟨rfl, rfl, rfl, rfl, trivial⟩, trivial, rfl, fun _ _ => rfl⟩
  · have hge : ¬ i < l.length := by simpa using hh
    rw [List.drop_eq_nil_of_le (by omega)] at hn
    simp only [idxR] at hn
    subst hn
    repeat' first | refine g_go T hC true 400 rfl rfl ?_ | refine g_cond rfl (fun h => ?_) (fun h => ?_) | refine g_outE ?_
    exact g_fin ⟨.inl rfl, id, _, rfl, .refl _, trivial, rfl, rfl⟩
theorem procN_has (f : FuncId)  (l : List Pr) (p : Pr → Unit → Bool) (nx : Pr → Unit → Unit) (inv : Unit → Prop)
    (hf : ∀ x ∈ l, ∀ s : Unit, inv s → FnOK Tryz.prog f [aggS (procR x)] [] (.bq (p x s)) ((fun s : Unit => []) (nx x s)) ∧ (p x s = false → inv (nx x s))) (s : Unit) (hs : inv s) :
    FnOK Tryz.prog 73 [pS (.sl 5 (l.map procR)), .one (.cl f [] [])] [] (.bq (anyR p nx l s).1) ((fun s : Unit => []) (anyR p nx l s).2) := by
  refine fn_ok T Tryz.func73 (by kernel_rfl) rfl rfl rfl rfl fun C hC => ?_
  repeat' first | refine g_go T hC true 400 rfl rfl ?_ | refine g_cond rfl (fun h => ?_) (fun h => ?_) | refine g_callR hC (procN_idx f  l p nx inv hf s hs) (nm []) rfl rfl (LeSs.refl _) rfl rfl rfl rfl rfl rfl rfl rfl ?_
  exact g_fin ⟨.inl rfl, id, _, rfl, .qq (anyR_1 p nx l 0 s), by rw [← anyR_2 p nx l 0 s]; exact trivial, rfl, rfl⟩

theorem procN_any (f : FuncId) (l : List Pr) (p : Pr → Bool) (hf : ∀ x ∈ l, FnOK Tryz.prog f [aggS (procR x)] [] (.bq (p x)) []) : FnOK Tryz.prog 73 [pS (.sl 5 (l.map procR)), .one (.cl f [] [])] [] (.bq (l.any p)) [] := by
  have := procN_has f l (fun x _ => p x) (fun _ s => s) (fun _ => True) (fun x hx s _ => ⟨hf x hx, fun _ => trivial⟩) () trivial
  rw [anyR_no] at this
  exact this
end Hw.Pa
namespace Hw.Pa
open Go Go.Proofs Hw.M

theorem take_ok (c : Int) (h : -1000000 ≤ c) (h2 : c ≤ 1000000) : FnOK Tryz.prog 128 [.one (.bx 0 0)] [(0, .box [.p (ki c)])] (.bq (decide (0 ≤ c - 1))) [(0, .box [.p (ki (c - 1))])] := by
  refine fn_ok T Tryz.func128 (by kernel_rfl) rfl rfl rfl rfl fun C hC => ?_
  repeat' first | refine g_go T hC true 400 rfl rfl ?_ | refine g_cond rfl (fun h => ?_) (fun h => ?_)
  rw [wrap64 (by omega)]
  exact g_fin ⟨.inl rfl, id, _, rfl, .qq rfl, ⟨rfl, trivial⟩, rfl, rfl⟩
def partsN (op : Int) : Int := if partsS op = -2 then 2 else partsS op
theorem partsS_mid {op : Int} (h1 : 9 ≤ op) (h2 : op ≤ 23) (h3 : op ≠ 18) (h4 : op ≠ 21) : partsS op = 2 := by
  unfold partsS
  rw [if_neg (by simp; omega), if_neg (by simp; omega), if_neg (by omega), if_neg (by omega), if_pos (by simp; omega)]
theorem partsS_out {op : Int} (h1 : op < 1 ∨ 24 < op) : partsS op = -2 := by
  unfold partsS
  rw [if_neg (by simp; omega), if_neg (by simp; omega), if_neg (by omega), if_neg (by omega), if_neg (by simp; omega)]
theorem astParts_ok (op : Int) : FnOK Tryz.prog 127 [I op] [] (.tup [I (partsN op), .bq (!decide (partsS op = -2))]) [] := by
  have key : ∀ n b, (n = partsN op ∧ b = !decide (partsS op = -2)) → LeS (.tup [I n, Bo b]) (.tup [I (partsN op), .bq (!decide (partsS op = -2))]) := fun n b h => by
    obtain ⟨rfl, rfl⟩ := h; exact LeS.tup (.cons (.refl _) (.cons (LeS.qb rfl) .nil))
  have key2 : ∀ n b, (n = partsN op ∧ b = !decide (partsS op = -2)) → LeS (.tup [I n, .bq b]) (.tup [I (partsN op), .bq (!decide (partsS op = -2))]) := fun n b h => by
    obtain ⟨rfl, rfl⟩ := h; exact LeS.refl _
  refine fn_ok T Tryz.func127 (by kernel_rfl) rfl rfl rfl rfl fun C hC => ?_
  repeat' first | refine g_go T hC true 400 rfl rfl ?_ | refine g_condS rfl (fun h => ?_) (fun h => ?_) | refine g_splitG rfl rfl rfl (fun h => ?_) (fun h => ?_) | refine g_splitP rfl rfl (fun h => ?_) (fun h => ?_)
  all_goals
    first
      | refine g_fin ⟨.inl rfl, id, _, rfl, key _ _ ?_, trivial, rfl, rfl⟩
      | refine g_fin ⟨.inl rfl, id, _, rfl, key2 _ _ ?_, trivial, rfl, rfl⟩
    clear key key2
    first
      | (obtain rfl := of_decide_eq_true h; exact ⟨rfl, rfl⟩)
      | (simp only [decide_eq_true_eq, decide_eq_false_iff_not] at *
         by_cases h23 : op ≤ 23
         · have e := partsS_mid (op := op) (by omega) h23 (by omega) (by omega)
           exact ⟨by rw [partsN, e]; rfl, by rw [e]; simp [h23]⟩
         · have e := partsS_out (op := op) (by omega)
           exact ⟨by rw [partsN, e]; rfl, by rw [e]; simp [h23]⟩)
      | (simp only [decide_eq_true_eq, decide_eq_false_iff_not] at *
         have e := partsS_out (op := op) (by omega)
         exact ⟨by rw [partsN, e]; rfl, by rw [e]; rfl⟩)

def nPart (e : Ex) : Bool := if e.op = 1 then decide (0 ≤ e.n) && decide (e.n ≤ 1099511627776) else if e.op = 2 then decide (e.n = 0) || decide (e.n = 1) else decide (e.n = 0)
theorem nodeS_eq (e : Ex) : nodeS e = (!decide (partsS e.op = -2) && !(decide (0 ≤ partsS e.op) && !decide ((e.l.length : Int) = partsS e.op)) && !(decide (partsS e.op = -1) && decide (6 < (e.l.length : Int))) && namedS e && nPart e) := rfl
theorem nodeS_eq2 (e : Ex) : nodeS e = (!decide (partsS e.op = -2) && (namedS e && nPart e) && !(decide (0 ≤ partsS e.op) && !decide ((e.l.length : Int) = partsS e.op)) && !(decide (partsS e.op = -1) && decide (6 < (e.l.length : Int)))) := by
  rw [nodeS_eq]
  generalize decide (partsS e.op = -2) = a
  generalize (decide (0 ≤ partsS e.op) && !decide ((e.l.length : Int) = partsS e.op)) = b
  generalize (decide (partsS e.op = -1) && decide (6 < (e.l.length : Int))) = c
  cases a <;> cases b <;> cases c <;> cases namedS e <;> cases nPart e <;> rfl
theorem partsS_ge (op : Int) : -2 ≤ partsS op ∧ (partsS op < 0 → partsS op = -1 ∨ partsS op = -2) := by
  unfold partsS
  repeat' split
  all_goals omega
theorem astNamed_ok (e : Ex) : FnOK Tryz.prog 129 [aggS (exprC e)] [] (.bq (namedS e && nPart e)) [] := by
  refine fn_ok T Tryz.func129 (by kernel_rfl) rfl rfl rfl rfl fun C hC => ?_
  repeat' first | refine g_go T hC true 400 rfl rfl ?_ | refine g_condS rfl (fun h => ?_) (fun h => ?_) | refine g_splitG rfl rfl rfl (fun h => ?_) (fun h => ?_) | refine g_splitP rfl rfl (fun h => ?_) (fun h => ?_) | refine g_call hC (lexName_ok _) rfl rfl (LeSs.refl _) rfl rfl rfl ?_ | refine g_retl T (.inl rfl) rfl ?_ | refine g_retq T (.inl rfl) rfl ?_
  all_goals (simp_all [namedS, nPart] <;> omega)
mutual
def exB : Ex → Int → Int → Bool × Int
  | .mk op n s l, d, c => if (decide (0 ≤ c - 1) && !decide (60 < d) && nodeS (.mk op n s l)) = true then exL l (d + 1) (c - 1) else (false, c - 1)
def exL : List Ex → Int → Int → Bool × Int
  | [], _, c => (true, c)
  | x :: r, d, c => if (exB x d c).1 = true then exL r d (exB x d c).2 else (false, (exB x d c).2)
end
theorem exB_eq (e : Ex) (d c : Int) : exB e d c = if (decide (0 ≤ c - 1) && !decide (60 < d) && nodeS e) = true then exL e.l (d + 1) (c - 1) else (false, c - 1) := by
  cases e; rfl
mutual
theorem exB_bound : ∀ (e : Ex) (d c : Int), 0 ≤ c → -1 ≤ (exB e d c).2 ∧ (exB e d c).2 ≤ c ∧ ((exB e d c).1 = true → 0 ≤ (exB e d c).2)
  | .mk op n s l, d, c, h => by
    simp only [exB]
    split
    · rename_i h'
      simp only [Bool.and_eq_true, decide_eq_true_eq] at h'
      have := exL_bound l (d + 1) (c - 1) h'.1.1
      exact ⟨this.1, by omega, this.2.2⟩
    · simp only; exact ⟨by omega, by omega, fun e => by cases e⟩
theorem exL_bound : ∀ (l : List Ex) (d c : Int), 0 ≤ c → -1 ≤ (exL l d c).2 ∧ (exL l d c).2 ≤ c ∧ ((exL l d c).1 = true → 0 ≤ (exL l d c).2)
  | [], d, c, h => by simp only [exL]; exact ⟨by omega, by omega, fun _ => h⟩
  | x :: r, d, c, h => by
    simp only [exL]
    have h1 := exB_bound x d c h
    split
    · rename_i h2
      have h3 := exL_bound r d _ (h1.2.2 h2)
      exact ⟨h3.1, by omega, h3.2.2⟩
    · exact ⟨h1.1, h1.2.1, fun e => by cases e⟩
end
theorem anyR_ex (d : Int) : ∀ (l : List Ex) (c : Int), anyR (fun x c => !(exB x d c).1) (fun x c => (exB x d c).2) l c = (!(exL l d c).1, (exL l d c).2)
  | [], c => rfl
  | x :: r, c => by
    simp only [anyR, exL]
    cases h : (exB x d c).1 with
    | true => simp only [Bool.not_true, Bool.false_eq_true, if_false, if_true]; exact anyR_ex d r _
    | false => rfl

theorem expr1_ok (x : Ex) (dp c : Int) (h1 : 0 ≤ dp) (h2 : dp ≤ 60) (h : FnOK Tryz.prog 91 [aggS (exprC x), I (dp + 1), .one (.bx 0 0)] [(0, .box [.p (ki c)])] (.bq (exB x (dp + 1) c).1) [(0, .box [.p (ki (exB x (dp + 1) c).2)])]) :
    FnOK Tryz.prog 131 [aggS (exprC x), .one (.bx 1 0), .one (.bx 2 0)] [(0, .box [.p (ki c)]), (1, .box [.p (ki dp)]), (2, .box [.bx 0 0])] (.bq (!(exB x (dp + 1) c).1))
      [(0, .box [.p (ki (exB x (dp + 1) c).2)]), (1, .box [.p (ki dp)]), (2, .box [.bx 0 0])] := by
  refine fn_ok T Tryz.func131 (by kernel_rfl) rfl rfl rfl rfl fun C hC => ?_
  repeat' first | refine g_go T hC true 400 rfl rfl ?_ | refine g_cond rfl (fun h => ?_) (fun h => ?_)
  rw [wrap64 (by omega)]
  repeat' first | refine g_go T hC true 400 rfl rfl ?_ | refine g_cond rfl (fun h => ?_) (fun h => ?_) | refine g_callR hC (h) (nm [0]) rfl rfl (LeSs.refl _) rfl rfl rfl rfl rfl rfl rfl rfl ?_
  exact g_fin ⟨.inl rfl, id, _, rfl, .qq rfl, ⟨rfl, rfl, rfl, trivial⟩, rfl, rfl⟩
theorem astExpr_ok : ∀ (N : Nat) (e : Ex) (d c : Int), sizeOf e < N → 0 ≤ d → d ≤ 61 → 0 ≤ c → c ≤ 1000 → FnOK Tryz.prog 91 [aggS (exprC e), I d, .one (.bx 0 0)] [(0, .box [.p (ki c)])] (.bq (exB e d c).1) [(0, .box [.p (ki (exB e d c).2)])] := by
  intro N
  induction N with
  | zero => intro e d c h; omega
  | succ N ih =>
    intro e d c hN hd1 hd2 hc1 hc2
    have no : (decide (0 ≤ c - 1) && !decide (60 < d) && nodeS e) = false → (exB e d c) = (false, c - 1) := fun h => by rw [exB_eq, h]; rfl
    have yes : (decide (0 ≤ c - 1) && !decide (60 < d) && nodeS e) = true → (exB e d c) = exL e.l (d + 1) (c - 1) := fun h => by rw [exB_eq, if_pos h]
    refine fn_ok T Tryz.func91 (by kernel_rfl) rfl rfl rfl rfl fun C hC => ?_
    repeat' first | refine g_go T hC true 400 rfl rfl ?_ | refine g_cond rfl (fun h => ?_) (fun h => ?_) | refine g_splitG rfl rfl rfl (fun h => ?_) (fun h => ?_) | refine g_splitP rfl rfl (fun h => ?_) (fun h => ?_) | refine g_call hC (astParts_ok _) rfl rfl (LeSs.refl _) rfl rfl rfl ?_ | refine g_callR hC (take_ok c (by omega) (by omega)) (nm [0]) rfl rfl (LeSs.refl _) rfl rfl rfl rfl rfl rfl rfl rfl ?_ | refine g_call hC (astNamed_ok _) rfl rfl (LeSs.refl _) rfl rfl rfl ?_
    all_goals (try simp only [List.length_map] at *)
    all_goals first
      | (have hn : (decide (0 ≤ c - 1) && !decide (60 < d) && nodeS e) = false := by clear ih no yes; rw [nodeS_eq2]; have := partsS_ge e.op; generalize (namedS e && nPart e) = q at *; simp_all [partsN] <;> omega
         rw [no hn]
         exact g_fin ⟨.inl rfl, id, _, rfl, .qb rfl, ⟨rfl, trivial⟩, rfl, rfl⟩)
      | (have hy : (decide (0 ≤ c - 1) && !decide (60 < d) && nodeS e) = true := by clear ih no yes; rw [nodeS_eq2]; have := partsS_ge e.op; generalize (namedS e && nPart e) = q at *; simp_all [partsN] <;> omega
         rw [yes hy]
         simp only [Bool.and_eq_true, Bool.not_eq_true', decide_eq_true_eq, decide_eq_false_iff_not] at hy
         have hh : FnOK Tryz.prog 130 [pS (exprsP e.l), .one (.cl 131 [] [.bx 1 0, .bx 2 0])] [(0, .box [.p (ki (c - 1))]), (1, .box [.p (ki d)]), (2, .box [.bx 0 0])]
             (.bq (!(exL e.l (d + 1) (c - 1)).1)) [(0, .box [.p (ki (exL e.l (d + 1) (c - 1)).2)]), (1, .box [.p (ki d)]), (2, .box [.bx 0 0])] := by
           have := exprS_has 131 d e.l (fun x c => !(exB x (d + 1) c).1) (fun x c => (exB x (d + 1) c).2) (fun c => 0 ≤ c ∧ c ≤ 1000) (fun x hx c hc => ⟨expr1_ok x d c (by omega) (by omega) (ih x (d + 1) c (by have := List.sizeOf_lt_of_mem hx; have := sizeE_sub e; omega) (by omega) (by omega) hc.1 hc.2), fun hp => by
             have hb := exB_bound x (d + 1) c hc.1
             exact ⟨hb.2.2 (by simpa using hp), by omega⟩⟩) (c - 1) ⟨by omega, by omega⟩
           rw [anyR_ex] at this
           exact this
         repeat' first | refine g_go T hC true 400 rfl rfl ?_ | refine g_cond rfl (fun h => ?_) (fun h => ?_) | refine g_splitG rfl rfl rfl (fun h => ?_) (fun h => ?_) | refine g_splitP rfl rfl (fun h => ?_) (fun h => ?_) | refine g_callR hC (hh) (nm [0, 1004, 1005]) rfl rfl (LeSs.refl _) rfl rfl rfl rfl rfl rfl rfl rfl ?_
         exact g_fin ⟨.inl rfl, id, _, rfl, .qq (by simp), ⟨rfl, trivial⟩, rfl, rfl⟩)
end Hw.Pa
namespace Hw.Pa
open Go Go.Proofs Hw.M

theorem countL_ge : ∀ (l : List Ex) (d n : Int), n ≤ countL l d n
  | [], d, n => by simp only [countL]; omega
  | e :: es, d, n => by
    simp only [countL]
    have h1 := (countS_bound e (d + 1)).1
    have h2 := countL_ge es d (n + countS e (d + 1))
    split <;> omega
mutual
theorem exB_count : ∀ (e : Ex) (d c : Int), 0 ≤ c → c ≤ 1000 → (exB e d c).1 = decide (countS e d ≤ c) ∧ (countS e d ≤ c → (exB e d c).2 = c - countS e d)
  | .mk op n s l, d, c, h0, h1 => by
    by_cases hb : (decide (60 < d) || !nodeS (.mk op n s l)) = true
    · have e1 : countS (.mk op n s l) d = 1001 := by simp only [countS]; exact if_pos hb
      have e2 : exB (.mk op n s l) d c = (false, c - 1) := by
        simp only [exB]; refine if_neg fun h => ?_
        simp only [Bool.and_eq_true, Bool.or_eq_true, Bool.not_eq_true'] at h hb
        rcases hb with hb | hb
        · rw [hb] at h; simp at h
        · rw [hb] at h; simp at h
      rw [e1, e2]
      exact ⟨(decide_eq_false (by omega)).symm, fun h => by omega⟩
    · have e1 : countS (.mk op n s l) d = countL l d 1 := by simp only [countS]; exact if_neg hb
      simp only [Bool.or_eq_true, decide_eq_true_eq, Bool.not_eq_true', not_or, Bool.not_eq_false] at hb
      rw [e1]
      by_cases hc : 0 ≤ c - 1
      · have e2 : exB (.mk op n s l) d c = exL l (d + 1) (c - 1) := by simp only [exB]; exact if_pos (by simp [hc, hb.2]; omega)
        rw [e2]
        have := exL_count l d (c - 1) 1 (by omega) (by omega) (by omega)
        rw [show 1 + (c - 1) = c by omega] at this
        exact this
      · have e2 : exB (.mk op n s l) d c = (false, c - 1) := by simp only [exB]; exact if_neg fun h => by simp only [Bool.and_eq_true, decide_eq_true_eq] at h; omega
        rw [e2]
        have := countL_ge l d 1
        exact ⟨(decide_eq_false (by omega)).symm, fun h => by omega⟩
theorem exL_count : ∀ (l : List Ex) (d c n : Int), 0 ≤ c → 1 ≤ n → n + c ≤ 1000 → (exL l (d + 1) c).1 = decide (countL l d n ≤ n + c) ∧ (countL l d n ≤ n + c → (exL l (d + 1) c).2 = n + c - countL l d n)
  | [], d, c, n, h0, h1, h2 => by
    have e1 : countL [] d n = n := by simp only [countL]
    rw [e1]; simp only [exL]; exact ⟨(decide_eq_true (by omega)).symm, fun _ => by omega⟩
  | x :: r, d, c, n, h0, h1, h2 => by
    have hx := exB_count x (d + 1) c h0 (by omega)
    have hk := (countS_bound x (d + 1)).1
    by_cases hc : countS x (d + 1) ≤ c
    · have e1 : countL (x :: r) d n = countL r d (n + countS x (d + 1)) := by simp only [countL]; exact if_neg (by omega)
      have e2 : exL (x :: r) (d + 1) c = exL r (d + 1) (c - countS x (d + 1)) := by
        simp only [exL]; rw [hx.1, decide_eq_true hc, if_pos rfl, hx.2 hc]
      rw [e1, e2]
      have := exL_count r d (c - countS x (d + 1)) (n + countS x (d + 1)) (by omega) (by omega) (by omega)
      rw [show n + countS x (d + 1) + (c - countS x (d + 1)) = n + c by omega] at this
      exact this
    · have e2 : exL (x :: r) (d + 1) c = (false, (exB x (d + 1) c).2) := by
        simp only [exL]; rw [hx.1, decide_eq_false hc]; exact if_neg (by simp)
      have hg := countL_ge r d (n + countS x (d + 1))
      have hbig : n + c < countL (x :: r) d n := by
        simp only [countL]
        by_cases h3 : 1000 < n + countS x (d + 1)
        · rw [if_pos h3]; omega
        · rw [if_neg h3]; omega
      rw [e2]
      exact ⟨(decide_eq_false (by omega)).symm, fun h => by omega⟩
end
theorem exB_ok (e : Ex) : (exB e 1 1000).1 = exprOk e := (exB_count e 1 1000 (by omega) (by omega)).1
theorem validExpr_ok (e : Ex) : FnOK Tryz.prog 46 [aggS (exprC e)] [] (.bq (exprOk e)) [] := by
  refine fn_ok T Tryz.func46 (by kernel_rfl) rfl rfl rfl rfl fun C hC => ?_
  repeat' first | refine g_go T hC true 400 rfl rfl ?_ | refine g_cond rfl (fun h => ?_) (fun h => ?_) | refine g_callR hC (astExpr_ok (sizeOf e + 1) e 1 1000 (by omega) (by omega) (by omega) (by omega) (by omega)) (nm [1005]) rfl rfl (LeSs.refl _) rfl rfl rfl rfl rfl rfl rfl rfl ?_
  exact g_fin ⟨.inl rfl, id, _, rfl, .qq (exB_ok e), trivial, rfl, rfl⟩

def shapeP (s : Sm) : Bool := (if s.op = 1 ∨ s.op = 2 then isName s.s else decide (s.s = (⟨#[]⟩ : ByteArray))) && !(!decide (s.op = 3) && (decide (0 < (s.els.length : Int)) || (!decide (s.op = 4) && decide (0 < (s.l.length : Int))))) &&
  (if s.op = 1 ∨ s.op = 3 ∨ s.op = 4 then decide ((s.e.length : Int) = 1) else if s.op = 2 then decide ((s.e.length : Int) = 2) else if s.op = 5 then decide ((s.e.length : Int) ≤ 1)
    else if s.op = 6 then decide ((s.e.length : Int) = 1) && decide ((s.e[0]?).map Ex.op = some 7) else false)
theorem shapeP_S (s : Sm) : (shapeP s && s.e.all exprOk) = shapeS s := by
  have hz : ∀ n : Nat, decide ((n : Int) = 0) = !decide (0 < (n : Int)) := fun n => by
    by_cases h : (n : Int) = 0
    · rw [decide_eq_true h, decide_eq_false (by omega)]; rfl
    · rw [decide_eq_false h, decide_eq_true (by omega)]; rfl
  have h1 : ∀ n : Nat, (!decide ((n : Int) < 1) && !decide (1 < (n : Int))) = decide ((n : Int) = 1) := fun n => by
    by_cases h : (n : Int) = 1
    · simp [h]
    · rw [decide_eq_false h]; by_cases h2 : (n : Int) < 1 <;> simp [h2] <;> omega
  have h2 : ∀ n : Nat, (!decide ((n : Int) < 2) && !decide (2 < (n : Int))) = decide ((n : Int) = 2) := fun n => by
    by_cases h : (n : Int) = 2
    · simp [h]
    · rw [decide_eq_false h]; by_cases h2 : (n : Int) < 2 <;> simp [h2] <;> omega
  have h3 : ∀ n : Nat, (!decide ((n : Int) < 0) && !decide (1 < (n : Int))) = decide ((n : Int) ≤ 1) := fun n => by
    by_cases h : (n : Int) ≤ 1
    · simp [h] <;> omega
    · simp [h] <;> omega
  simp only [shapeS, shapeB, shapeP, simpleS, exprsOk, h1, h2, h3, hz]
  generalize s.e.all exprOk = A
  generalize isName s.s = B
  generalize decide (s.s = (⟨#[]⟩ : ByteArray)) = E
  generalize decide (0 < (s.els.length : Int)) = X
  generalize decide (0 < (s.l.length : Int)) = Y
  generalize decide ((s.e[0]?).map Ex.op = some 7) = Z
  generalize decide ((s.e.length : Int) = 1) = N1
  generalize decide ((s.e.length : Int) = 2) = N2
  generalize decide ((s.e.length : Int) ≤ 1) = N3
  by_cases o1 : s.op = 1
  · simp only [o1, Int.reduceEq, true_or, or_true, false_or, or_false, if_true, if_false, decide_true, decide_false]; revert A B E X Y Z N1 N2 N3; decide
  by_cases o2 : s.op = 2
  · simp only [o2, Int.reduceEq, true_or, or_true, false_or, or_false, if_true, if_false, decide_true, decide_false]; revert A B E X Y Z N1 N2 N3; decide
  by_cases o3 : s.op = 3
  · simp only [o3, Int.reduceEq, true_or, or_true, false_or, or_false, if_true, if_false, decide_true, decide_false]; revert A B E X Y Z N1 N2 N3; decide
  by_cases o4 : s.op = 4
  · simp only [o4, Int.reduceEq, true_or, or_true, false_or, or_false, if_true, if_false, decide_true, decide_false]; revert A B E X Y Z N1 N2 N3; decide
  by_cases o5 : s.op = 5
  · simp only [o5, Int.reduceEq, true_or, or_true, false_or, or_false, if_true, if_false, decide_true, decide_false]; revert A B E X Y Z N1 N2 N3; decide
  by_cases o6 : s.op = 6
  · simp only [o6, Int.reduceEq, true_or, or_true, false_or, or_false, if_true, if_false, decide_true, decide_false]; revert A B E X Y Z N1 N2 N3; decide
  simp only [o1, o2, o3, o4, o5, o6, or_self, if_false, Bool.and_false, Bool.false_and]
theorem astShape_ok (s : Sm) : FnOK Tryz.prog 145 [aggS (stmtC s)] [] (.bq (shapeP s)) [] := by
  refine fn_ok T Tryz.func145 (by kernel_rfl) rfl rfl rfl rfl fun C hC => ?_
  repeat' first | refine g_go T hC true 400 rfl rfl ?_ | refine g_condS rfl (fun h => ?_) (fun h => ?_) | refine g_splitG rfl rfl rfl (fun h => ?_) (fun h => ?_) | refine g_splitP rfl rfl (fun h => ?_) (fun h => ?_) | refine g_call hC (lexName_ok _) rfl rfl (LeSs.refl _) rfl rfl rfl ?_ | refine g_retl T (.inl rfl) rfl ?_ | refine g_retq T (.inl rfl) rfl ?_ | (obtain ⟨x, hx⟩ := exists_at (l := s.e) (i := 0) (by have := of_decide_eq_true h; simp only [List.length_map] at this; omega); refine g_idx T hC rfl rfl rfl (Int.le_refl _) (map_atE0 hx) rfl rfl ?_)
  all_goals (try simp only [List.length_map] at *)
  all_goals (simp_all [shapeP] <;> omega)
end Hw.Pa
namespace Hw.Pa
open Go Go.Proofs Hw.M

mutual
def stB : Sm → Int → Int → Bool × Int
  | .mk op s e l els, d, c => if (decide (0 ≤ c - 1) && (shapeP (.mk op s e l els) && e.all exprOk)) = true then
      (if (if decide (0 < (l.length : Int)) && decide (60 < d + 1) then (false, c - 1) else stQ l (d + 1) (c - 1)).1 = true then
        (if decide (0 < (els.length : Int)) && decide (60 < d + 1) then (false, (if decide (0 < (l.length : Int)) && decide (60 < d + 1) then (false, c - 1) else stQ l (d + 1) (c - 1)).2)
          else stQ els (d + 1) (if decide (0 < (l.length : Int)) && decide (60 < d + 1) then (false, c - 1) else stQ l (d + 1) (c - 1)).2)
        else (false, (if decide (0 < (l.length : Int)) && decide (60 < d + 1) then (false, c - 1) else stQ l (d + 1) (c - 1)).2))
      else (false, c - 1)
def stQ : List Sm → Int → Int → Bool × Int
  | [], _, c => (true, c)
  | x :: r, d, c => if (stB x d c).1 = true then stQ r d (stB x d c).2 else (false, (stB x d c).2)
end
def stP (l : List Sm) (d c : Int) : Bool × Int := if decide (0 < (l.length : Int)) && decide (60 < d) then (false, c) else stQ l d c
theorem stB_eq (s : Sm) (d c : Int) : stB s d c = if (decide (0 ≤ c - 1) && (shapeP s && s.e.all exprOk)) = true then
    (if (stP s.l (d + 1) (c - 1)).1 = true then stP s.els (d + 1) (stP s.l (d + 1) (c - 1)).2 else (false, (stP s.l (d + 1) (c - 1)).2)) else (false, c - 1) := by
  cases s; rfl
theorem bump_ge {n k : Int} (h : 0 ≤ k) : n ≤ bump n k := by
  unfold bump
  by_cases q : n ≤ 200
  · rw [if_pos q]; omega
  · rw [if_neg q]; omega
theorem stN_gt (s : Sm) (d n : Int) (h0 : 0 ≤ n) (h1 : n ≤ 200) : n < stN s d n := by
  rw [stN_eq]
  split
  · omega
  · have a1 := (stL_bound s.l (d + 1) 0 (by omega) (by omega)).1
    have a2 := (stL_bound s.els (d + 1) 0 (by omega) (by omega)).1
    have b1 := bump_ge (n := n + 1) a1
    have b2 := bump_ge (n := bump (n + 1) (stL s.l (d + 1) 0)) a2
    omega
theorem stL_ge : ∀ (l : List Sm) (d n : Int), 0 ≤ n → n ≤ 200 → n ≤ stL l d n
  | [], d, n, _, _ => by simp only [stL]; omega
  | s :: r, d, n, h0, h1 => by
    have h2 := stN_gt s d n h0 h1
    simp only [stL]
    by_cases h3 : 200 < stN s d n
    · rw [if_pos h3]; omega
    · rw [if_neg h3]
      have := stL_ge r d (stN s d n) (by omega) (by omega)
      omega
theorem stL_deep {l : List Sm} {d : Int} (h : 0 < (l.length : Int)) (hd : 60 < d) (n : Int) : stL l d n = 201 := by
  cases l with
  | nil => simp at h
  | cons s r =>
    have : stN s d n = 201 := by rw [stN_eq, if_pos (by simp [hd])]
    simp only [stL, this]; rfl
def Says (r : Bool × Int) (k t : Int) : Prop := r.1 = decide (k ≤ t) ∧ (k ≤ t → r.2 = t - k)
theorem Says.of_le {r : Bool × Int} {k t : Int} (h : k ≤ t) (e : r = (true, t - k)) : Says r k t := by subst e; exact ⟨(decide_eq_true h).symm, fun _ => rfl⟩
theorem Says.of_gt {r : Bool × Int} {k t : Int} (h : t < k) (e : r.1 = false) : Says r k t := ⟨by rw [e]; exact (decide_eq_false (by omega)).symm, fun h' => by omega⟩
theorem Says.le {r : Bool × Int} {k t : Int} (h : Says r k t) (h1 : k ≤ t) : r = (true, t - k) := Prod.ext (h.1.trans (decide_eq_true h1)) (h.2 h1)
theorem Says.gt {r : Bool × Int} {k t : Int} (h : Says r k t) (h1 : t < k) : r.1 = false := h.1.trans (decide_eq_false (by omega))
mutual
theorem stB_count : ∀ (s : Sm) (d c n : Int), 0 ≤ n → 0 ≤ c → n + c ≤ 200 → d ≤ 60 → Says (stB s d c) (stN s d n) (n + c)
  | .mk op s e l els, d, c, n, h0, h1, h2, hd => by
    have hgt := stN_gt (.mk op s e l els) d n h0 (by omega)
    have eB : stB (.mk op s e l els) d c = if (decide (0 ≤ c - 1) && shapeS (.mk op s e l els)) = true then
        (if (stP l (d + 1) (c - 1)).1 = true then stP els (d + 1) (stP l (d + 1) (c - 1)).2 else (false, (stP l (d + 1) (c - 1)).2)) else (false, c - 1) := by
      rw [stB_eq, shapeP_S]; rfl
    rw [eB]
    by_cases hs : shapeS (.mk op s e l els) = true
    · have eN : stN (.mk op s e l els) d n = bump (bump (n + 1) (stL l (d + 1) 0)) (stL els (d + 1) 0) := by
        rw [stN_eq, if_neg (by simp [hs]; omega)]; rfl
      rw [hs, Bool.and_true]
      by_cases hc : 0 ≤ c - 1
      · rw [if_pos (decide_eq_true hc)]
        have a1 := (stL_bound l (d + 1) 0 (by omega) (by omega)).1
        have a2 := (stL_bound els (d + 1) 0 (by omega) (by omega)).1
        have hl := stP_count l (d + 1) (c - 1) (by omega) (by omega)
        by_cases k1 : stL l (d + 1) 0 ≤ c - 1
        · rw [hl.le k1, if_pos rfl]
          have hm := stP_count els (d + 1) (c - 1 - stL l (d + 1) 0) (by omega) (by omega)
          simp only
          have eb : bump (n + 1) (stL l (d + 1) 0) = n + 1 + stL l (d + 1) 0 := if_pos (by omega)
          have eb2 : bump (n + 1 + stL l (d + 1) 0) (stL els (d + 1) 0) = n + 1 + stL l (d + 1) 0 + stL els (d + 1) 0 := if_pos (by omega)
          rw [eN, eb, eb2]
          by_cases k2 : stL els (d + 1) 0 ≤ c - 1 - stL l (d + 1) 0
          · rw [hm.le k2]
            exact .of_le (by omega) (Prod.ext rfl (by simp only; omega))
          · exact .of_gt (by omega) (hm.gt (by omega))
        · have e1 := hl.gt (by omega)
          rw [e1]
          refine .of_gt ?_ rfl
          rw [eN]
          have eb : bump (n + 1) (stL l (d + 1) 0) = n + 1 + stL l (d + 1) 0 := if_pos (by omega)
          rw [eb]
          have := bump_ge (n := n + 1 + stL l (d + 1) 0) a2
          omega
      · rw [if_neg (by simp; omega)]
        exact .of_gt (by omega) rfl
    · have hs' : shapeS (.mk op s e l els) = false := by simpa using hs
      have eN : stN (.mk op s e l els) d n = 201 := by rw [stN_eq, if_pos (by simp [hs'])]
      rw [hs', Bool.and_false, if_neg (by simp), eN]
      exact .of_gt (by omega) rfl
theorem stQ_count : ∀ (l : List Sm) (d c n : Int), 0 ≤ n → 0 ≤ c → n + c ≤ 200 → d ≤ 60 → Says (stQ l d c) (stL l d n) (n + c)
  | [], d, c, n, h0, h1, h2, hd => by
    have e1 : stL [] d n = n := by simp only [stL]
    rw [e1]; exact .of_le (by omega) (by simp only [stQ]; exact Prod.ext rfl (by simp only; omega))
  | x :: r, d, c, n, h0, h1, h2, hd => by
    have hx := stB_count x d c n h0 h1 h2 hd
    have hg := stN_gt x d n h0 (by omega)
    by_cases k : stN x d n ≤ n + c
    · have e1 : stL (x :: r) d n = stL r d (stN x d n) := by simp only [stL]; exact if_neg (by omega)
      have e2 : stQ (x :: r) d c = stQ r d (n + c - stN x d n) := by simp only [stQ]; rw [hx.le k]; rfl
      rw [e1, e2]
      have := stQ_count r d (n + c - stN x d n) (stN x d n) (by omega) (by omega) (by omega) hd
      rw [show stN x d n + (n + c - stN x d n) = n + c by omega] at this
      exact this
    · have e2 : (stQ (x :: r) d c).1 = false := by simp only [stQ]; rw [hx.gt (by omega)]; rfl
      refine .of_gt ?_ e2
      simp only [stL]
      by_cases h3 : 200 < stN x d n
      · rw [if_pos h3]; omega
      · rw [if_neg h3]
        have := stL_ge r d (stN x d n) (by omega) (by omega)
        omega
theorem stP_count : ∀ (l : List Sm) (d c : Int), 0 ≤ c → c ≤ 200 → Says (stP l d c) (stL l d 0) c
  | l, d, c, h0, h1 => by
    unfold stP
    by_cases hd : 60 < d
    · by_cases hl : 0 < (l.length : Int)
      · rw [if_pos (by simp [hl, hd]; omega), stL_deep hl hd]
        exact .of_gt (by omega) rfl
      · have : l = [] := List.eq_nil_of_length_eq_zero (by omega)
        subst this
        rw [if_neg (by simp)]
        exact .of_le (by simp only [stL]; omega) (by simp only [stQ, stL]; exact Prod.ext rfl (by simp only; omega))
    · rw [if_neg (by simp [hd])]
      have := stQ_count l d c 0 (by omega) h0 (by omega) (by omega)
      rw [Int.zero_add] at this
      exact this
end
end Hw.Pa
namespace Hw.Pa
open Go Go.Proofs Hw.M

mutual
theorem stB_bound : ∀ (s : Sm) (d c : Int), 0 ≤ c → -1 ≤ (stB s d c).2 ∧ (stB s d c).2 ≤ c ∧ ((stB s d c).1 = true → 0 ≤ (stB s d c).2)
  | .mk op s e l els, d, c, h => by
    have eB : stB (.mk op s e l els) d c = if (decide (0 ≤ c - 1) && (shapeP (.mk op s e l els) && e.all exprOk)) = true then
        (if (stP l (d + 1) (c - 1)).1 = true then stP els (d + 1) (stP l (d + 1) (c - 1)).2 else (false, (stP l (d + 1) (c - 1)).2)) else (false, c - 1) := rfl
    rw [eB]
    by_cases hc : (decide (0 ≤ c - 1) && (shapeP (.mk op s e l els) && e.all exprOk)) = true
    · rw [if_pos hc]
      have h0 : 0 ≤ c - 1 := by simp only [Bool.and_eq_true, decide_eq_true_eq] at hc; exact hc.1
      have h1 := stP_bound l (d + 1) (c - 1) h0
      by_cases h2 : (stP l (d + 1) (c - 1)).1 = true
      · rw [if_pos h2]
        have h3 := stP_bound els (d + 1) _ (h1.2.2 h2)
        exact ⟨h3.1, by omega, h3.2.2⟩
      · rw [if_neg h2]; exact ⟨h1.1, by simp only; omega, fun e => by cases e⟩
    · rw [if_neg hc]; exact ⟨by simp only; omega, by simp only; omega, fun e => by cases e⟩
theorem stQ_bound : ∀ (l : List Sm) (d c : Int), 0 ≤ c → -1 ≤ (stQ l d c).2 ∧ (stQ l d c).2 ≤ c ∧ ((stQ l d c).1 = true → 0 ≤ (stQ l d c).2)
  | [], d, c, h => by simp only [stQ]; exact ⟨by omega, by omega, fun _ => h⟩
  | x :: r, d, c, h => by
    have h1 := stB_bound x d c h
    simp only [stQ]
    by_cases h2 : (stB x d c).1 = true
    · rw [if_pos h2]
      have h3 := stQ_bound r d _ (h1.2.2 h2)
      exact ⟨h3.1, by omega, h3.2.2⟩
    · rw [if_neg h2]; exact ⟨h1.1, h1.2.1, fun e => by cases e⟩
theorem stP_bound : ∀ (l : List Sm) (d c : Int), 0 ≤ c → -1 ≤ (stP l d c).2 ∧ (stP l d c).2 ≤ c ∧ ((stP l d c).1 = true → 0 ≤ (stP l d c).2)
  | l, d, c, h => by
    unfold stP
    by_cases h2 : (decide (0 < (l.length : Int)) && decide (60 < d)) = true
    · rw [if_pos h2]; exact ⟨by simp only; omega, by simp only; omega, fun e => by cases e⟩
    · rw [if_neg h2]; exact stQ_bound l d c h
end
theorem stmts1_ok (x : Ex) : FnOK Tryz.prog 146 [aggS (exprC x)] [] (.bq (!exprOk x)) [] := by
  refine fn_ok T Tryz.func146 (by kernel_rfl) rfl rfl rfl rfl fun C hC => ?_
  repeat' first | refine g_go T hC true 400 rfl rfl ?_ | refine g_cond rfl (fun h => ?_) (fun h => ?_) | refine g_call hC (validExpr_ok _) rfl rfl (LeSs.refl _) rfl rfl rfl ?_ | refine g_retq T (.inl rfl) rfl ?_
  rfl
theorem any_not (l : List Ex) : (l.any fun x => !exprOk x) = !l.all exprOk := by
  induction l with
  | nil => rfl
  | cons a l ih => simp only [List.any_cons, List.all_cons, ih, Bool.not_and]
set_option maxHeartbeats 1000000 in
theorem astStmts_ok : ∀ (N : Nat) (l : List Sm) (d c : Int), sizeOf l < N → 0 ≤ d → d ≤ 61 → 0 ≤ c → c ≤ 200 → FnOK Tryz.prog 109 [pS (stmtsP l), I d, .one (.bx 0 0)] [(0, .box [.p (ki c)])] (.bq (stP l d c).1) [(0, .box [.p (ki (stP l d c).2)])] := by
  intro N
  induction N with
  | zero => intro l d c h; omega
  | succ N ih =>
    intro l d c hN hd1 hd2 hc1 hc2
    refine fn_ok T Tryz.func109 (by kernel_rfl) rfl rfl rfl rfl fun C hC => ?_
    refine g_len 0 rfl fun hlen => ?_
    rw [List.length_map] at hlen
    repeat' first | refine g_go T hC true 400 rfl rfl ?_ | refine g_cond rfl (fun h => ?_) (fun h => ?_) | refine g_splitG rfl rfl rfl (fun h => ?_) (fun h => ?_) | refine g_splitP rfl rfl (fun h => ?_) (fun h => ?_)
    all_goals (try simp only [List.length_map] at *)
    · have e : stP l d c = (false, c) := by unfold stP; rw [if_pos (by simp_all)]
      rw [e]
      exact g_fin ⟨.inl rfl, id, _, rfl, .qb rfl, ⟨rfl, trivial⟩, rfl, rfl⟩
    all_goals
      have hlow : l = [] ∨ d ≤ 60 := by
        by_cases hz : d ≤ 60
        · exact .inr hz
        · left
          have : ¬ 0 < (l.length : Int) := fun h0 => by simp_all <;> omega
          exact List.eq_nil_of_length_eq_zero (by omega)
      have e : stP l d c = stQ l d c := by
        unfold stP
        rcases hlow with rfl | hlow
        · rw [if_neg (by simp)]
        · rw [if_neg (by simp; omega)]
      rw [e]
      clear e h
      generalize hR : stQ l d c = RES
      refine g_loop (fun q : Nat × Int => q.1 ≤ l.length ∧ 0 ≤ q.2 ∧ q.2 ≤ 200 ∧ stQ (l.drop q.1) d q.2 = RES) (fun q => ([(1, I d), (2, .one (.bx 0 0)), (16, pS (stmtsP l)), (17, I l.length), (18, I q.1)], [(0, some (.box [.p (ki q.2)]))])) (fun q => l.length - q.1) hC
        (0, c) ⟨Nat.zero_le _, hc1, hc2, hR⟩ id ⟨rfl, ⟨rfl, rfl, rfl, rfl, rfl, trivial⟩, ⟨rfl, trivial⟩, rfl, fun _ _ => rfl⟩ ?_
      clear hR
      rintro ⟨i, q⟩ ⟨hi, hq1, hq2, hn⟩
      simp only at hi hq1 hq2 hn
      refine g_run' T hC true 200 rfl ?_
      refine g_cond rfl (fun h => ?_) (fun h => ?_)
      rotate_left
      · have hge : ¬ i < l.length := by simpa using h
        rw [List.drop_eq_nil_of_le (by omega)] at hn
        simp only [stQ] at hn
        subst hn
        repeat' first | refine g_go T hC true 400 rfl rfl ?_ | refine g_cond rfl (fun h => ?_) (fun h => ?_) | refine g_splitG rfl rfl rfl (fun h => ?_) (fun h => ?_) | refine g_splitP rfl rfl (fun h => ?_) (fun h => ?_) | refine g_outE ?_
        exact g_fin ⟨.inl rfl, id, _, rfl, .qb rfl, ⟨rfl, trivial⟩, rfl, rfl⟩
      have hlt : i < l.length := by simpa using h
      clear h
      have hd : d ≤ 60 := by
        rcases hlow with rfl | hlow
        · simp at hlt
        · exact hlow
      obtain ⟨x, hx⟩ := exists_at hlt
      have hsz := size_at hx
      have hss := size_sub x
      have hbs := stB_bound x d q hq1
      rw [drop_at hx] at hn
      simp only [stQ] at hn
      have no : ∀ r : Bool × Int, r.1 = false → stB x d q = r → r = RES := fun r h1 h2 => by
        rw [h2, if_neg (by rw [h1]; simp)] at hn
        rw [← hn]; exact Prod.ext h1 rfl
      have eB := stB_eq x d q
      have w1 : IntKind.i64.wrap (d + 1) = d + 1 := wrap64 (by omega)
      have hA := exprN_any 146 x.e (fun y => !exprOk y) (fun y _ => stmts1_ok y)
      rw [any_not] at hA
      have b1 := fun h0 => stP_bound x.l (d + 1) (q - 1) h0
      have nn : (!decide (0 ≤ q - 1)) = false → 0 ≤ q - 1 := fun h => by simpa using h
      have k1 := fun (h0 : (!decide (0 ≤ q - 1)) = false) => ih x.l (d + 1) (q - 1) (by omega) (by omega) (by omega) (nn h0) (by omega)
      have k2 := fun (h0 : (!decide (0 ≤ q - 1)) = false) (h1 : (!(stP x.l (d + 1) (q - 1)).1) = false) => ih x.els (d + 1) (stP x.l (d + 1) (q - 1)).2 (by omega) (by omega) (by omega) ((b1 (nn h0)).2.2 (by simpa using h1)) (by have := (b1 (nn h0)).2.1; omega)
      clear ih hsz hss
      generalize hr1 : stP x.l (d + 1) (q - 1) = r1 at *
      generalize hr2 : stP x.els (d + 1) r1.2 = r2 at *
      generalize hsb : stB x d q = sb at *
      repeat' first | refine g_go T hC true 400 rfl rfl ?_ | refine g_cond rfl (fun h => ?_) (fun h => ?_) | refine g_splitG rfl rfl rfl (fun h => ?_) (fun h => ?_) | refine g_splitP rfl rfl (fun h => ?_) (fun h => ?_) | refine g_idx T hC rfl rfl rfl (Int.natCast_nonneg _) (map_atS (by assumption)) rfl rfl ?_ | refine g_callR hC (take_ok q (by omega) (by omega)) (nm [0]) rfl rfl (LeSs.refl _) rfl rfl rfl rfl rfl rfl rfl rfl ?_ | refine g_call hC (astShape_ok _) rfl rfl (LeSs.refl _) rfl rfl rfl ?_ | refine g_call hC (hA) rfl rfl (LeSs.refl _) rfl rfl rfl ?_ | rw [w1] | refine g_callR hC (k1 (by assumption)) (nm [0]) rfl rfl (LeSs.refl _) rfl rfl rfl rfl rfl rfl rfl rfl ?_ | refine g_callR hC (k2 (by assumption) (by assumption)) (nm [0]) rfl rfl (LeSs.refl _) rfl rfl rfl rfl rfl rfl rfl rfl ?_ | refine g_outR ?_
      all_goals clear k1 k2 hA w1 hx hr1 hr2 hsb b1 nn
      all_goals first
        | (have e : sb = (false, q - 1) := by clear hn no hbs hlow; rw [eB]; clear eB; exact if_neg (fun hcc => by simp only [Bool.and_eq_true, decide_eq_true_eq] at hcc; obtain ⟨hk1, hk2, hk3⟩ := hcc; simp_all [-List.all_eq_true, -List.all_eq_false] <;> omega)
           have e2 := no _ rfl e
           subst e2
           exact g_fin ⟨.inl rfl, id, _, rfl, .qb rfl, ⟨rfl, trivial⟩, rfl, rfl⟩)
        | (have e : sb = (false, r1.2) := by clear hn no hbs hlow; rw [eB]; clear eB; rw [if_pos (by simp_all [-List.all_eq_true, -List.all_eq_false]), if_neg (by simp_all [-List.all_eq_true, -List.all_eq_false])]
           have e2 := no _ rfl e
           subst e2
           exact g_fin ⟨.inl rfl, id, _, rfl, .qb rfl, ⟨rfl, trivial⟩, rfl, rfl⟩)
        | (have e : sb = r2 := by clear hn no hbs hlow; rw [eB]; clear eB; rw [if_pos (by simp_all [-List.all_eq_true, -List.all_eq_false]), if_pos (by simp_all [-List.all_eq_true, -List.all_eq_false])]
           have h2 : r2.1 = false := by simpa using h
           have e2 := no _ h2 e
           have e3 : RES = (false, r2.2) := by rw [← e2]; exact Prod.ext h2 rfl
           subst e3
           exact g_fin ⟨.inl rfl, id, _, rfl, .qb rfl, ⟨rfl, trivial⟩, rfl, rfl⟩)
        | (have e : sb = r2 := by clear hn no hbs hlow; rw [eB]; clear eB; rw [if_pos (by simp_all [-List.all_eq_true, -List.all_eq_false]), if_pos (by simp_all [-List.all_eq_true, -List.all_eq_false])]
           have h2 : r2.1 = true := by simpa using h
           rw [e, if_pos h2] at hn
           rw [e] at hbs
           rw [wrapS (by omega)]
           exact g_round (i + 1, r2.2) ⟨by simp only; omega, hbs.2.2 h2, by simp only; omega, hn⟩ id (by simp only; omega) ⟨rfl, ⟨rfl, rfl, rfl, rfl, rfl, trivial⟩, ⟨rfl, trivial⟩, rfl, fun _ _ => rfl⟩)
end Hw.Pa
namespace Hw.Pa
open Go Go.Proofs Hw.M

theorem astTyp_ok (s : Str) : FnOK Tryz.prog 104 [Sr s] [] (.bq (isType s)) [] := by
  refine fn_ok T Tryz.func104 (by kernel_rfl) rfl rfl rfl rfl fun C hC => ?_
  repeat' first | refine g_go T hC true 400 rfl rfl ?_ | refine g_cond rfl (fun h => ?_) (fun h => ?_) | refine g_splitG rfl rfl rfl (fun h => ?_) (fun h => ?_) | refine g_splitP rfl rfl (fun h => ?_) (fun h => ?_) | refine g_call hC (lexName_ok _) rfl rfl (LeSs.refl _) rfl rfl rfl ?_ | refine g_retq T (.inl rfl) rfl ?_ | refine g_retl T (.inl rfl) rfl ?_
  all_goals simp_all [isType]
theorem astOpen_ok (s : Str) : FnOK Tryz.prog 105 [Sr s] [] (.bq (isOpen s)) [] := by
  refine fn_ok T Tryz.func105 (by kernel_rfl) rfl rfl rfl rfl fun C hC => ?_
  repeat' first | refine g_go T hC true 400 rfl rfl ?_ | refine g_cond rfl (fun h => ?_) (fun h => ?_) | refine g_splitG rfl rfl rfl (fun h => ?_) (fun h => ?_) | refine g_splitP rfl rfl (fun h => ?_) (fun h => ?_) | refine g_call hC (lexName_ok _) rfl rfl (LeSs.refl _) rfl rfl rfl ?_ | refine g_retq T (.inl rfl) rfl ?_ | refine g_retl T (.inl rfl) rfl ?_
  all_goals simp_all [isOpen]
theorem fields1_ok (f : Fld) : FnOK Tryz.prog 103 [aggS (fieldR f)] [] (.bq (!fieldOk f)) [] := by
  refine fn_ok T Tryz.func103 (by kernel_rfl) rfl rfl rfl rfl fun C hC => ?_
  repeat' first | refine g_go T hC true 400 rfl rfl ?_ | refine g_cond rfl (fun h => ?_) (fun h => ?_) | refine g_splitG rfl rfl rfl (fun h => ?_) (fun h => ?_) | refine g_splitP rfl rfl (fun h => ?_) (fun h => ?_) | refine g_call hC (lexName_ok _) rfl rfl (LeSs.refl _) rfl rfl rfl ?_ | refine g_call hC (astTyp_ok _) rfl rfl (LeSs.refl _) rfl rfl rfl ?_ | refine g_retq T (.inl rfl) rfl ?_ | refine g_retl T (.inl rfl) rfl ?_
  all_goals simp_all [fieldOk]
theorem any_notP {α : Type} (p : α → Bool) (l : List α) : (l.any fun x => !p x) = !l.all p := by
  induction l with
  | nil => rfl
  | cons a l ih => simp only [List.any_cons, List.all_cons, ih, Bool.not_and]
theorem astFields_ok (l : List Fld) (m : Int) : FnOK Tryz.prog 70 [pS (fieldsP l), I m] [] (.bq (fieldsOk l m)) [] := by
  have hA := fieldN_any 103 l (fun y => !fieldOk y) (fun y _ => fields1_ok y)
  rw [any_notP] at hA
  refine fn_ok T Tryz.func70 (by kernel_rfl) rfl rfl rfl rfl fun C hC => ?_
  repeat' first | refine g_go T hC true 400 rfl rfl ?_ | refine g_cond rfl (fun h => ?_) (fun h => ?_) | refine g_splitG rfl rfl rfl (fun h => ?_) (fun h => ?_) | refine g_splitP rfl rfl (fun h => ?_) (fun h => ?_) | refine g_call hC (hA) rfl rfl (LeSs.refl _) rfl rfl rfl ?_ | refine g_retq T (.inl rfl) rfl ?_ | refine g_retl T (.inl rfl) rfl ?_
  all_goals (try simp only [List.length_map] at *)
  all_goals (simp_all [fieldsOk, -List.all_eq_true, -List.all_eq_false] <;> (intros; omega))
theorem astProcedure_ok (p : Pr) : FnOK Tryz.prog 75 [aggS (procR p)] [] (.bq (procOk p)) [] := by
  have hc := stP_count p.body 1 200 (by omega) (by omega)
  refine fn_ok T Tryz.func75 (by kernel_rfl) rfl rfl rfl rfl fun C hC => ?_
  repeat' first | refine g_go T hC true 400 rfl rfl ?_ | refine g_cond rfl (fun h => ?_) (fun h => ?_) | refine g_splitG rfl rfl rfl (fun h => ?_) (fun h => ?_) | refine g_splitP rfl rfl (fun h => ?_) (fun h => ?_) | refine g_call hC (lexName_ok _) rfl rfl (LeSs.refl _) rfl rfl rfl ?_ | refine g_call hC (astFields_ok _ _) rfl rfl (LeSs.refl _) rfl rfl rfl ?_ | refine g_call hC (astTyp_ok _) rfl rfl (LeSs.refl _) rfl rfl rfl ?_ | refine g_callR hC (astStmts_ok (sizeOf p.body + 1) p.body 1 200 (by omega) (by omega) (by omega) (by omega) (by omega)) (nm [1030]) rfl rfl (LeSs.refl _) rfl rfl rfl rfl rfl rfl rfl rfl ?_ | refine g_retl T (.inl rfl) rfl ?_ | refine g_retq T (.inl rfl) rfl ?_
  all_goals (have hc1 := hc.1; clear hc; simp_all [procOk])
theorem formulas1_ok (b : Bd) : FnOK Tryz.prog 107 [aggS (boundR b)] [] (.bq (!boundOk b)) [] := by
  refine fn_ok T Tryz.func107 (by kernel_rfl) rfl rfl rfl rfl fun C hC => ?_
  repeat' first | refine g_go T hC true 400 rfl rfl ?_ | refine g_cond rfl (fun h => ?_) (fun h => ?_) | refine g_splitG rfl rfl rfl (fun h => ?_) (fun h => ?_) | refine g_splitP rfl rfl (fun h => ?_) (fun h => ?_) | refine g_call hC (lexName_ok _) rfl rfl (LeSs.refl _) rfl rfl rfl ?_ | refine g_call hC (validExpr_ok b.x) rfl rfl (LeSs.refl _) rfl rfl rfl ?_ | refine g_retq T (.inl rfl) rfl ?_ | refine g_retl T (.inl rfl) rfl ?_
  all_goals simp_all [boundOk]
theorem maxI_gt (a b t : Int) : decide (t < maxI a b) = (decide (t < a) || decide (t < b)) := by
  unfold maxI
  by_cases h : b > a
  · rw [if_pos h]; by_cases h2 : t < b <;> simp [h2]; omega
  · rw [if_neg h]; by_cases h2 : t < a <;> simp [h2]; omega
def sizesOk (d : Desc) : Bool := !decide (12 < (d.measures.length : Int)) && !decide (12 < (d.invs.length : Int)) && !decide (12 < (d.pots.length : Int)) && !decide (12 < (d.bounds.length : Int))
theorem sizes_eq (d : Desc) : decide (12 < maxI (maxI (maxI (d.measures.length : Int) (d.invs.length : Int)) (d.pots.length : Int)) (d.bounds.length : Int)) = !sizesOk d := by
  rw [maxI_gt, maxI_gt, maxI_gt]
  simp only [sizesOk, Bool.not_and, Bool.not_not]
theorem astFormulas_ok (d : Desc) : FnOK Tryz.prog 71 [aggS (descR d)] [] (.bq (sizesOk d && formulasOk d)) [] := by
  have hA := boundN_any 107 d.bounds (fun y => !boundOk y) (fun y _ => formulas1_ok y)
  rw [any_notP] at hA
  refine fn_ok T Tryz.func71 (by kernel_rfl) rfl rfl rfl rfl fun C hC => ?_
  repeat' first | refine g_go T hC true 400 rfl rfl ?_ | refine g_cond rfl (fun h => ?_) (fun h => ?_) | refine g_splitG rfl rfl rfl (fun h => ?_) (fun h => ?_) | refine g_splitP rfl rfl (fun h => ?_) (fun h => ?_) | refine g_max4 hC rfl rfl rfl rfl rfl rfl ?_ | refine g_retl T (.inl rfl) rfl ?_
  · simp only [List.length_map] at h
    rw [sizes_eq] at h
    have : sizesOk d = false := by simpa using h
    rw [this]; rfl
  · simp only [List.length_map] at h
    rw [sizes_eq] at h
    have hsz : sizesOk d = true := by simpa using h
    rw [hsz, Bool.true_and]
    simp only [sizesOk, Bool.and_eq_true, Bool.not_eq_true', decide_eq_false_iff_not] at hsz
    obtain ⟨⟨⟨hl1, hl2⟩, hl3⟩, hl4⟩ := hsz
    clear h
    rw [List.length_map]
    refine g_loop (fun i : Nat => i ≤ (d.measures).length ∧ ((d.measures).take i).all (measOk) = true) (fun i => ([(1, .one (.bx 1001 0)), (24, .one (.p (.sl 7 (d.measures.map measureR)))), (25, I d.measures.length), (26, I i)], [(1001, some (.box ((descR d).map V.p)))])) (fun i => (d.measures).length - i) hC
      0 ⟨Nat.zero_le _, by simp⟩ id ⟨rfl, ⟨rfl, rfl, rfl, rfl, trivial⟩, ⟨rfl, trivial⟩, rfl, fun _ _ => rfl⟩ ?_
    rintro i ⟨hi, hn⟩
    refine g_run' T hC true 200 rfl ?_
    refine g_cond rfl (fun h => ?_) (fun h => ?_)
    · have hlt : i < (d.measures).length := by first | simpa using h | (have h' := of_decide_eq_true h; simp only [List.length_map, List.length_zip] at h' ⊢; omega)
      clear h
      obtain ⟨x, hx⟩ := exists_at hlt
      repeat' first | refine g_go T hC true 400 rfl rfl ?_ | refine g_cond rfl (fun h => ?_) (fun h => ?_) | refine g_splitG rfl rfl rfl (fun h => ?_) (fun h => ?_) | refine g_splitP rfl rfl (fun h => ?_) (fun h => ?_) | refine g_idx T hC rfl rfl rfl (Int.natCast_nonneg _) (map_at (by assumption)) rfl rfl ?_ | refine g_call hC (lexName_ok _) rfl rfl (LeSs.refl _) rfl rfl rfl ?_ | refine g_call hC (validExpr_ok x.x) rfl rfl (LeSs.refl _) rfl rfl rfl ?_ | refine g_outR ?_ | refine g_retl T (.inl rfl) rfl ?_
      all_goals first
        | (have hp : (measOk) x = true := by clear hn hx hlt hi; simp_all [measOk, -List.all_eq_true, -List.all_eq_false] <;> omega
           have hlt' := hlt
           try simp only [List.length_zip, List.length_zipIdx] at hlt'
           rw [wrap64 (by omega)]
           refine g_round (i + 1) ⟨by omega, ?_⟩ id (by omega) ⟨rfl, ⟨rfl, rfl, rfl, rfl, trivial⟩, ⟨rfl, trivial⟩, rfl, fun _ _ => rfl⟩
           rw [all_take (p := measOk) hx, hn, Bool.true_and]; exact hp)
        | (have hp : (measOk) x = false := by clear hn hx hlt hi; simp_all [measOk, -List.all_eq_true, -List.all_eq_false] <;> omega
           have hno := all_no (p := measOk) hx hp
           simp only [formulasOk, hno, Bool.false_and])
    have hge : ¬ i < (d.measures).length := by first | simpa using h | (have h' := of_decide_eq_false h; simp only [List.length_map, List.length_zip] at h' ⊢; omega)
    have hall : (d.measures).all (measOk) = true := all_end (p := measOk) (by omega) hn
    clear h hge hn hi
    repeat' first | refine g_go T hC true 400 rfl rfl ?_ | refine g_cond rfl (fun h => ?_) (fun h => ?_) | refine g_splitG rfl rfl rfl (fun h => ?_) (fun h => ?_) | refine g_splitP rfl rfl (fun h => ?_) (fun h => ?_) | refine g_outE ?_
    rw [List.length_map]
    refine g_loop (fun i : Nat => i ≤ (d.invs).length ∧ ((d.invs).take i).all (invOk) = true) (fun i => ([(1, .one (.bx 1001 0)), (58, .one (.p (.sl 6 (d.invs.map invR)))), (59, I d.invs.length), (60, I i)], [(1001, some (.box ((descR d).map V.p)))])) (fun i => (d.invs).length - i) hC
      0 ⟨Nat.zero_le _, by simp⟩ id ⟨rfl, ⟨rfl, rfl, rfl, rfl, trivial⟩, ⟨rfl, trivial⟩, rfl, fun _ _ => rfl⟩ ?_
    rintro i ⟨hi, hn⟩
    refine g_run' T hC true 200 rfl ?_
    refine g_cond rfl (fun h => ?_) (fun h => ?_)
    · have hlt : i < (d.invs).length := by first | simpa using h | (have h' := of_decide_eq_true h; simp only [List.length_map, List.length_zip] at h' ⊢; omega)
      clear h
      obtain ⟨x, hx⟩ := exists_at hlt
      repeat' first | refine g_go T hC true 400 rfl rfl ?_ | refine g_cond rfl (fun h => ?_) (fun h => ?_) | refine g_splitG rfl rfl rfl (fun h => ?_) (fun h => ?_) | refine g_splitP rfl rfl (fun h => ?_) (fun h => ?_) | refine g_idx T hC rfl rfl rfl (Int.natCast_nonneg _) (map_at (by assumption)) rfl rfl ?_ | refine g_call hC (lexName_ok _) rfl rfl (LeSs.refl _) rfl rfl rfl ?_ | refine g_call hC (astOpen_ok _) rfl rfl (LeSs.refl _) rfl rfl rfl ?_ | refine g_call hC (validExpr_ok x.x) rfl rfl (LeSs.refl _) rfl rfl rfl ?_ | refine g_outR ?_ | refine g_retl T (.inl rfl) rfl ?_
      all_goals first
        | (have hp : (invOk) x = true := by clear hn hx hlt hi; simp_all [invOk, -List.all_eq_true, -List.all_eq_false] <;> omega
           have hlt' := hlt
           try simp only [List.length_zip, List.length_zipIdx] at hlt'
           rw [wrap64 (by omega)]
           refine g_round (i + 1) ⟨by omega, ?_⟩ id (by omega) ⟨rfl, ⟨rfl, rfl, rfl, rfl, trivial⟩, ⟨rfl, trivial⟩, rfl, fun _ _ => rfl⟩
           rw [all_take (p := invOk) hx, hn, Bool.true_and]; exact hp)
        | (have hp : (invOk) x = false := by clear hn hx hlt hi; simp_all [invOk, -List.all_eq_true, -List.all_eq_false] <;> omega
           have hno := all_no (p := invOk) hx hp
           simp only [formulasOk, hno, Bool.false_and, Bool.and_false])
    have hge : ¬ i < (d.invs).length := by first | simpa using h | (have h' := of_decide_eq_false h; simp only [List.length_map, List.length_zip] at h' ⊢; omega)
    have hall : (d.invs).all (invOk) = true := all_end (p := invOk) (by omega) hn
    clear h hge hn hi
    rename_i hall1
    repeat' first | refine g_go T hC true 400 rfl rfl ?_ | refine g_cond rfl (fun h => ?_) (fun h => ?_) | refine g_splitG rfl rfl rfl (fun h => ?_) (fun h => ?_) | refine g_splitP rfl rfl (fun h => ?_) (fun h => ?_) | refine g_outE ?_
    rw [List.length_map]
    refine g_loop (fun i : Nat => i ≤ (d.pots).length ∧ ((d.pots).take i).all (potOk) = true) (fun i => ([(1, .one (.bx 1001 0)), (82, .one (.p (.sl 5 (d.pots.map potR)))), (83, I d.pots.length), (84, I i)], [(1001, some (.box ((descR d).map V.p)))])) (fun i => (d.pots).length - i) hC
      0 ⟨Nat.zero_le _, by simp⟩ id ⟨rfl, ⟨rfl, rfl, rfl, rfl, trivial⟩, ⟨rfl, trivial⟩, rfl, fun _ _ => rfl⟩ ?_
    rintro i ⟨hi, hn⟩
    refine g_run' T hC true 200 rfl ?_
    refine g_cond rfl (fun h => ?_) (fun h => ?_)
    · have hlt : i < (d.pots).length := by first | simpa using h | (have h' := of_decide_eq_true h; simp only [List.length_map, List.length_zip] at h' ⊢; omega)
      clear h
      obtain ⟨x, hx⟩ := exists_at hlt
      repeat' first | refine g_go T hC true 400 rfl rfl ?_ | refine g_cond rfl (fun h => ?_) (fun h => ?_) | refine g_splitG rfl rfl rfl (fun h => ?_) (fun h => ?_) | refine g_splitP rfl rfl (fun h => ?_) (fun h => ?_) | refine g_idx T hC rfl rfl rfl (Int.natCast_nonneg _) (map_at (by assumption)) rfl rfl ?_ | refine g_call hC (astOpen_ok _) rfl rfl (LeSs.refl _) rfl rfl rfl ?_ | refine g_call hC (validExpr_ok x.x) rfl rfl (LeSs.refl _) rfl rfl rfl ?_ | refine g_outR ?_ | refine g_retl T (.inl rfl) rfl ?_
      all_goals first
        | (have hp : (potOk) x = true := by clear hn hx hlt hi; simp_all [potOk, -List.all_eq_true, -List.all_eq_false] <;> omega
           have hlt' := hlt
           try simp only [List.length_zip, List.length_zipIdx] at hlt'
           rw [wrap64 (by omega)]
           refine g_round (i + 1) ⟨by omega, ?_⟩ id (by omega) ⟨rfl, ⟨rfl, rfl, rfl, rfl, trivial⟩, ⟨rfl, trivial⟩, rfl, fun _ _ => rfl⟩
           rw [all_take (p := potOk) hx, hn, Bool.true_and]; exact hp)
        | (have hp : (potOk) x = false := by clear hn hx hlt hi; simp_all [potOk, -List.all_eq_true, -List.all_eq_false] <;> omega
           have hno := all_no (p := potOk) hx hp
           simp only [formulasOk, hno, Bool.false_and, Bool.and_false])
    have hge : ¬ i < (d.pots).length := by first | simpa using h | (have h' := of_decide_eq_false h; simp only [List.length_map, List.length_zip] at h' ⊢; omega)
    have hall : (d.pots).all (potOk) = true := all_end (p := potOk) (by omega) hn
    clear h hge hn hi
    rename_i hall2
    repeat' first | refine g_go T hC true 400 rfl rfl ?_ | refine g_cond rfl (fun h => ?_) (fun h => ?_) | refine g_splitG rfl rfl rfl (fun h => ?_) (fun h => ?_) | refine g_splitP rfl rfl (fun h => ?_) (fun h => ?_) | refine g_outE ?_ | refine g_call hC (hA) rfl rfl (LeSs.refl _) rfl rfl rfl ?_ | refine g_retq T (.inl rfl) rfl ?_
    simp only [formulasOk, hall, hall1, hall2, Bool.true_and, Bool.not_not]
theorem valid1_ok (t : NodeT) : FnOK Tryz.prog 72 [aggS (nodeTR t)] [] (.bq (!typeOk t)) [] := by
  refine fn_ok T Tryz.func72 (by kernel_rfl) rfl rfl rfl rfl fun C hC => ?_
  repeat' first | refine g_go T hC true 400 rfl rfl ?_ | refine g_cond rfl (fun h => ?_) (fun h => ?_) | refine g_splitG rfl rfl rfl (fun h => ?_) (fun h => ?_) | refine g_splitP rfl rfl (fun h => ?_) (fun h => ?_) | refine g_call hC (lexName_ok _) rfl rfl (LeSs.refl _) rfl rfl rfl ?_ | refine g_call hC (astFields_ok _ _) rfl rfl (LeSs.refl _) rfl rfl rfl ?_ | refine g_retq T (.inl rfl) rfl ?_ | refine g_retl T (.inl rfl) rfl ?_
  all_goals simp_all [typeOk]
theorem valid2_ok (p : Pr) : FnOK Tryz.prog 74 [aggS (procR p)] [] (.bq (!procOk p)) [] := by
  refine fn_ok T Tryz.func74 (by kernel_rfl) rfl rfl rfl rfl fun C hC => ?_
  repeat' first | refine g_go T hC true 400 rfl rfl ?_ | refine g_cond rfl (fun h => ?_) (fun h => ?_) | refine g_call hC (astProcedure_ok p) rfl rfl (LeSs.refl _) rfl rfl rfl ?_ | refine g_retq T (.inl rfl) rfl ?_
  rfl
theorem astValid_ok (d : Desc) : FnOK Tryz.prog 30 [aggS (descR d)] [] (.bq (validD d)) [] := by
  have hA := typeN_any 72 d.types (fun y => !typeOk y) (fun y _ => valid1_ok y)
  rw [any_notP] at hA
  have hB := procN_any 74 d.procs (fun y => !procOk y) (fun y _ => valid2_ok y)
  rw [any_notP] at hB
  have hv : validD d = (isName d.n && !decide (12 < (d.types.length : Int)) && fieldsOk d.globals 8 && !decide (40 < (d.procs.length : Int)) && (sizesOk d && formulasOk d) && d.types.all typeOk && d.procs.all procOk) := by
    simp only [validD, validPre, sizesOk]
    generalize isName d.n = a1
    generalize decide (12 < (d.types.length : Int)) = a2
    generalize fieldsOk d.globals 8 = a3
    generalize decide (40 < (d.procs.length : Int)) = a4
    generalize formulasOk d = a5
    generalize d.types.all typeOk = a6
    generalize d.procs.all procOk = a7
    generalize decide (12 < (d.measures.length : Int)) = a8
    generalize decide (12 < (d.invs.length : Int)) = a9
    generalize decide (12 < (d.pots.length : Int)) = a10
    generalize decide (12 < (d.bounds.length : Int)) = a11
    cases a1 <;> cases a3 <;> cases a5 <;> cases a6 <;> cases a7 <;> simp [Bool.and_assoc]
  rw [hv]
  refine fn_ok T Tryz.func30 (by kernel_rfl) rfl rfl rfl rfl fun C hC => ?_
  repeat' first | refine g_go T hC true 400 rfl rfl ?_ | refine g_cond rfl (fun h => ?_) (fun h => ?_) | refine g_splitG rfl rfl rfl (fun h => ?_) (fun h => ?_) | refine g_splitP rfl rfl (fun h => ?_) (fun h => ?_) | refine g_call hC (lexName_ok _) rfl rfl (LeSs.refl _) rfl rfl rfl ?_ | refine g_call hC (astFields_ok _ _) rfl rfl (LeSs.refl _) rfl rfl rfl ?_ | refine g_call hC (astFormulas_ok _) rfl rfl (LeSs.refl _) rfl rfl rfl ?_ | refine g_call hC (hA) rfl rfl (LeSs.refl _) rfl rfl rfl ?_ | refine g_call hC (hB) rfl rfl (LeSs.refl _) rfl rfl rfl ?_ | refine g_retq T (.inl rfl) rfl ?_ | refine g_retl T (.inl rfl) rfl ?_
  all_goals (try simp only [List.length_map] at *)
  all_goals clear hA hB hv
  all_goals try generalize (sizesOk d && formulasOk d) = q at *
  all_goals (simp_all [-List.all_eq_true, -List.all_eq_false] <;> (intros; omega))
end Hw.Pa
/- The engine, part AW: a literal of one part in a box; rows of integers as cells; what a call of the library's leaves in an array of the run's own. -/
namespace Hw
open Go

section
variable {P : Program} {d : Option Nat} {ty : TypeId} {ps : String} {af : Array Edge} {g : Option (Nat × Bool)} {x y : Operand} {t : TypeId}
theorem L_remI {t' : TypeId} {k : IntKind} {n m : Int} (h0 : m ≠ 0) (hx : okc x (Kk k n)) (hy : okc y (Kk k m)) :
    Snd P ⟨d, .binOp .rem t x y t', ty, ps, af, g⟩ (rq x (Kk k n) ++ rq y (Kk k m)) [] [] (Kk k (n.tmod m)) [] :=
  L_bin hx hy rfl fun w => ⟨rfl, by rw [binOp_rem]; simp [Op.intDiv, h0]⟩
theorem L_quoI {t' : TypeId} {k : IntKind} {n m : Int} (h0 : m ≠ 0) (hx : okc x (Kk k n)) (hy : okc y (Kk k m)) :
    Snd P ⟨d, .binOp .quo t x y t', ty, ps, af, g⟩ (rq x (Kk k n) ++ rq y (Kk k m)) [] [] (Kk k (k.wrap (n.tdiv m))) [] :=
  L_bin hx hy rfl fun w => ⟨rfl, by rw [binOp_quo]; simp [Op.intDiv, h0]⟩
end

section
variable {P : Program} {C : Ctx} {k : List Frm} {n : Nat} {sl : Slots} {tab : Tab} {Q : Exit → St → Prop} {all : Array Oper} {rest : List Oper} {cur : Cur}
theorem g_rem {d : Nat} {x y : Operand} {t t' ty : TypeId} {ps : String} {af : Array Edge} {g0 : Option (Nat × Bool)} {gs : Slots} {md : Mode} (hC : C.low) {k0 : IntKind} {a m : Int}
    (hx : ev sl x = some (Kk k0 a)) (hy : ev sl y = some (Kk k0 m)) (h0 : m ≠ 0) (hm : metL all sl g0 = some gs) (hd : Nat.blt d n = true)
    (g : Goal P C (.ops all rest (nx md ⟨some d, gs ++ (rq x (Kk k0 a) ++ rq y (Kk k0 m)), [], [], Kk k0 (a.tmod m), []⟩)) k n ((d, Kk k0 (a.tmod m)) :: sl) tab Q) :
    Goal P C (.ops all (⟨some d, .binOp .rem t x y t', ty, ps, af, g0⟩ :: rest) md) k n sl tab Q := by
  have e1 := of_ev (st := ⟨n, sl, tab⟩) hx
  have e2 := of_ev (st := ⟨n, sl, tab⟩) hy
  have := metL_step hm (L_remI (P := P) (ty := ty) (ps := ps) (af := af) (g := g0) (d := some d) (t := t) (t' := t') h0 e1.1 e2.1) (n := n) (tab := tab)
  exact g_law (L := ⟨some d, gs ++ (rq x (Kk k0 a) ++ rq y (Kk k0 m)), [], [], Kk k0 (a.tmod m), []⟩) hC this.1 rfl ⟨by rw [okS_append, okS_append]; exact ⟨this.2, e1.2, e2.2⟩, trivial, rfl, hd⟩ g
theorem g_quo {d : Nat} {x y : Operand} {t t' ty : TypeId} {ps : String} {af : Array Edge} {g0 : Option (Nat × Bool)} {gs : Slots} {md : Mode} (hC : C.low) {k0 : IntKind} {a m : Int}
    (hx : ev sl x = some (Kk k0 a)) (hy : ev sl y = some (Kk k0 m)) (h0 : m ≠ 0) (hm : metL all sl g0 = some gs) (hd : Nat.blt d n = true)
    (g : Goal P C (.ops all rest (nx md ⟨some d, gs ++ (rq x (Kk k0 a) ++ rq y (Kk k0 m)), [], [], Kk k0 (k0.wrap (a.tdiv m)), []⟩)) k n ((d, Kk k0 (k0.wrap (a.tdiv m))) :: sl) tab Q) :
    Goal P C (.ops all (⟨some d, .binOp .quo t x y t', ty, ps, af, g0⟩ :: rest) md) k n sl tab Q := by
  have e1 := of_ev (st := ⟨n, sl, tab⟩) hx
  have e2 := of_ev (st := ⟨n, sl, tab⟩) hy
  have := metL_step hm (L_quoI (P := P) (ty := ty) (ps := ps) (af := af) (g := g0) (d := some d) (t := t) (t' := t') h0 e1.1 e2.1) (n := n) (tab := tab)
  exact g_law (L := ⟨some d, gs ++ (rq x (Kk k0 a) ++ rq y (Kk k0 m)), [], [], Kk k0 (k0.wrap (a.tdiv m)), []⟩) hC this.1 rfl ⟨by rw [okS_append, okS_append]; exact ⟨this.2, e1.2, e2.2⟩, trivial, rfl, hd⟩ g
end
end Hw
/- The engine, part AX: bytes and strings: sums, conversions, slices of an array in a box, cells of a global array, calls of plain library functions. -/
namespace Hw
open Go

theorem bytesR_len (a : ByteArray) : (bytesR a).length = a.size := by simp only [bytesR, List.length_map, Array.length_toList]; rfl
theorem size_app (a b : ByteArray) : (a ++ b).size = a.size + b.size := ByteArray.size_append

def GOw (w : World) : Prop := GOn w ∧ (∀ b ∈ G1, ∃ m : Int, w.cell? ⟨b, 0, none⟩ = some (.int .i64 m)) ∧ ∀ p ∈ G2, ∃ el fz, w.heap[p.1]? = some (.cells p.2 el fz)
theorem gow_of {M : Mem} {w : World} (hI : Imm M w) (hG : GOk M w) : GOw w := ⟨fun b o u hu => hI b o u (hG.le b o u hu), fun b hb => let ⟨m, hm⟩ := hG.op b hb; ⟨m, hI _ _ _ hm⟩, hG.gb⟩
theorem reps_k {M : Mem} {ρ : Nat → Value} : ∀ {av xs : List Value}, RepSs M ρ (av.map fun a => .one (.p (.k a))) xs → xs = av
  | [], [], _ => rfl
  | [], _ :: _, h => by simp [RepSs] at h
  | _ :: _, [], h => by simp [RepSs] at h
  | a :: r, x :: xs, h => by
    simp only [List.map_cons, RepSs, RepS, RepV, RepPV] at h
    rw [h.1.1, reps_k h.2]
theorem fn_pureL {P : Program} {f : FuncId} {av : List Value} {v : Value} (hc : CallOK P f) (h : ∀ w : World, GOw w → Calls P f av.toArray w fun e w' => e = .returned v ∧ w' = w) (h1 : v.oneCell' = true) :
    FnOK P f (av.map fun a => .one (.p (.k a))) [] (.one (.p (.k v))) [] := by
  refine ⟨hc, fun M ρ w xs hx _ hI hG => ?_⟩
  obtain rfl := reps_k hx
  refine (h w (gow_of hI hG)).mono fun e w' ⟨he, hw⟩ => ?_
  subst hw
  refine ⟨v, M, ρ, he, by simp only [RepS, RepV, RepPV]; exact ⟨trivial, h1⟩, ⟨fun _ _ h => (by cases h), fun _ _ _ _ _ h => (by cases h), fun _ _ _ h => (by cases h)⟩, hI, MLe.refl M, fun b o u hu => .inl hu, fun b hb => ?_, fun b _ _ => rfl, Nat.le_refl _, rfl, rfl, rfl, fun id hid => rfl⟩
  obtain ⟨i, r, h, _⟩ := hb; cases h

theorem ret_below {M : Mem} {ρ : Nat → Value} {w w' : World} {res : S} {v : Value} (hI : Imm M w) (hb : RowKit.Below w.heap.size w w') (hr : RepS M ρ res v) : Ret M ρ w [] res [] v M ρ w' :=
  ⟨hr, ⟨fun _ _ h => (by cases h), fun _ _ _ _ _ h => (by cases h), fun _ _ _ h => (by cases h)⟩, fun b o u hu => by rw [cell_of_heap (hb.block b (cell_lt (hI b o u hu)))]; exact hI b o u hu, MLe.refl M, fun b o u hu => .inl hu,
    fun b ⟨_, _, h, _⟩ => (by cases h), fun b h _ => hb.block b h, hb.size, hb.os, hb.tape, hb.output, fun _ _ => rfl⟩
theorem fn_belowL {P : Program} {f : FuncId} {av : List Value} {v : Value} (hc : CallOK P f) (h : ∀ w : World, GOw w → Calls P f av.toArray w fun e w' => e = .returned v ∧ RowKit.Below w.heap.size w w') (h1 : v.oneCell' = true) :
    FnOK P f (av.map fun a => .one (.p (.k a))) [] (.one (.p (.k v))) [] := by
  refine ⟨hc, fun M ρ w xs hx _ hI hG => ?_⟩
  obtain rfl := reps_k hx
  refine (h w (gow_of hI hG)).mono fun e w' ⟨he, hw⟩ => ?_
  exact ⟨v, M, ρ, he, ret_below hI hw (by simp only [RepS, RepV, RepPV]; exact ⟨trivial, h1⟩)⟩
section
variable {P : Program} {d : Option Nat} {ty : TypeId} {ps : String} {af : Array Edge} {g : Option (Nat × Bool)} {x y : Operand} {t : TypeId}
theorem L_catS {t' : TypeId} {a b : ByteArray} (hs : a.size + b.size ≤ 9223372036854775807) (hx : okc x (Sr a)) (hy : okc y (Sr b)) :
    Snd P ⟨d, .binOp .add t x y t', ty, ps, af, g⟩ (rq x (Sr a) ++ rq y (Sr b)) [] [] (Sr (a ++ b)) [] :=
  L_bin hx hy rfl fun w => ⟨rfl, by
    have hn : ¬ (((a.size + b.size : Nat) : Int) > IntKind.i64.max) := by
      have : IntKind.i64.max = 9223372036854775807 := rfl
      rw [this]; omega
    have e : binOp .add t (.string a) (.string b) = Op.stringOp .add a b := rfl
    rw [e]
    simp only [Op.stringOp, if_neg hn, Sem.run_pure]⟩
theorem SrcS.bs {e id n : Nat} {tx el : TypeId} {rows : List (List PV)} {vs : List V} (h : elemSz P tx = some (el, e)) (hv : vs.take (n * e) = rows.flatten.map V.p) (hl : ∀ r ∈ rows, r.length = e) (hn : rows.length = n) : SrcS P e tx (.one (.bs id 0 n)) [(id, .box vs)] rows := by
  intro C st M ρ a w v hH hr hT
  obtain ⟨_, hu, _, _⟩ := elemSz_spec h
  simp only [RepS, RepV] at hr
  obtain ⟨b, c, f1, rfl, _⟩ := hr
  obtain ⟨b', cs, el', g1, g2, g3⟩ := hH.tabs.res id _ hT.1
  rw [f1] at g1
  simp only [Value.pointer.injEq, Option.some.injEq, Addr.mk.injEq] at g1
  obtain ⟨rfl, _⟩ := g1
  have g4 := g3.take (n * e)
  rw [hv] at g4
  subst hn
  refine ⟨cs.take (rows.length * e), Src.ofSlice w hu ⟨b, 0, none⟩ rows.length c _ ?_ (fun j u hj => ?_) g4.one, g4, hl⟩
  · rw [g4.length, List.length_map, List.length_flatten]
    have : (rows.map List.length) = List.replicate rows.length e := by
      rw [List.eq_replicate_iff]
      exact ⟨by rw [List.length_map], fun q hq => by obtain ⟨r, hr, rfl⟩ := List.mem_map.1 hq; exact hl r hr⟩
    rw [this, List.sum_replicate_nat]
  · rw [add_addr, Nat.zero_add]
    rw [List.getElem?_take] at hj
    split at hj
    · simp [World.cell?, g2, hj]
    · cases hj
end

section
variable {P : Program} {C : Ctx} {k : List Frm} {n : Nat} {sl : Slots} {tab : Tab} {Q : Exit → St → Prop} {all : Array Oper} {rest : List Oper} {cur : Cur}
theorem g_cat {d : Nat} {x y : Operand} {t t' ty : TypeId} {ps : String} {af : Array Edge} {g0 : Option (Nat × Bool)} {gs : Slots} {md : Mode} (hC : C.low) {a b : ByteArray}
    (hx : ev sl x = some (Sr a)) (hy : ev sl y = some (Sr b)) (hs : a.size + b.size ≤ 9223372036854775807) (hm : metL all sl g0 = some gs) (hd : Nat.blt d n = true)
    (g : Goal P C (.ops all rest (nx md ⟨some d, gs ++ (rq x (Sr a) ++ rq y (Sr b)), [], [], Sr (a ++ b), []⟩)) k n ((d, Sr (a ++ b)) :: sl) tab Q) :
    Goal P C (.ops all (⟨some d, .binOp .add t x y t', ty, ps, af, g0⟩ :: rest) md) k n sl tab Q := by
  have e1 := of_ev (st := ⟨n, sl, tab⟩) hx
  have e2 := of_ev (st := ⟨n, sl, tab⟩) hy
  have := metL_step hm (L_catS (P := P) (ty := ty) (ps := ps) (af := af) (g := g0) (d := some d) (t := t) (t' := t') hs e1.1 e2.1) (n := n) (tab := tab)
  exact g_law (L := ⟨some d, gs ++ (rq x (Sr a) ++ rq y (Sr b)), [], [], Sr (a ++ b), []⟩) hC this.1 rfl ⟨by rw [okS_append, okS_append]; exact ⟨this.2, e1.2, e2.2⟩, trivial, rfl, hd⟩ g
end
end Hw
/- The engine, part AY: arrays as values: literals, elements by a number. -/
namespace Hw
open Go

section
variable {P : Program} {d : Option Nat} {ty : TypeId} {ps : String} {af : Array Edge} {g : Option (Nat × Bool)} {x y : Operand} {t : TypeId}
theorem L_buildA {l : List (Nat × Operand)} {ss : List S} {vparts : List (Nat × List V)} {zs vs : List V} {len e : Nat} {el : TypeId}
    (hx : okcs (l.map (·.2)) ss) (ht : P.underlying t = some (.array len el)) (he : (P.info? el).map (·.size) = some e) (hz : zeroV P t = some zs) (hv : zipParts (l.map (·.1)) ss = some vparts) (hf : fillV (fun i => some (i * e, e)) zs vparts = some vs) :
    Snd P ⟨d, .build t l.toArray, ty, ps, af, g⟩ (rqs (l.map (·.2)) ss) [] [] (.agg vs) [] :=
  snd_quiet fun C st M ρ a w hH h1 _ => by
    have e := hH.evsS (evs_of hx h1)
    obtain ⟨h2, h3⟩ := zipParts_spec hv e
    obtain ⟨zv, hz1, hz2, _⟩ := zeroV_spec hz M ρ w
    have hzip : l.map (fun p => (p.1, a.eval p.2)) = (l.map (·.1)).zip ((l.map (·.2)).map a.eval) := by
      rw [List.map_map]; simp [List.zip_map']
    obtain ⟨out, h4, h5⟩ := fill_spec _ vparts zs vs zv.cells hz2 h2 h3 hf
    obtain ⟨ii, hinf, hsz⟩ := Option.map_eq_some_iff.1 he
    refine ⟨.agg out, ?_, by simp only [RepS]; exact ⟨out.toList, by simp, h5⟩⟩
    simp only [execOp, Instr.build, Sem.run_bind, hz1, Result.andThen_ok, run_underlying ht, run_sizeOf hinf, hsz]
    have hl : (l.toArray.map fun p => (p.1, a.eval p.2)).toList = (l.map (·.1)).zip ((l.map (·.2)).map a.eval) := by simpa using hzip
    rw [hl, h4]
    rfl
end
section
variable {P : Program} {C : Ctx} {k : List Frm} {n : Nat} {sl : Slots} {tab : Tab} {Q : Exit → St → Prop} {all : Array Oper} {rest : List Oper}
theorem g_buildA {d : Nat} {t : TypeId} {l : List (Nat × Operand)} {ty : TypeId} {ps : String} {af : Array Edge} {g0 : Option (Nat × Bool)} {gs : Slots} {md : Mode} (hC : C.low) {ss : List S} {vparts : List (Nat × List V)} {zs vs : List V} {len e : Nat} {el : TypeId}
    (hl : evs sl (l.map (·.2)) = some ss) (ht : P.underlying t = some (.array len el)) (he : (P.info? el).map (·.size) = some e) (hz : zeroV P t = some zs) (hv : zipParts (l.map (·.1)) ss = some vparts) (hf : fillV (fun i => some (i * e, e)) zs vparts = some vs) (hm : metL all sl g0 = some gs) (hd : Nat.blt d n = true)
    (g : Goal P C (.ops all rest (nx md ⟨some d, gs ++ rqs (l.map (·.2)) ss, [], [], .agg vs, []⟩)) k n ((d, .agg vs) :: sl) tab Q) :
    Goal P C (.ops all (⟨some d, .build t l.toArray, ty, ps, af, g0⟩ :: rest) md) k n sl tab Q := by
  have e2 := of_evs (st := ⟨n, sl, tab⟩) hl
  have := metL_step hm (L_buildA (ty := ty) (ps := ps) (af := af) (g := g0) (d := some d) e2.1 ht he hz hv hf) (n := n) (tab := tab)
  exact g_law (L := ⟨some d, gs ++ rqs (l.map (·.2)) ss, [], [], .agg vs, []⟩) hC this.1 rfl ⟨by rw [okS_append]; exact ⟨this.2, e2.2⟩, trivial, rfl, hd⟩ g
end
section
variable {K : Type} [DecidableEq K] {P : Program} {d : Option Nat} {ty : TypeId} {ps : String} {af : Array Edge} {g : Option (Nat × Bool)} {x y u : Operand} {t kt et : TypeId}
end
section
variable {P : Program} {C : Ctx} {k : List Frm} {n : Nat} {sl : Slots} {tab : Tab} {Q : Exit → St → Prop} {all : Array Oper} {rest : List Oper}
end
section
variable {P : Program} {d : Option Nat} {ty : TypeId} {ps : String} {af : Array Edge} {g : Option (Nat × Bool)} {x y : Operand} {t : TypeId}
theorem L_b2sP {s : ByteArray} {src dst e : TypeId} (h0 : 0 < s.size) (hx : okc x (.one (.p (.sl 1 (bytesR s))))) (hs : P.underlying src = some (.slice e)) (he : P.underlying e = some (.int .u8)) (hd : P.underlying dst = some .string) :
    Snd P ⟨d, .convert src dst x, ty, ps, af, g⟩ (rq x (.one (.p (.sl 1 (bytesR s))))) [] [] (Sr s) [] :=
  snd_quiet fun C st M ρ a w hH h1 hT => by
    have e1 := hH.evS (ev_of hx h1)
    simp only [RepS, RepV, RepPV] at e1
    obtain ⟨a', cap, f1, f2, f3, f4⟩ := e1
    rw [bytesR_len] at f1
    refine ⟨.string s, ?_, by simp only [RepS, RepV, RepPV]; exact ⟨trivial, rfl⟩⟩
    rcases f4 with h0 | ⟨b, o, rfl, f6⟩
    · have : (bytesR s).length = 0 := by rw [h0]; rfl
      rw [bytesR_len] at this
      omega
    · have hlen : s.data.toList.length = s.size := by rw [Array.length_toList]; rfl
      have hcell : ∀ j (hj : j < s.data.toList.length), w.cell? ((⟨b, o, none⟩ : Addr).add j) = some (.int .u8 ((s.data.toList)[j].toNat : Int)) := fun j hj => by
        have := (f6.get (i := j) (r := [.k (.int .u8 ((s.data.toList)[j].toNat : Int))]) (by simp only [bytesR, List.getElem?_map, List.getElem?_eq_getElem hj, Option.map_some])).2
        simp only [RowIn, RepPV, Nat.mul_one] at this
        obtain ⟨⟨c, c1, c2, _⟩, _⟩ := this
        rw [add_addr]
        subst c2
        exact hH.run.imm b (o + j) _ c1
      have hrun := run_convert_bytes_back (P := P) w src dst e ⟨b, o, none⟩ cap s.data.toList hs he hd hcell
      rw [hlen] at hrun
      simp only [execOp, f1, Sem.run_bind, hrun, Result.andThen_ok, Sem.run_pure]
end
section
variable {P : Program} {C : Ctx} {k : List Frm} {n : Nat} {sl : Slots} {tab : Tab} {Q : Exit → St → Prop} {all : Array Oper} {rest : List Oper}
theorem g_b2sP {d : Nat} {x : Operand} {src dst e ty : TypeId} {ps : String} {af : Array Edge} {g0 : Option (Nat × Bool)} {gs : Slots} {md : Mode} (hC : C.low) {s : ByteArray} (h0 : 0 < s.size)
    (hx : ev sl x = some (.one (.p (.sl 1 (bytesR s))))) (hs : P.underlying src = some (.slice e)) (he : P.underlying e = some (.int .u8)) (hdd : P.underlying dst = some .string) (hm : metL all sl g0 = some gs) (hd : Nat.blt d n = true)
    (g : Goal P C (.ops all rest (nx md ⟨some d, gs ++ rq x (.one (.p (.sl 1 (bytesR s)))), [], [], Sr s, []⟩)) k n ((d, Sr s) :: sl) tab Q) :
    Goal P C (.ops all (⟨some d, .convert src dst x, ty, ps, af, g0⟩ :: rest) md) k n sl tab Q := by
  have e1 := of_ev (st := ⟨n, sl, tab⟩) hx
  have := metL_step hm (L_b2sP (P := P) (s := s) (ty := ty) (ps := ps) (af := af) (g := g0) (d := some d) h0 e1.1 hs he hdd) (n := n) (tab := tab)
  exact g_law (L := ⟨some d, gs ++ rq x (.one (.p (.sl 1 (bytesR s)))), [], [], Sr s, []⟩) hC this.1 rfl ⟨by rw [okS_append]; exact ⟨this.2, e1.2⟩, trivial, rfl, hd⟩ g
end
end Hw
/- The engine, part AZ: nil slices within rows. -/
namespace Hw
open Go

mutual
inductive LP : PV → PV → Prop
  | refl (p : PV) : LP p p
  | nil (e : Nat) : LP (.k (.slice none 0 0)) (.sl e [])
  | sl {e : Nat} {rows rows' : List (List PV)} (h : LRs rows rows') : LP (.sl e rows) (.sl e rows')
inductive LRs : List (List PV) → List (List PV) → Prop
  | nil : LRs [] []
  | cons {r r' : List PV} {rs rs' : List (List PV)} (h : LR r r') (hs : LRs rs rs') : LRs (r :: rs) (r' :: rs')
inductive LR : List PV → List PV → Prop
  | nil : LR [] []
  | cons {p p' : PV} {ps ps' : List PV} (h : LP p p') (hs : LR ps ps') : LR (p :: ps) (p' :: ps')
end
theorem LR.len {r r' : List PV} : LR r r' → r'.length = r.length
  | .nil => rfl
  | .cons _ hs => by rw [List.length_cons, List.length_cons, LR.len hs]
theorem LRs.len {r r' : List (List PV)} : LRs r r' → r'.length = r.length
  | .nil => rfl
  | .cons _ hs => by rw [List.length_cons, List.length_cons, LRs.len hs]
mutual
theorem LP.rep {M : Mem} {p q : PV} {v : Value} : LP p q → RepPV M p v → RepPV M q v
  | .refl _, h => h
  | .nil e, h => by
    simp only [RepPV] at h ⊢
    exact ⟨none, 0, h.1, Nat.le_refl _, Nat.zero_le _, .inl trivial⟩
  | .sl hr, h => by
    simp only [RepPV] at h ⊢
    obtain ⟨a, cap, h1, h2, h3, h4⟩ := h
    rw [hr.len]
    refine ⟨a, cap, h1, h2, h3, ?_⟩
    rcases h4 with h4 | ⟨b, o, h4, h5⟩
    · left
      have := hr.len
      rw [h4] at this
      exact List.length_eq_zero_iff.1 this
    · exact .inr ⟨b, o, h4, LRs.rep hr h5⟩
theorem LRs.rep {M : Mem} {g : Nat → Option Value} {e o : Nat} {rows rows' : List (List PV)} : LRs rows rows' → RowsIn M g e rows o → RowsIn M g e rows' o
  | .nil, h => h
  | .cons hr hs, h => by
    simp only [RowsIn] at h ⊢
    exact ⟨hr.len.trans h.1, LR.rep hr h.2.1, LRs.rep hs h.2.2⟩
theorem LR.rep {M : Mem} {g : Nat → Option Value} {o : Nat} {r r' : List PV} : LR r r' → RowIn M g r o → RowIn M g r' o
  | .nil, h => h
  | .cons hp hs, h => by
    simp only [RowIn] at h ⊢
    obtain ⟨⟨c, c1, c2⟩, h2⟩ := h
    exact ⟨⟨c, c1, LP.rep hp c2⟩, LR.rep hs h2⟩
end
theorem LeV.lp {p q : PV} (h : LP p q) : LeV (.p p) (.p q) := fun M ρ x hr => by simp only [RepV] at hr ⊢; exact LP.rep h hr
theorem LeVs.lr : ∀ {r r' : List PV}, LR r r' → LeVs (r.map V.p) (r'.map V.p)
  | _, _, .nil => .nil
  | _, _, .cons h hs => .cons (.lp h) (LeVs.lr hs)
theorem LeS.lr {r r' : List PV} (h : LR r r') : LeS (.agg (r.map V.p)) (.agg (r'.map V.p)) := LeS.agg (LeVs.lr h)
end Hw
/- The engine, part BA: structs of two strings, compared. -/
namespace Hw
open Go

def twoStr (P : Program) (t : TypeId) : Bool := match P.underlying t with
  | some (.struct fs) => match fs.toList with
    | [f, g] => decide (f.name ≠ "_") && decide (g.name ≠ "_") && Nat.beq f.offset 0 && Nat.beq g.offset 1 && (match P.underlying f.type with | some .string => true | _ => false) && (match P.underlying g.type with | some .string => true | _ => false) && !P.stoodInHeld t && !P.eqGuardType P.depth t
    | _ => false
  | _ => false
theorem run_two {P : Program} {t : TypeId} (h : twoStr P t = true) (a b c d : ByteArray) (w : World) : (binOp .neq t (.agg #[.string a, .string b]) (.agg #[.string c, .string d])).run P w = .ok (.bool (!(decide (a = c) && decide (b = d)))) w := by
  unfold twoStr at h
  split at h
  · rename_i fs hu
    split at h
    · rename_i f g hfs
      simp only [Bool.and_eq_true, decide_eq_true_eq, Bool.not_eq_true'] at h
      obtain ⟨⟨⟨⟨⟨⟨⟨h1, h2⟩, h3⟩, h4⟩, h5⟩, h6⟩, h7⟩, h8⟩ := h
      have h3 := Nat.eq_of_beq_eq_true h3
      have h4 := Nat.eq_of_beq_eq_true h4
      have hf : P.underlying f.type = some .string := by split at h5 <;> first | assumption | cases h5
      have hg : P.underlying g.type = some .string := by split at h6 <;> first | assumption | cases h6
      have hF : P.fieldsOf t = fs := by simp [Program.fieldsOf, hu]
      rw [run_neq_struct, run_equalIn_agg (d := 9999) w t _ _ (by rw [hF]; exact hu) h7, hF, hfs]
      have p1 : ∀ (u v : ByteArray), (part f.type #[.string u, .string v] f.offset).run P w = .ok (.string u) w := fun u v => by simp [part, isAgg, run_underlying hf, h3]
      have p2 : ∀ (u v : ByteArray), (part g.type #[.string u, .string v] g.offset).run P w = .ok (.string v) w := fun u v => by simp [part, isAgg, run_underlying hg, h4]
      have q1 : ∀ (u v : ByteArray), (Op.equalIn 9999 f.type (.string u) (.string v)).run P w = .ok (decide (u = v)) w := fun u v => by
        rw [run_equalIn_string (d := 9998) w f.type u v hf, ← beq_toListBytes, bytes_eq]
      have q2 : ∀ (u v : ByteArray), (Op.equalIn 9999 g.type (.string u) (.string v)).run P w = .ok (decide (u = v)) w := fun u v => by
        rw [run_equalIn_string (d := 9998) w g.type u v hg, ← beq_toListBytes, bytes_eq]
      simp only [Op.eqFields, if_pos h1, if_pos h2, Sem.run_bind, p1, p2, q1, q2, Result.andThen_ok, Sem.run_ite]
      by_cases e1 : a = c
      · by_cases e2 : b = d
        · simp [e1, e2]
        · simp [e1, e2]
      · simp [e1]
    · cases h
  · cases h
theorem guard_two {P : Program} {t : TypeId} (h : twoStr P t = true) (x y : Operand) (xs ys : Array Value) (w : World) : (eqGuard .neq t x y (.agg xs) (.agg ys)).run P w = .ok () w := by
  refine run_eqGuard_agg w .neq t x y xs ys ?_
  unfold twoStr at h
  split at h
  · split at h
    · simp only [Bool.and_eq_true, Bool.not_eq_true'] at h; exact h.2
    · cases h
  · cases h
section
variable {P : Program} {d : Option Nat} {ty : TypeId} {ps : String} {af : Array Edge} {g : Option (Nat × Bool)} {x y : Operand} {t : TypeId}
theorem L_neqSS {t' : TypeId} {a b a' b' : ByteArray} (hx : okc x (.agg [.p (.k (.string a)), .p (.k (.string b))])) (hy : okc y (.agg [.p (.k (.string a')), .p (.k (.string b'))])) (h : twoStr P t = true) :
    Snd P ⟨d, .binOp .neq t x y t', ty, ps, af, g⟩ (rq x (.agg [.p (.k (.string a)), .p (.k (.string b))]) ++ rq y (.agg [.p (.k (.string a')), .p (.k (.string b'))])) [] [] (.bq (!(decide (a = a') && decide (b = b')))) [] :=
  snd_quiet fun C st M ρ ac w hH h1 _ => by
    rw [okS_append] at h1
    have e1 := hH.evS (ev_of hx h1.1)
    have e2 := hH.evS (ev_of hy h1.2)
    simp only [RepS] at e1 e2
    obtain ⟨cs, e1, f1⟩ := e1
    obtain ⟨ds, e2, f2⟩ := e2
    match cs, ds, f1, f2 with
    | [c1, c2], [d1, d2], f1, f2 =>
      simp only [RepVs, RepV, RepPV] at f1 f2
      obtain ⟨⟨rfl, _⟩, ⟨rfl, _⟩, _⟩ := f1
      obtain ⟨⟨rfl, _⟩, ⟨rfl, _⟩, _⟩ := f2
      exact ⟨.bool (!(decide (a = a') && decide (b = b'))), by simp only [execOp, e1, e2, Sem.run_bind, guard_two h, run_two h, Result.andThen_ok, Sem.run_pure], by simp only [RepS]⟩
    | [], _, f1, _ => simp [RepVs] at f1
    | [_], _, f1, _ => simp [RepVs] at f1
    | _ :: _ :: _ :: _, _, f1, _ => simp [RepVs] at f1
    | [_, _], [], _, f2 => simp [RepVs] at f2
    | [_, _], [_], _, f2 => simp [RepVs] at f2
    | [_, _], _ :: _ :: _ :: _, _, f2 => simp [RepVs] at f2
end
section
variable {P : Program} {C : Ctx} {k : List Frm} {n : Nat} {sl : Slots} {tab : Tab} {Q : Exit → St → Prop} {all : Array Oper} {rest : List Oper}
theorem g_neqSS {d : Nat} {x y : Operand} {t t' ty : TypeId} {ps : String} {af : Array Edge} {g0 : Option (Nat × Bool)} {gs : Slots} {md : Mode} (hC : C.low) {a b a' b' : ByteArray}
    (hx : ev sl x = some (.agg [.p (.k (.string a)), .p (.k (.string b))])) (hy : ev sl y = some (.agg [.p (.k (.string a')), .p (.k (.string b'))])) (h : twoStr P t = true) (hm : metL all sl g0 = some gs) (hd : Nat.blt d n = true)
    (g : Goal P C (.ops all rest (nx md ⟨some d, gs ++ (rq x (.agg [.p (.k (.string a)), .p (.k (.string b))]) ++ rq y (.agg [.p (.k (.string a')), .p (.k (.string b'))])), [], [], .bq (!(decide (a = a') && decide (b = b'))), []⟩)) k n ((d, .bq (!(decide (a = a') && decide (b = b')))) :: sl) tab Q) :
    Goal P C (.ops all (⟨some d, .binOp .neq t x y t', ty, ps, af, g0⟩ :: rest) md) k n sl tab Q := by
  have e1 := of_ev (st := ⟨n, sl, tab⟩) hx
  have e2 := of_ev (st := ⟨n, sl, tab⟩) hy
  have := metL_step hm (L_neqSS (P := P) (ty := ty) (ps := ps) (af := af) (g := g0) (d := some d) (t' := t') e1.1 e2.1 h) (n := n) (tab := tab)
  exact g_law (L := ⟨some d, gs ++ (rq x (.agg [.p (.k (.string a)), .p (.k (.string b))]) ++ rq y (.agg [.p (.k (.string a')), .p (.k (.string b'))])), [], [], .bq (!(decide (a = a') && decide (b = b'))), []⟩) hC this.1 rfl ⟨by rw [okS_append, okS_append]; exact ⟨this.2, e1.2, e2.2⟩, trivial, rfl, hd⟩ g
end
end Hw
/- The engine, part BI: structs of numbers and strings, compared; interfaces held against nil. -/
namespace Hw
open Go

inductive Sc where
  | i (k : IntKind) (n : Int)
  | s (b : ByteArray)
  deriving DecidableEq
def Sc.v : Sc → Value
  | .i k n => .int k n
  | .s b => .string b
def Sc.V (c : Sc) : V := .p (.k c.v)
inductive SK where
  | i (k : IntKind)
  | s
def okSK : SK → Sc → Bool
  | .i k, .i k' _ => decide (k = k')
  | .s, .s _ => true
  | _, _ => false
def okSKs : List SK → List Sc → Bool
  | [], [] => true
  | k :: ks, c :: cs => okSK k c && okSKs ks cs
  | _, _ => false
def isStc (P : Program) (t : TypeId) : Bool := match P.underlying t with
  | some (.struct _) => true
  | _ => false
def eqFs (P : Program) (r : TypeId → Option (List SK)) : List Field → Nat → Option (List SK)
  | [], _ => some []
  | f :: fs, off => match decide (f.name ≠ "_") && Nat.beq f.offset off with
    | true => match r f.type with
      | some l => match !isStc P f.type || decide ((P.info? f.type).map (·.size) = some l.length) with
        | true => match eqFs P r fs (off + l.length) with
          | some l' => some (l ++ l')
          | none => none
        | false => none
      | none => none
    | false => none
def eqSh (P : Program) : Nat → TypeId → Option (List SK)
  | 0, _ => none
  | f + 1, t => match P.underlying t with
    | some (.int k) => some [.i k]
    | some .string => some [.s]
    | some (.struct fs) => match P.stoodInHeld t with
      | true => none
      | false => eqFs P (eqSh P f) fs.toList 0
    | _ => none
theorem okSKs_len : ∀ {l : List SK} {cs : List Sc}, okSKs l cs = true → cs.length = l.length
  | [], [], _ => rfl
  | [], _ :: _, h => by simp [okSKs] at h
  | _ :: _, [], h => by simp [okSKs] at h
  | k :: ks, c :: cs, h => by simp only [okSKs, Bool.and_eq_true] at h; simp [okSKs_len h.2]
theorem okSKs_split : ∀ {l l' : List SK} {cs : List Sc}, okSKs (l ++ l') cs = true → okSKs l (cs.take l.length) = true ∧ okSKs l' (cs.drop l.length) = true
  | [], _, cs, h => by simp only [List.nil_append] at h; simp [okSKs, h]
  | _ :: _, _, [], h => by simp [okSKs] at h
  | k :: ks, l', c :: cs, h => by
    simp only [List.cons_append, okSKs, Bool.and_eq_true] at h
    have := okSKs_split h.2
    simp only [List.length_cons, List.take_succ_cons, List.drop_succ_cons, okSKs, h.1, this.1, this.2, Bool.and_self, and_self]
def valSc (P : Program) (t : TypeId) (cs : List Sc) : Value := if isStc P t = true then .agg (cs.map Sc.v).toArray else match cs with
  | c :: _ => c.v
  | [] => undef
theorem equal_flat {P : Program} : ∀ (f : Nat) (t : TypeId) (l : List SK), eqSh P f t = some l → ∀ (d : Nat), f ≤ d → ∀ (a b : List Sc), okSKs l a = true → okSKs l b = true → ∀ w : World,
    (Op.equalIn d t (valSc P t a) (valSc P t b)).run P w = .ok (decide (a = b)) w := by
  intro f
  induction f with
  | zero => intro t l h; cases h
  | succ f ih =>
  intro t l h d hd a b ha hb w
  obtain ⟨d, rfl⟩ : ∃ d', d = d' + 1 := ⟨d - 1, by omega⟩
  simp only [eqSh] at h
  split at h
  · rename_i k hu
    simp only [Option.some.injEq] at h; subst h
    match a, b, ha, hb with
    | [.i k1 x], [.i k2 y], ha, hb =>
      simp only [okSKs, okSK, Bool.and_true, decide_eq_true_eq] at ha hb
      subst ha; subst hb
      have hs : isStc P t = false := by simp [isStc, hu]
      simp only [valSc, hs, Bool.false_eq_true, if_false, Sc.v]
      rw [run_equalIn_int w d t k k x y hu]
      by_cases e : x = y
      · subst e; simp
      · simp [e]
    | [.s _], _, ha, _ => simp [okSKs, okSK] at ha
    | [], _, ha, _ => simp [okSKs] at ha
    | _ :: _ :: _, _, ha, _ => simp [okSKs] at ha
    | [.i _ _], [.s _], _, hb => simp [okSKs, okSK] at hb
    | [.i _ _], [], _, hb => simp [okSKs] at hb
    | [.i _ _], _ :: _ :: _, _, hb => simp [okSKs] at hb
  · rename_i hu
    simp only [Option.some.injEq] at h; subst h
    match a, b, ha, hb with
    | [.s x], [.s y], ha, hb =>
      have hs : isStc P t = false := by simp [isStc, hu]
      simp only [valSc, hs, Bool.false_eq_true, if_false, Sc.v]
      rw [run_equalIn_string w d t x y hu, ← beq_toListBytes, bytes_eq]
      by_cases e : x = y
      · subst e; simp
      · simp [e]
    | [.i _ _], _, ha, _ => simp [okSKs, okSK] at ha
    | [], _, ha, _ => simp [okSKs] at ha
    | _ :: _ :: _, _, ha, _ => simp [okSKs] at ha
    | [.s _], [.i _ _], _, hb => simp [okSKs, okSK] at hb
    | [.s _], [], _, hb => simp [okSKs] at hb
    | [.s _], _ :: _ :: _, _, hb => simp [okSKs] at hb
  · rename_i fs hu
    split at h
    · cases h
    · rename_i hst
      have hF : P.fieldsOf t = fs := by simp [Program.fieldsOf, hu]
      have hs : isStc P t = true := by simp [isStc, hu]
      simp only [valSc, hs, if_true]
      rw [run_equalIn_agg w d t _ _ (by rw [hF]; exact hu) hst, hF]
      -- field by field
      have key : ∀ (fl : List Field) (off : Nat) (l' : List SK), eqFs P (eqSh P f) fl off = some l' → ∀ a0 b0 : List Sc, off ≤ a0.length → off ≤ b0.length → okSKs l' (a0.drop off) = true → okSKs l' (b0.drop off) = true →
          (Op.eqFields d (a0.map Sc.v).toArray (b0.map Sc.v).toArray fl).run P w = .ok (decide (a0.drop off = b0.drop off)) w := by
        intro fl
        induction fl with
        | nil =>
          intro off l' hl a0 b0 _ _ h1 h2
          simp only [eqFs, Option.some.injEq] at hl; subst hl
          have e1 : a0.drop off = [] := List.eq_nil_of_length_eq_zero (okSKs_len h1)
          have e2 : b0.drop off = [] := List.eq_nil_of_length_eq_zero (okSKs_len h2)
          simp [Op.eqFields, e1, e2]
        | cons fd fl ihf =>
          intro off l' hl a0 b0 ho1 ho2 h1 h2
          simp only [eqFs] at hl
          split at hl
          · rename_i hname
            simp only [Bool.and_eq_true, decide_eq_true_eq] at hname
            have hoff := Nat.eq_of_beq_eq_true hname.2
            split at hl
            · rename_i lf hlf
              split at hl
              · rename_i hsz
                split at hl
                · rename_i lr hlr
                  simp only [Option.some.injEq] at hl; subst hl
                  obtain ⟨a1, a2⟩ := okSKs_split h1
                  obtain ⟨b1, b2⟩ := okSKs_split h2
                  have al := okSKs_len a1
                  have bl := okSKs_len b1
                  simp only [List.length_take, List.length_drop] at al bl
                  have hpart : ∀ c0 : List Sc, off + lf.length ≤ c0.length → okSKs lf ((c0.drop off).take lf.length) = true → (part fd.type (c0.map Sc.v).toArray fd.offset).run P w = .ok (valSc P fd.type ((c0.drop off).take lf.length)) w := fun c0 hc0 hok => by
                    rw [hoff]
                    cases hstr : isStc P fd.type with
                    | true =>
                      obtain ⟨fs', hu'⟩ : ∃ fs', P.underlying fd.type = some (.struct fs') := by
                        unfold isStc at hstr
                        split at hstr
                        · rename_i fs' e; exact ⟨fs', e⟩
                        · cases hstr
                      rw [hstr] at hsz
                      simp only [Bool.not_true, Bool.false_or, decide_eq_true_eq, Option.map_eq_some_iff] at hsz
                      obtain ⟨ii, hii, hsz⟩ := hsz
                      simp only [part, isAgg, Sem.run_bind, run_underlying hu', Result.andThen_ok, Sem.run_pure, if_true, run_sizeOf hii, hsz, valSc, hstr]
                      congr 2
                      apply Array.ext'
                      simp only [Array.toList_extract, List.extract_eq_take_drop, List.map_take, List.map_drop]
                      rw [Nat.add_sub_cancel_left]
                    | false =>
                      have hna : (isAgg fd.type).run P w = .ok false w := by
                        cases f with
                        | zero => cases hlf
                        | succ f' =>
                          simp only [eqSh] at hlf
                          split at hlf
                          · rename_i hu'; simp [isAgg, run_underlying hu']
                          · rename_i hu'; simp [isAgg, run_underlying hu']
                          · rename_i hu'; simp [isStc, hu'] at hstr
                          · cases hlf
                      have h1l : lf.length = 1 := by
                        cases f with
                        | zero => cases hlf
                        | succ f' =>
                          simp only [eqSh] at hlf
                          split at hlf
                          · simp only [Option.some.injEq] at hlf; subst hlf; rfl
                          · simp only [Option.some.injEq] at hlf; subst hlf; rfl
                          · rename_i hu'; simp [isStc, hu'] at hstr
                          · cases hlf
                      obtain ⟨c, hc⟩ : ∃ c, c0[off]? = some c := ⟨c0[off]'(by omega), List.getElem?_eq_getElem (by omega)⟩
                      have ht : (c0.drop off).take lf.length = [c] := by
                        rw [h1l, List.take_one, List.head?_drop, hc]; rfl
                      simp only [part, Sem.run_bind, hna, Result.andThen_ok, Bool.false_eq_true, if_false, List.getElem?_toArray, List.getElem?_map, hc, Option.map_some, Sem.run_pure, ht, valSc, hstr]
                  have hq := ih fd.type lf hlf d (by omega) _ _ a1 b1 w
                  simp only [Op.eqFields, if_pos hname.1, Sem.run_bind, hpart a0 (by omega) a1, hpart b0 (by omega) b1, hq, Result.andThen_ok, Sem.run_ite]
                  have hcat : ∀ c0 : List Sc, c0.drop off = (c0.drop off).take lf.length ++ c0.drop (off + lf.length) := fun c0 => by
                    rw [← List.drop_drop, List.take_append_drop]
                  rw [List.drop_drop] at a2 b2
                  by_cases e : (a0.drop off).take lf.length = (b0.drop off).take lf.length
                  · rw [decide_eq_true e]
                    simp only [Bool.not_true, Bool.false_eq_true, if_false]
                    rw [ihf _ _ hlr a0 b0 (by omega) (by omega) a2 b2]
                    congr 1
                    have : (a0.drop off = b0.drop off) ↔ (a0.drop (off + lf.length) = b0.drop (off + lf.length)) := by
                      rw [hcat a0, hcat b0, e]
                      exact ⟨fun h => List.append_cancel_left h, fun h => by rw [h]⟩
                    exact decide_eq_decide.2 this.symm
                  · rw [decide_eq_false e]
                    simp only [Bool.not_false, if_true, Sem.run_pure]
                    congr 1
                    refine (decide_eq_false fun h => e ?_).symm
                    rw [h]
                · cases hl
              · cases hl
            · cases hl
          · cases hl
      have := key fs.toList 0 l h a b (Nat.zero_le _) (Nat.zero_le _) (by simpa using ha) (by simpa using hb)
      simpa using this
  · cases h
section
variable {P : Program} {d : Option Nat} {ty : TypeId} {ps : String} {af : Array Edge} {g : Option (Nat × Bool)} {x y : Operand} {t : TypeId}
theorem rep_sc {M : Mem} {ρ : Nat → Value} : ∀ {a : List Sc} {cs : List Value}, RepVs M ρ (a.map Sc.V) cs → cs = a.map Sc.v
  | [], [], _ => rfl
  | [], _ :: _, h => by simp only [List.map_nil, RepVs] at h
  | _ :: _, [], h => by simp only [List.map_cons, RepVs] at h
  | c :: a, v :: cs, h => by
    simp only [List.map_cons, Sc.V, RepVs, RepV, RepPV] at h
    rw [h.1.1, rep_sc h.2]; rfl
theorem L_eqF {t' : TypeId} {neg : Bool} {l : List SK} {a b : List Sc} (hx : okc x (.agg (a.map Sc.V))) (hy : okc y (.agg (b.map Sc.V))) (hs : isStc P t = true) (h : eqSh P 8 t = some l) (ha : okSKs l a = true) (hb : okSKs l b = true) (hg : P.eqGuardType P.depth t = false) :
    Snd P ⟨d, .binOp (if neg = true then .neq else .eql) t x y t', ty, ps, af, g⟩ (rq x (.agg (a.map Sc.V)) ++ rq y (.agg (b.map Sc.V))) [] [] (.bq (if neg = true then !decide (a = b) else decide (a = b))) [] :=
  snd_quiet fun C st M ρ ac w hH h1 _ => by
    rw [okS_append] at h1
    have e1 := hH.evS (ev_of hx h1.1)
    have e2 := hH.evS (ev_of hy h1.2)
    simp only [RepS] at e1 e2
    obtain ⟨cs, e1, f1⟩ := e1
    obtain ⟨ds, e2, f2⟩ := e2
    rw [rep_sc f1] at e1
    rw [rep_sc f2] at e2
    have hq := equal_flat 8 t l h 10000 (by omega) a b ha hb w
    simp only [valSc, hs, if_true] at hq
    cases neg with
    | true =>
      refine ⟨.bool (!decide (a = b)), ?_, by simp only [RepS, if_true]⟩
      simp only [execOp, if_true, e1, e2, Sem.run_bind, run_eqGuard_agg w _ t x y _ _ hg, Result.andThen_ok, run_neq_struct, hq, Sem.run_pure]
    | false =>
      refine ⟨.bool (decide (a = b)), ?_, by simp only [RepS, Bool.false_eq_true, if_false]⟩
      simp only [execOp, Bool.false_eq_true, if_false, e1, e2, Sem.run_bind, run_eqGuard_agg w _ t x y _ _ hg, Result.andThen_ok, run_eql_struct, hq, Sem.run_pure]
end
section
variable {P : Program} {C : Ctx} {k : List Frm} {n : Nat} {sl : Slots} {tab : Tab} {Q : Exit → St → Prop} {all : Array Oper} {rest : List Oper}
theorem g_eqF {d : Nat} {x y : Operand} {t t' ty : TypeId} {ps : String} {af : Array Edge} {g0 : Option (Nat × Bool)} {gs : Slots} {md : Mode} (hC : C.low) (l : List SK) (a b : List Sc)
    (hx : ev sl x = some (.agg (a.map Sc.V))) (hy : ev sl y = some (.agg (b.map Sc.V))) (hs : isStc P t = true) (h : eqSh P 8 t = some l) (ha : okSKs l a = true) (hb : okSKs l b = true) (hg : P.eqGuardType P.depth t = false) (hm : metL all sl g0 = some gs) (hd : Nat.blt d n = true)
    (g : Goal P C (.ops all rest (nx md ⟨some d, gs ++ (rq x (.agg (a.map Sc.V)) ++ rq y (.agg (b.map Sc.V))), [], [], .bq (decide (a = b)), []⟩)) k n ((d, .bq (decide (a = b))) :: sl) tab Q) :
    Goal P C (.ops all (⟨some d, .binOp .eql t x y t', ty, ps, af, g0⟩ :: rest) md) k n sl tab Q := by
  have e1 := of_ev (st := ⟨n, sl, tab⟩) hx
  have e2 := of_ev (st := ⟨n, sl, tab⟩) hy
  have := metL_step hm (L_eqF (P := P) (neg := false) (ty := ty) (ps := ps) (af := af) (g := g0) (d := some d) (t' := t') e1.1 e2.1 hs h ha hb hg) (n := n) (tab := tab)
  exact g_law (L := ⟨some d, gs ++ (rq x (.agg (a.map Sc.V)) ++ rq y (.agg (b.map Sc.V))), [], [], .bq (decide (a = b)), []⟩) hC this.1 rfl ⟨by rw [okS_append, okS_append]; exact ⟨this.2, e1.2, e2.2⟩, trivial, rfl, hd⟩ g
end
end Hw
/- The engine, part BB: slices of strings. -/
namespace Hw
open Go
section
variable {P : Program} {d : Option Nat} {ty : TypeId} {ps : String} {af : Array Edge} {g : Option (Nat × Bool)} {x y : Operand} {t : TypeId}
theorem L_slTo {a : ByteArray} {j : Int} {k : IntKind} (hx : okc x (Sr a)) (hy : okc y (Kk k j)) (ht : P.underlying t = some .string) (h0 : 0 ≤ j) (h1 : j ≤ a.size) :
    Snd P ⟨d, .slice t x none (some y) none, ty, ps, af, g⟩ (rq x (Sr a) ++ rq y (Kk k j)) [] [] (Sr (a.extract 0 j.toNat)) [] :=
  snd_quiet fun C st M ρ b w hH hs _ => by
    rw [okS_append] at hs
    have e1 := hH.k (ev_of hx hs.1)
    have e2 := hH.k (ev_of hy hs.2)
    refine ⟨.string (a.extract 0 j.toNat), ?_, by simp only [RepS, RepV, RepPV]; exact ⟨trivial, rfl⟩⟩
    simp only [execOp, e1, e2, Option.map_none, Option.map_some, Sem.run_bind, run_sliceAt_string w t _ _ _ _ ht, run_slice_string_to_if w t a k j ht, if_pos (⟨h0, h1⟩ : 0 ≤ j ∧ j ≤ (a.size : Int)), Result.andThen_ok, Sem.run_pure]
theorem L_slFrom {a : ByteArray} {j : Int} {k : IntKind} (hx : okc x (Sr a)) (hy : okc y (Kk k j)) (ht : P.underlying t = some .string) (h0 : 0 ≤ j) (h1 : j ≤ a.size) :
    Snd P ⟨d, .slice t x (some y) none none, ty, ps, af, g⟩ (rq x (Sr a) ++ rq y (Kk k j)) [] [] (Sr (a.extract j.toNat a.size)) [] :=
  snd_quiet fun C st M ρ b w hH hs _ => by
    rw [okS_append] at hs
    have e1 := hH.k (ev_of hx hs.1)
    have e2 := hH.k (ev_of hy hs.2)
    refine ⟨.string (a.extract j.toNat a.size), ?_, by simp only [RepS, RepV, RepPV]; exact ⟨trivial, rfl⟩⟩
    simp only [execOp, e1, e2, Option.map_none, Option.map_some, Sem.run_bind, run_sliceAt_string w t _ _ _ _ ht, run_slice_string_from_if w t a k j ht, if_pos (⟨h0, h1⟩ : 0 ≤ j ∧ j ≤ (a.size : Int)), Result.andThen_ok, Sem.run_pure]
end
variable {P : Program} {C : Ctx} {k : List Frm} {n : Nat} {sl : Slots} {tab : Tab} {Q : Exit → St → Prop} {all : Array Oper} {rest : List Oper}
theorem g_slTo {d : Nat} {x y : Operand} {t ty : TypeId} {ps : String} {af : Array Edge} {g0 : Option (Nat × Bool)} {gs : Slots} {md : Mode} (hC : C.low) {a : ByteArray} {j : Int} {k0 : IntKind}
    (hx : ev sl x = some (Sr a)) (hy : ev sl y = some (Kk k0 j)) (ht : P.underlying t = some .string) (h0 : 0 ≤ j) (h1 : j ≤ a.size) (hm : metL all sl g0 = some gs) (hd : Nat.blt d n = true)
    (g : Goal P C (.ops all rest (nx md ⟨some d, gs ++ (rq x (Sr a) ++ rq y (Kk k0 j)), [], [], Sr (a.extract 0 j.toNat), []⟩)) k n ((d, Sr (a.extract 0 j.toNat)) :: sl) tab Q) :
    Goal P C (.ops all (⟨some d, .slice t x none (some y) none, ty, ps, af, g0⟩ :: rest) md) k n sl tab Q := by
  have e1 := of_ev (st := ⟨n, sl, tab⟩) hx
  have e2 := of_ev (st := ⟨n, sl, tab⟩) hy
  have := metL_step hm (L_slTo (P := P) (ty := ty) (ps := ps) (af := af) (g := g0) (d := some d) (t := t) e1.1 e2.1 ht h0 h1) (n := n) (tab := tab)
  exact g_law (L := ⟨some d, gs ++ (rq x (Sr a) ++ rq y (Kk k0 j)), [], [], Sr (a.extract 0 j.toNat), []⟩) hC this.1 rfl ⟨by rw [okS_append, okS_append]; exact ⟨this.2, e1.2, e2.2⟩, trivial, rfl, hd⟩ g
theorem g_slFrom {d : Nat} {x y : Operand} {t ty : TypeId} {ps : String} {af : Array Edge} {g0 : Option (Nat × Bool)} {gs : Slots} {md : Mode} (hC : C.low) {a : ByteArray} {j : Int} {k0 : IntKind}
    (hx : ev sl x = some (Sr a)) (hy : ev sl y = some (Kk k0 j)) (ht : P.underlying t = some .string) (h0 : 0 ≤ j) (h1 : j ≤ a.size) (hm : metL all sl g0 = some gs) (hd : Nat.blt d n = true)
    (g : Goal P C (.ops all rest (nx md ⟨some d, gs ++ (rq x (Sr a) ++ rq y (Kk k0 j)), [], [], Sr (a.extract j.toNat a.size), []⟩)) k n ((d, Sr (a.extract j.toNat a.size)) :: sl) tab Q) :
    Goal P C (.ops all (⟨some d, .slice t x (some y) none none, ty, ps, af, g0⟩ :: rest) md) k n sl tab Q := by
  have e1 := of_ev (st := ⟨n, sl, tab⟩) hx
  have e2 := of_ev (st := ⟨n, sl, tab⟩) hy
  have := metL_step hm (L_slFrom (P := P) (ty := ty) (ps := ps) (af := af) (g := g0) (d := some d) (t := t) e1.1 e2.1 ht h0 h1) (n := n) (tab := tab)
  exact g_law (L := ⟨some d, gs ++ (rq x (Sr a) ++ rq y (Kk k0 j)), [], [], Sr (a.extract j.toNat a.size), []⟩) hC this.1 rfl ⟨by rw [okS_append, okS_append]; exact ⟨this.2, e1.2, e2.2⟩, trivial, rfl, hd⟩ g
end Hw
/- The engine, part BC: a string's bytes as an array of the run's own. -/
namespace Hw
open Go
section
variable {P : Program} {d : Option Nat} {ty : TypeId} {ps : String} {af : Array Edge} {g : Option (Nat × Bool)} {x y : Operand} {t : TypeId}
end
variable {P : Program} {C : Ctx} {k : List Frm} {n : Nat} {sl : Slots} {tab : Tab} {Q : Exit → St → Prop} {all : Array Oper} {rest : List Oper}
end Hw
/- The engine, part BJ: parts of strings and of slices; interfaces held against nil. -/
namespace Hw
open Go

section
variable {P : Program} {d : Option Nat} {ty : TypeId} {ps : String} {af : Array Edge} {g : Option (Nat × Bool)} {x y z : Operand} {t : TypeId}
theorem L_slMid {a : ByteArray} {i j : Int} {k k' : IntKind} (hx : okc x (Sr a)) (hy : okc y (Kk k i)) (hz : okc z (Kk k' j)) (ht : P.underlying t = some .string) (h0 : 0 ≤ i) (h1 : i ≤ j) (h2 : j ≤ a.size) :
    Snd P ⟨d, .slice t x (some y) (some z) none, ty, ps, af, g⟩ (rq x (Sr a) ++ rq y (Kk k i) ++ rq z (Kk k' j)) [] [] (Sr (a.extract i.toNat j.toNat)) [] :=
  snd_quiet fun C st M ρ b w hH hs _ => by
    rw [okS_append, okS_append] at hs
    have e1 := hH.k (ev_of hx hs.1.1)
    have e2 := hH.k (ev_of hy hs.1.2)
    have e3 := hH.k (ev_of hz hs.2)
    refine ⟨.string (a.extract i.toNat j.toNat), ?_, by simp only [RepS, RepV, RepPV]; exact ⟨trivial, rfl⟩⟩
    simp only [execOp, e1, e2, e3, Option.map_none, Option.map_some, Sem.run_bind, run_sliceAt_string w t _ _ _ _ ht, run_slice_string_if w t a k k' i j ht, if_pos (⟨by omega, h2⟩ : 0 ≤ j ∧ j ≤ (a.size : Int)), if_pos (⟨h0, h1⟩ : 0 ≤ i ∧ i ≤ j), Result.andThen_ok, Sem.run_pure]
theorem L_index1 {vs : List V} {len : Nat} {el : TypeId} {i : Int} {k : IntKind} {v : V} (hx : okc x (.agg vs)) (hy : okc y (Kk k i)) (ht : P.underlying t = some (.array len el)) (he : (P.info? el).map (·.size) = some 1) (hs : shp P el = some none) (h0 : 0 ≤ i) (hi : i < len) (hv : vs[i.toNat]? = some v) :
    Snd P ⟨d, .index t x y, ty, ps, af, g⟩ (rq x (.agg vs) ++ rq y (Kk k i)) [] [] (.one v) [] :=
  snd_quiet fun C st M ρ a w hH h1 _ => by
    rw [okS_append] at h1
    have e1 := hH.evS (ev_of hx h1.1)
    have e2 := hH.k (ev_of hy h1.2)
    simp only [RepS] at e1
    obtain ⟨cs, e1, e3⟩ := e1
    obtain ⟨ii, hinf, hsz⟩ := Option.map_eq_some_iff.1 he
    obtain ⟨c, c1, c2⟩ := repVs_at e3 hv
    refine ⟨c, ?_, by simp only [RepS]; exact c2⟩
    simp only [execOp, e1, e2, Instr.index, asIntOf, Sem.run_bind, Sem.run_pure, Result.andThen_ok, run_underlying ht]
    rw [if_pos ⟨h0, hi⟩]
    simp [part, run_isAgg_one hs, run_sizeOf hinf, hsz, c1]
def isIfc (P : Program) (t : TypeId) : Bool := match P.underlying t with
  | some (.interface _) => true
  | _ => false
theorem isIfc_spec {P : Program} {t : TypeId} (h : isIfc P t = true) : ∃ ms, P.underlying t = some (.interface ms) := by
  unfold isIfc at h
  split at h
  · rename_i ms e; exact ⟨ms, e⟩
  · cases h
theorem L_ifc {t' : TypeId} {id : Nat} {neg : Bool} (hx : okc x (.one (.ar id))) (ht : isIfc P t = true) :
    Snd P ⟨d, .binOp (if neg = true then .neq else .eql) t x (.const .nilIface) t', ty, ps, af, g⟩ (rq x (.one (.ar id))) [(id, .ifc)] [] (Bo neg) [] :=
  snd_quiet fun C st M ρ a w hH h1 hT => by
    obtain ⟨ms, ht⟩ := isIfc_spec ht
    have e1 := hH.evS (ev_of hx h1)
    simp only [RepS, RepV] at e1
    obtain ⟨te, pe, hv⟩ := hH.tabs.res id _ hT.1
    rw [hv] at e1
    have h : ∀ q : Nat, (Op.equalIn (q + 1) t (.iface te pe) .nilIface).run P w = .ok false w := fun q => by simp [Op.equalIn, run_underlying ht]
    have e0 : a.eval (.const .nilIface) = .nilIface := rfl
    refine ⟨.bool neg, ?_, repB neg⟩
    cases neg with
    | true =>
      simp only [execOp, if_true, e1.1, e0, Sem.run_bind]
      simp [eqGuard, binOp, Op.equal, Op.maxDepth, h 9999, Sem.run_pure]
    | false =>
      simp only [execOp, Bool.false_eq_true, if_false, e1.1, e0, Sem.run_bind]
      simp [eqGuard, binOp, Op.equal, Op.maxDepth, h 9999, Sem.run_pure]
theorem L_ifn {t' : TypeId} {neg : Bool} (hx : okc x (.one (.p (.k .nilIface)))) (ht : isIfc P t = true) :
    Snd P ⟨d, .binOp (if neg = true then .neq else .eql) t x (.const .nilIface) t', ty, ps, af, g⟩ (rq x (.one (.p (.k .nilIface)))) [] [] (Bo (!neg)) [] :=
  snd_quiet fun C st M ρ a w hH h1 hT => by
    obtain ⟨ms, ht⟩ := isIfc_spec ht
    have e1 := hH.evS (ev_of hx h1)
    simp only [RepS, RepV, RepPV] at e1
    have h : ∀ q : Nat, (Op.equalIn (q + 1) t .nilIface .nilIface).run P w = .ok true w := fun q => by simp [Op.equalIn, run_underlying ht]
    have e0 : a.eval (.const .nilIface) = .nilIface := rfl
    refine ⟨.bool (!neg), ?_, repB (!neg)⟩
    cases neg with
    | true =>
      simp only [execOp, if_true, e1.1, e0, Sem.run_bind]
      simp [eqGuard, binOp, Op.equal, Op.maxDepth, h 9999, Sem.run_pure]
    | false =>
      simp only [execOp, Bool.false_eq_true, if_false, e1.1, e0, Sem.run_bind]
      simp [eqGuard, binOp, Op.equal, Op.maxDepth, h 9999, Sem.run_pure]
end
section
variable {P : Program} {C : Ctx} {k : List Frm} {n : Nat} {sl : Slots} {tab : Tab} {Q : Exit → St → Prop} {all : Array Oper} {rest : List Oper}
theorem g_slMid {d : Nat} {x y z : Operand} {t ty : TypeId} {ps : String} {af : Array Edge} {g0 : Option (Nat × Bool)} {gs : Slots} {md : Mode} (hC : C.low) {a : ByteArray} {i j : Int} {k0 k1 : IntKind}
    (hx : ev sl x = some (Sr a)) (hy : ev sl y = some (Kk k0 i)) (hz : ev sl z = some (Kk k1 j)) (ht : P.underlying t = some .string) (h0 : 0 ≤ i) (h1 : i ≤ j) (h2 : j ≤ a.size) (hm : metL all sl g0 = some gs) (hd : Nat.blt d n = true)
    (g : Goal P C (.ops all rest (nx md ⟨some d, gs ++ (rq x (Sr a) ++ rq y (Kk k0 i) ++ rq z (Kk k1 j)), [], [], Sr (a.extract i.toNat j.toNat), []⟩)) k n ((d, Sr (a.extract i.toNat j.toNat)) :: sl) tab Q) :
    Goal P C (.ops all (⟨some d, .slice t x (some y) (some z) none, ty, ps, af, g0⟩ :: rest) md) k n sl tab Q := by
  have e1 := of_ev (st := ⟨n, sl, tab⟩) hx
  have e2 := of_ev (st := ⟨n, sl, tab⟩) hy
  have e3 := of_ev (st := ⟨n, sl, tab⟩) hz
  have := metL_step hm (L_slMid (P := P) (ty := ty) (ps := ps) (af := af) (g := g0) (d := some d) (t := t) e1.1 e2.1 e3.1 ht h0 h1 h2) (n := n) (tab := tab)
  exact g_law (L := ⟨some d, gs ++ (rq x (Sr a) ++ rq y (Kk k0 i) ++ rq z (Kk k1 j)), [], [], Sr (a.extract i.toNat j.toNat), []⟩) hC this.1 rfl ⟨by rw [okS_append, okS_append, okS_append]; exact ⟨this.2, ⟨e1.2, e2.2⟩, e3.2⟩, trivial, rfl, hd⟩ g
theorem g_index1 {d : Nat} {x y : Operand} {t ty : TypeId} {ps : String} {af : Array Edge} {g0 : Option (Nat × Bool)} {gs : Slots} {md : Mode} (hC : C.low) {vs : List V} {len : Nat} {el : TypeId} {k0 : IntKind} {i : Int} {v : V}
    (hx : ev sl x = some (.agg vs)) (hy : ev sl y = some (Kk k0 i)) (ht : P.underlying t = some (.array len el)) (he : (P.info? el).map (·.size) = some 1) (hs : shp P el = some none) (h0 : 0 ≤ i) (hi : i < len) (hv : vs[i.toNat]? = some v) (hm : metL all sl g0 = some gs) (hd : Nat.blt d n = true)
    (g : Goal P C (.ops all rest (nx md ⟨some d, gs ++ (rq x (.agg vs) ++ rq y (Kk k0 i)), [], [], .one v, []⟩)) k n ((d, .one v) :: sl) tab Q) :
    Goal P C (.ops all (⟨some d, .index t x y, ty, ps, af, g0⟩ :: rest) md) k n sl tab Q := by
  have e1 := of_ev (st := ⟨n, sl, tab⟩) hx
  have e2 := of_ev (st := ⟨n, sl, tab⟩) hy
  have := metL_step hm (L_index1 (P := P) (ty := ty) (ps := ps) (af := af) (g := g0) (d := some d) (t := t) e1.1 e2.1 ht he hs h0 hi hv) (n := n) (tab := tab)
  exact g_law (L := ⟨some d, gs ++ (rq x (.agg vs) ++ rq y (Kk k0 i)), [], [], .one v, []⟩) hC this.1 rfl ⟨by rw [okS_append, okS_append]; exact ⟨this.2, e1.2, e2.2⟩, trivial, rfl, hd⟩ g
theorem g_ifcE {d : Nat} {x : Operand} {t t' ty : TypeId} {ps : String} {af : Array Edge} {g0 : Option (Nat × Bool)} {gs : Slots} {md : Mode} (hC : C.low) {id : Nat}
    (hx : ev sl x = some (.one (.ar id))) (hT : tg tab id = some .ifc) (ht : isIfc P t = true) (hm : metL all sl g0 = some gs) (hd : Nat.blt d n = true)
    (g : Goal P C (.ops all rest (nx md ⟨some d, gs ++ rq x (.one (.ar id)), [(id, .ifc)], [], Bo false, []⟩)) k n ((d, Bo false) :: sl) tab Q) :
    Goal P C (.ops all (⟨some d, .binOp .eql t x (.const .nilIface) t', ty, ps, af, g0⟩ :: rest) md) k n sl tab Q := by
  have e1 := of_ev (st := ⟨n, sl, tab⟩) hx
  have := metL_step hm (L_ifc (P := P) (neg := false) (ty := ty) (ps := ps) (af := af) (g := g0) (d := some d) (t' := t') e1.1 ht) (n := n) (tab := tab)
  exact g_law (L := ⟨some d, gs ++ rq x (.one (.ar id)), [(id, .ifc)], [], Bo false, []⟩) hC this.1 rfl ⟨by rw [okS_append]; exact ⟨this.2, e1.2⟩, ⟨hT, trivial⟩, rfl, hd⟩ g
theorem g_ifnE {d : Nat} {x : Operand} {t t' ty : TypeId} {ps : String} {af : Array Edge} {g0 : Option (Nat × Bool)} {gs : Slots} {md : Mode} (hC : C.low)
    (hx : ev sl x = some (.one (.p (.k .nilIface)))) (ht : isIfc P t = true) (hm : metL all sl g0 = some gs) (hd : Nat.blt d n = true)
    (g : Goal P C (.ops all rest (nx md ⟨some d, gs ++ rq x (.one (.p (.k .nilIface))), [], [], Bo true, []⟩)) k n ((d, Bo true) :: sl) tab Q) :
    Goal P C (.ops all (⟨some d, .binOp .eql t x (.const .nilIface) t', ty, ps, af, g0⟩ :: rest) md) k n sl tab Q := by
  have e1 := of_ev (st := ⟨n, sl, tab⟩) hx
  have := metL_step hm (L_ifn (P := P) (neg := false) (ty := ty) (ps := ps) (af := af) (g := g0) (d := some d) (t' := t') e1.1 ht) (n := n) (tab := tab)
  exact g_law (L := ⟨some d, gs ++ rq x (.one (.p (.k .nilIface))), [], [], Bo true, []⟩) hC this.1 rfl ⟨by rw [okS_append]; exact ⟨this.2, e1.2⟩, trivial, rfl, hd⟩ g
end
end Hw
/- The engine, part BV: a function with first arguments bound (a method's value). -/
namespace Hw
open Go
section
variable {P : Program} {d : Option Nat} {ty : TypeId} {ps : String} {af : Array Edge} {g : Option (Nat × Bool)}
theorem L_makeFuncF {f : FuncId} {fs l : List Operand} {ssf ss : List S} {first caps : List V} (hf : okcs fs ssf) (hcf : onesOf ssf = some first) (hx : okcs l ss) (hc : onesOf ss = some caps) :
    Snd P ⟨d, .makeFunc (.func f) fs.toArray l.toArray, ty, ps, af, g⟩ (rqs fs ssf ++ rqs l ss) [] [] (.one (.cl f first caps)) [] :=
  snd_quiet fun C st M ρ a w hH h1 _ => by
    rw [okS_append] at h1
    have e := hH.evsS (evs_of hx h1.2)
    have e' := onesOf_spec hc e
    have e2 := hH.evsS (evs_of hf h1.1)
    have e2' := onesOf_spec hcf e2
    exact ⟨.func (.func f) (fs.map a.eval).toArray (l.map a.eval).toArray, by simp [execOp, Instr.makeFunc], by simp only [RepS, RepV]; exact ⟨fs.map a.eval, l.map a.eval, rfl, e2', e'⟩⟩
end
section
variable {P : Program} {C : Ctx} {k : List Frm} {n : Nat} {sl : Slots} {tab : Tab} {Q : Exit → St → Prop} {all : Array Oper} {rest : List Oper}
theorem g_mkF {d : Nat} {f : FuncId} {fs l : List Operand} {ty : TypeId} {ps : String} {af : Array Edge} {g0 : Option (Nat × Bool)} {gs : Slots} {md : Mode} (hC : C.low) {ssf ss : List S} {first caps : List V}
    (hf : evs sl fs = some ssf) (hcf : onesOf ssf = some first) (hx : evs sl l = some ss) (hc : onesOf ss = some caps) (hm : metL all sl g0 = some gs) (hd : Nat.blt d n = true)
    (g : Goal P C (.ops all rest (nx md ⟨some d, gs ++ (rqs fs ssf ++ rqs l ss), [], [], .one (.cl f first caps), []⟩)) k n ((d, .one (.cl f first caps)) :: sl) tab Q) :
    Goal P C (.ops all (⟨some d, .makeFunc (.func f) fs.toArray l.toArray, ty, ps, af, g0⟩ :: rest) md) k n sl tab Q := by
  have e1 := of_evs (st := ⟨n, sl, tab⟩) hf
  have e2 := of_evs (st := ⟨n, sl, tab⟩) hx
  have := metL_step hm (L_makeFuncF (P := P) (ty := ty) (ps := ps) (af := af) (g := g0) (d := some d) (f := f) e1.1 hcf e2.1 hc) (n := n) (tab := tab)
  exact g_law (L := ⟨some d, gs ++ (rqs fs ssf ++ rqs l ss), [], [], .one (.cl f first caps), []⟩) hC this.1 rfl ⟨by rw [okS_append, okS_append]; exact ⟨this.2, e1.2, e2.2⟩, trivial, rfl, hd⟩ g
end
end Hw
