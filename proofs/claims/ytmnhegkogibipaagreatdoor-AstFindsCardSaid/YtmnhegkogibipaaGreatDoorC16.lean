/- The engine and the contracts. -/
import Derived.Test.YtmnhegkogibipaaGreatDoorC15
import Derived.Test.YtmnhegkogibipaaGreatDoorC14
set_option linter.unusedVariables false
set_option linter.unusedSimpArgs false
namespace Hw.Z
open Go Go.Proofs Hw.M

/-! AstFinds: indices of names -/
theorem idxR_of {α σ : Type} (p : α → Bool) : ∀ (l : List α) (k : Nat) (s : σ), ∃ i : Int, idxR (fun x _ => p x) (fun _ s => s) l k s = (i, s) ∧ ((idxOf p l = -1 ∧ i = -1) ∨ ∃ n : Nat, idxOf p l = (n : Int) ∧ i = (k : Int) + n)
  | [], k, s => ⟨-1, rfl, .inl ⟨rfl, rfl⟩⟩
  | x :: r, k, s => by
    cases h : p x with
    | true => exact ⟨k, by simp only [idxR, h, if_true], .inr ⟨0, by simp only [idxOf, h, if_true]; rfl, by simp⟩⟩
    | false =>
      obtain ⟨i, e1, e2⟩ := idxR_of p r (k + 1) s
      refine ⟨i, by simp only [idxR, h, Bool.false_eq_true, if_false]; exact e1, ?_⟩
      rcases e2 with ⟨e2, e3⟩ | ⟨n, e2, e3⟩
      · exact .inl ⟨by simp only [idxOf, h, Bool.false_eq_true, if_false, e2]; rfl, e3⟩
      · exact .inr ⟨n + 1, by simp only [idxOf, h, Bool.false_eq_true, if_false, e2]; rfl, by rw [e3]; omega⟩
theorem idxR_zero {α σ : Type} (p : α → Bool) (l : List α) (s : σ) : idxR (fun x _ => p x) (fun _ s => s) l 0 s = (idxOf p l, s) := by
  obtain ⟨i, e1, e2⟩ := idxR_of p l 0 s
  rw [e1]
  rcases e2 with ⟨e2, e3⟩ | ⟨n, e2, e3⟩
  · rw [e2, e3]
  · rw [e2, e3]; simp
theorem typeX_idx (f : FuncId)  (l : List NodeT) (p : NodeT → Str → Bool) (nx : NodeT → Str → Str) (inv : Str → Prop)
    (hf : ∀ x ∈ l, ∀ s : Str, inv s → FnOK Tryz.prog f [aggS (nodeTR x), .one (.bx 0 0)] [(0, .box [.p (ks s)])] (.bq (p x s)) ((fun s : Str => [(0, .box [.p (ks s)])]) (nx x s)) ∧ (p x s = false → inv (nx x s))) (s : Str) (hs : inv s) :
    FnOK Tryz.prog 116 [pS (.sl 2 (l.map nodeTR)), .one (.cl f [] [.bx 0 0])] [(0, .box [.p (ks s)])] (I (idxR p nx l 0 s).1) ((fun s : Str => [(0, .box [.p (ks s)])]) (idxR p nx l 0 s).2) := by
  refine fn_ok T Tryz.func116 (by kernel_rfl) rfl rfl rfl rfl fun C hC => ?_
  have hs0 := hs
  refine g_len 0 rfl fun hl => ?_
  rw [List.length_map] at hl
  repeat' first
    | refine g_go T hC true 400 rfl rfl ?_
    | refine g_cond rfl (fun h => ?_) (fun h => ?_)
    | refine g_end T hC (by kernel_rfl) ?_
    | refine g_splitD (fun h => ?_) (fun h => ?_)
    | refine g_splitG rfl rfl rfl (fun h => ?_) (fun h => ?_)
    | refine g_splitP rfl rfl (fun h => ?_) (fun h => ?_)
  rw [List.length_map]
  refine g_loop (fun q : Nat × Str => q.1 ≤ l.length ∧ inv q.2 ∧ idxR p nx (l.drop q.1) q.1 q.2 = idxR p nx l 0 s) (fun q => (fun s : Str => ([(0, pS (.sl 2 (l.map nodeTR))), (1, .one (.cl f [] [.bx 0 0])), (7, I l.length), (8, I q.1)], [(0, some (.box [.p (ks s)]))])) q.2) (fun q => l.length - q.1) hC
    (0, s) ⟨Nat.zero_le _, hs, rfl⟩ id ⟨rfl, ⟨rfl, rfl, rfl, rfl, trivial⟩, ⟨rfl, trivial⟩, rfl, fun _ _ => rfl⟩ ?_
  generalize idxR p nx l 0 s = res
  clear hs hs0
  rintro ⟨i, s⟩ ⟨hi, hv, hn⟩
  simp only at hi hv hn
  refine g_run' T hC true 200 rfl ?_
  refine g_cond rfl (fun hh => ?_) (fun hh => ?_)
  · have hlt : i < l.length := by simpa using hh
    clear hh
    obtain ⟨x, hx⟩ := exists_at hlt
    rw [drop_at hx] at hn
    simp only [idxR] at hn
    have hv2 := (hf x (List.mem_of_getElem? hx) s hv).2
    repeat' first
      | refine g_go T hC true 400 rfl rfl ?_
      | refine g_cond rfl (fun h => ?_) (fun h => ?_)
      | refine g_end T hC (by kernel_rfl) ?_
      | refine g_splitD (fun h => ?_) (fun h => ?_)
      | refine g_splitG rfl rfl rfl (fun h => ?_) (fun h => ?_)
      | refine g_splitP rfl rfl (fun h => ?_) (fun h => ?_)
      | refine g_idx T hC rfl rfl rfl (Int.natCast_nonneg _) (map_at hx) rfl rfl ?_
      | refine g_callR hC (hf x (List.mem_of_getElem? hx) s hv).1 id rfl rfl (LeSs.refl _) rfl rfl rfl rfl rfl rfl rfl rfl ?_
      | refine g_outR ?_
    · rw [if_pos (by assumption)] at hn
      subst hn
      exact g_fin ⟨.inl rfl, id, _, rfl, .refl _, ⟨rfl, trivial⟩, rfl, rfl⟩
    · have hpf : p x s = false := by assumption
      rw [hpf] at hn
      simp only [Bool.false_eq_true, if_false] at hn
      rw [wrap64 (by omega)]
      exact g_round (i + 1, nx x s) ⟨by simp only; omega, hv2 hpf, hn⟩ id (by simp only; omega) ⟨rfl, ⟨rfl, rfl, rfl, rfl, trivial⟩, ⟨rfl, trivial⟩, rfl, fun _ _ => rfl⟩
  · have hge : ¬ i < l.length := by simpa using hh
    rw [List.drop_eq_nil_of_le (by omega)] at hn
    simp only [idxR] at hn
    subst hn
    repeat' first
      | refine g_go T hC true 400 rfl rfl ?_
      | refine g_cond rfl (fun h => ?_) (fun h => ?_)
      | refine g_end T hC (by kernel_rfl) ?_
      | refine g_splitD (fun h => ?_) (fun h => ?_)
      | refine g_splitG rfl rfl rfl (fun h => ?_) (fun h => ?_)
      | refine g_splitP rfl rfl (fun h => ?_) (fun h => ?_)
      | refine g_outE ?_
    exact g_fin ⟨.inl rfl, id, _, rfl, .refl _, ⟨rfl, trivial⟩, rfl, rfl⟩
theorem typeX_has (f : FuncId)  (l : List NodeT) (p : NodeT → Str → Bool) (nx : NodeT → Str → Str) (inv : Str → Prop)
    (hf : ∀ x ∈ l, ∀ s : Str, inv s → FnOK Tryz.prog f [aggS (nodeTR x), .one (.bx 0 0)] [(0, .box [.p (ks s)])] (.bq (p x s)) ((fun s : Str => [(0, .box [.p (ks s)])]) (nx x s)) ∧ (p x s = false → inv (nx x s))) (s : Str) (hs : inv s) :
    FnOK Tryz.prog 104 [pS (.sl 2 (l.map nodeTR)), .one (.cl f [] [.bx 0 0])] [(0, .box [.p (ks s)])] (.bq (anyR p nx l s).1) ((fun s : Str => [(0, .box [.p (ks s)])]) (anyR p nx l s).2) := by
  refine fn_ok T Tryz.func104 (by kernel_rfl) rfl rfl rfl rfl fun C hC => ?_
  repeat' first
    | refine g_go T hC true 400 rfl rfl ?_
    | refine g_cond rfl (fun h => ?_) (fun h => ?_)
    | refine g_end T hC (by kernel_rfl) ?_
    | refine g_splitD (fun h => ?_) (fun h => ?_)
    | refine g_splitG rfl rfl rfl (fun h => ?_) (fun h => ?_)
    | refine g_splitP rfl rfl (fun h => ?_) (fun h => ?_)
    | refine g_callR hC (typeX_idx f  l p nx inv hf s hs) (nm [0]) rfl rfl (LeSs.refl _) rfl rfl rfl rfl rfl rfl rfl rfl ?_
  exact g_fin ⟨.inl rfl, id, _, rfl, .qq (anyR_1 p nx l 0 s), by rw [← anyR_2 p nx l 0 s]; exact ⟨rfl, trivial⟩, rfl, rfl⟩

theorem fieldX_idx (f : FuncId)  (l : List Fld) (p : Fld → Str → Bool) (nx : Fld → Str → Str) (inv : Str → Prop)
    (hf : ∀ x ∈ l, ∀ s : Str, inv s → FnOK Tryz.prog f [aggS (fieldR x), .one (.bx 0 0)] [(0, .box [.p (ks s)])] (.bq (p x s)) ((fun s : Str => [(0, .box [.p (ks s)])]) (nx x s)) ∧ (p x s = false → inv (nx x s))) (s : Str) (hs : inv s) :
    FnOK Tryz.prog 118 [pS (.sl 2 (l.map fieldR)), .one (.cl f [] [.bx 0 0])] [(0, .box [.p (ks s)])] (I (idxR p nx l 0 s).1) ((fun s : Str => [(0, .box [.p (ks s)])]) (idxR p nx l 0 s).2) := by
  refine fn_ok T Tryz.func118 (by kernel_rfl) rfl rfl rfl rfl fun C hC => ?_
  have hs0 := hs
  refine g_len 0 rfl fun hl => ?_
  rw [List.length_map] at hl
  repeat' first
    | refine g_go T hC true 400 rfl rfl ?_
    | refine g_cond rfl (fun h => ?_) (fun h => ?_)
    | refine g_end T hC (by kernel_rfl) ?_
    | refine g_splitD (fun h => ?_) (fun h => ?_)
    | refine g_splitG rfl rfl rfl (fun h => ?_) (fun h => ?_)
    | refine g_splitP rfl rfl (fun h => ?_) (fun h => ?_)
  rw [List.length_map]
  refine g_loop (fun q : Nat × Str => q.1 ≤ l.length ∧ inv q.2 ∧ idxR p nx (l.drop q.1) q.1 q.2 = idxR p nx l 0 s) (fun q => (fun s : Str => ([(0, pS (.sl 2 (l.map fieldR))), (1, .one (.cl f [] [.bx 0 0])), (7, I l.length), (8, I q.1)], [(0, some (.box [.p (ks s)]))])) q.2) (fun q => l.length - q.1) hC
    (0, s) ⟨Nat.zero_le _, hs, rfl⟩ id ⟨rfl, ⟨rfl, rfl, rfl, rfl, trivial⟩, ⟨rfl, trivial⟩, rfl, fun _ _ => rfl⟩ ?_
  generalize idxR p nx l 0 s = res
  clear hs hs0
  rintro ⟨i, s⟩ ⟨hi, hv, hn⟩
  simp only at hi hv hn
  refine g_run' T hC true 200 rfl ?_
  refine g_cond rfl (fun hh => ?_) (fun hh => ?_)
  · have hlt : i < l.length := by simpa using hh
    clear hh
    obtain ⟨x, hx⟩ := exists_at hlt
    rw [drop_at hx] at hn
    simp only [idxR] at hn
    have hv2 := (hf x (List.mem_of_getElem? hx) s hv).2
    repeat' first
      | refine g_go T hC true 400 rfl rfl ?_
      | refine g_cond rfl (fun h => ?_) (fun h => ?_)
      | refine g_end T hC (by kernel_rfl) ?_
      | refine g_splitD (fun h => ?_) (fun h => ?_)
      | refine g_splitG rfl rfl rfl (fun h => ?_) (fun h => ?_)
      | refine g_splitP rfl rfl (fun h => ?_) (fun h => ?_)
      | refine g_idx T hC rfl rfl rfl (Int.natCast_nonneg _) (map_at hx) rfl rfl ?_
      | refine g_callR hC (hf x (List.mem_of_getElem? hx) s hv).1 id rfl rfl (LeSs.refl _) rfl rfl rfl rfl rfl rfl rfl rfl ?_
      | refine g_outR ?_
    · rw [if_pos (by assumption)] at hn
      subst hn
      exact g_fin ⟨.inl rfl, id, _, rfl, .refl _, ⟨rfl, trivial⟩, rfl, rfl⟩
    · have hpf : p x s = false := by assumption
      rw [hpf] at hn
      simp only [Bool.false_eq_true, if_false] at hn
      rw [wrap64 (by omega)]
      exact g_round (i + 1, nx x s) ⟨by simp only; omega, hv2 hpf, hn⟩ id (by simp only; omega) ⟨rfl, ⟨rfl, rfl, rfl, rfl, trivial⟩, ⟨rfl, trivial⟩, rfl, fun _ _ => rfl⟩
  · have hge : ¬ i < l.length := by simpa using hh
    rw [List.drop_eq_nil_of_le (by omega)] at hn
    simp only [idxR] at hn
    subst hn
    repeat' first
      | refine g_go T hC true 400 rfl rfl ?_
      | refine g_cond rfl (fun h => ?_) (fun h => ?_)
      | refine g_end T hC (by kernel_rfl) ?_
      | refine g_splitD (fun h => ?_) (fun h => ?_)
      | refine g_splitG rfl rfl rfl (fun h => ?_) (fun h => ?_)
      | refine g_splitP rfl rfl (fun h => ?_) (fun h => ?_)
      | refine g_outE ?_
    exact g_fin ⟨.inl rfl, id, _, rfl, .refl _, ⟨rfl, trivial⟩, rfl, rfl⟩
theorem fieldX_has (f : FuncId)  (l : List Fld) (p : Fld → Str → Bool) (nx : Fld → Str → Str) (inv : Str → Prop)
    (hf : ∀ x ∈ l, ∀ s : Str, inv s → FnOK Tryz.prog f [aggS (fieldR x), .one (.bx 0 0)] [(0, .box [.p (ks s)])] (.bq (p x s)) ((fun s : Str => [(0, .box [.p (ks s)])]) (nx x s)) ∧ (p x s = false → inv (nx x s))) (s : Str) (hs : inv s) :
    FnOK Tryz.prog 111 [pS (.sl 2 (l.map fieldR)), .one (.cl f [] [.bx 0 0])] [(0, .box [.p (ks s)])] (.bq (anyR p nx l s).1) ((fun s : Str => [(0, .box [.p (ks s)])]) (anyR p nx l s).2) := by
  refine fn_ok T Tryz.func111 (by kernel_rfl) rfl rfl rfl rfl fun C hC => ?_
  repeat' first
    | refine g_go T hC true 400 rfl rfl ?_
    | refine g_cond rfl (fun h => ?_) (fun h => ?_)
    | refine g_end T hC (by kernel_rfl) ?_
    | refine g_splitD (fun h => ?_) (fun h => ?_)
    | refine g_splitG rfl rfl rfl (fun h => ?_) (fun h => ?_)
    | refine g_splitP rfl rfl (fun h => ?_) (fun h => ?_)
    | refine g_callR hC (fieldX_idx f  l p nx inv hf s hs) (nm [0]) rfl rfl (LeSs.refl _) rfl rfl rfl rfl rfl rfl rfl rfl ?_
  exact g_fin ⟨.inl rfl, id, _, rfl, .qq (anyR_1 p nx l 0 s), by rw [← anyR_2 p nx l 0 s]; exact ⟨rfl, trivial⟩, rfl, rfl⟩

theorem fIndex_ok (i : Int) : FnOK Tryz.prog 115 [I i] [] (.tup [I (if i < 0 then 0 else i), I (if i < 0 then 12 else 0)]) [] := by
  by_cases h0 : i < 0
  · rw [if_pos h0, if_pos h0]
    refine fn_ok T Tryz.func115 (by kernel_rfl) rfl rfl rfl rfl fun C hC => ?_
    repeat' first
      | refine g_go T hC true 400 rfl rfl ?_
      | refine g_cond rfl (fun h => ?_) (fun h => ?_)
      | refine g_end T hC (by kernel_rfl) ?_
      | refine g_splitD (fun h => ?_) (fun h => ?_)
      | refine g_splitG rfl rfl rfl (fun h => ?_) (fun h => ?_)
      | refine g_splitP rfl rfl (fun h => ?_) (fun h => ?_)
    all_goals first
      | exact g_fin ⟨.inl rfl, id, _, rfl, .refl _, trivial, rfl, rfl⟩
      | (exfalso; simp_all; done)
      | (exfalso; simp only [decide_eq_true_eq, decide_eq_false_iff_not] at *; omega)
  · rw [if_neg h0, if_neg h0]
    refine fn_ok T Tryz.func115 (by kernel_rfl) rfl rfl rfl rfl fun C hC => ?_
    repeat' first
      | refine g_go T hC true 400 rfl rfl ?_
      | refine g_cond rfl (fun h => ?_) (fun h => ?_)
      | refine g_end T hC (by kernel_rfl) ?_
      | refine g_splitD (fun h => ?_) (fun h => ?_)
      | refine g_splitG rfl rfl rfl (fun h => ?_) (fun h => ?_)
      | refine g_splitP rfl rfl (fun h => ?_) (fun h => ?_)
    all_goals first
      | exact g_fin ⟨.inl rfl, id, _, rfl, .refl _, trivial, rfl, rfl⟩
      | (exfalso; simp_all; done)
      | (exfalso; simp only [decide_eq_true_eq, decide_eq_false_iff_not] at *; omega)
theorem typeIx1_ok (x : NodeT) (s : Str) : FnOK Tryz.prog 117 [aggS (nodeTR x), .one (.bx 0 0)] [(0, .box [.p (ks s)])] (.bq (decide (x.n = s))) [(0, .box [.p (ks s)])] := by
  refine fn_ok T Tryz.func117 (by kernel_rfl) rfl rfl rfl rfl fun C hC => ?_
  repeat' first
    | refine g_go T hC true 400 rfl rfl ?_
    | refine g_cond rfl (fun h => ?_) (fun h => ?_)
    | refine g_end T hC (by kernel_rfl) ?_
    | refine g_splitD (fun h => ?_) (fun h => ?_)
    | refine g_splitG rfl rfl rfl (fun h => ?_) (fun h => ?_)
    | refine g_splitP rfl rfl (fun h => ?_) (fun h => ?_)
  all_goals exact g_fin ⟨.inl rfl, id, _, rfl, .refl _, ⟨rfl, trivial⟩, rfl, rfl⟩
theorem fieldIx1_ok (x : Fld) (s : Str) : FnOK Tryz.prog 119 [aggS (fieldR x), .one (.bx 0 0)] [(0, .box [.p (ks s)])] (.bq (decide (x.n = s))) [(0, .box [.p (ks s)])] := by
  refine fn_ok T Tryz.func119 (by kernel_rfl) rfl rfl rfl rfl fun C hC => ?_
  repeat' first
    | refine g_go T hC true 400 rfl rfl ?_
    | refine g_cond rfl (fun h => ?_) (fun h => ?_)
    | refine g_end T hC (by kernel_rfl) ?_
    | refine g_splitD (fun h => ?_) (fun h => ?_)
    | refine g_splitG rfl rfl rfl (fun h => ?_) (fun h => ?_)
    | refine g_splitP rfl rfl (fun h => ?_) (fun h => ?_)
  all_goals exact g_fin ⟨.inl rfl, id, _, rfl, .refl _, ⟨rfl, trivial⟩, rfl, rfl⟩
def fldIdx (l : List Fld) (s : Str) : Int := idxOf (fun t => decide (t.n = s)) l
def prcIdx (d : Desc) (s : Str) : Int := idxOf (fun t => decide (t.n = s)) d.procs
theorem fieldIndex_ok (t : NodeT) (s : Str) : FnOK Tryz.prog 53 [aggS (nodeTR t), Sr s] [] (.tup [I (if fldIdx t.f s < 0 then 0 else fldIdx t.f s), I (if fldIdx t.f s < 0 then 12 else 0)]) [] := by
  have hF := fieldX_idx 119 t.f (fun x _ => decide (x.n = s)) (fun _ s => s) (fun c => c = s) (fun x hx c hc => ⟨by subst hc; exact fieldIx1_ok x c, fun _ => hc⟩) s rfl
  rw [idxR_zero] at hF
  have hI := fIndex_ok (fldIdx t.f s)
  refine fn_ok T Tryz.func53 (by kernel_rfl) rfl rfl rfl rfl fun C hC => ?_
  repeat' first
    | refine g_go T hC true 400 rfl rfl ?_
    | refine g_cond rfl (fun h => ?_) (fun h => ?_)
    | refine g_end T hC (by kernel_rfl) ?_
    | refine g_splitD (fun h => ?_) (fun h => ?_)
    | refine g_splitG rfl rfl rfl (fun h => ?_) (fun h => ?_)
    | refine g_splitP rfl rfl (fun h => ?_) (fun h => ?_)
    | refine g_callR hC (hF) (nm [1003]) rfl rfl (LeSs.refl _) rfl rfl rfl rfl rfl rfl rfl rfl ?_
    | refine g_call hC (hI) rfl rfl (LeSs.refl _) rfl rfl rfl ?_
  exact g_fin ⟨.inl rfl, id, _, rfl, .refl _, trivial, rfl, rfl⟩
theorem typeIndexA_no {d : Desc} (s : Str) (h : validD d = false) : FnOK Tryz.prog 52 [aggS (descR d), Sr s] [] (.tup [I 0, I 1]) [] := by
  have hV := astValid_ok d
  rw [h] at hV
  refine fn_ok T Tryz.func52 (by kernel_rfl) rfl rfl rfl rfl fun C hC => ?_
  repeat' first
    | refine g_go T hC true 400 rfl rfl ?_
    | refine g_cond rfl (fun h => ?_) (fun h => ?_)
    | refine g_end T hC (by kernel_rfl) ?_
    | refine g_splitD (fun h => ?_) (fun h => ?_)
    | refine g_splitG rfl rfl rfl (fun h => ?_) (fun h => ?_)
    | refine g_splitP rfl rfl (fun h => ?_) (fun h => ?_)
    | refine g_call hC (hV) rfl rfl (LeSs.refl _) rfl rfl rfl ?_
  all_goals first
    | exact g_fin ⟨.inl rfl, id, _, rfl, .refl _, trivial, rfl, rfl⟩
    | (exfalso; simp_all; done)
theorem typeIndexA_ok {d : Desc} (s : Str) (h : validD d = true) : FnOK Tryz.prog 52 [aggS (descR d), Sr s] [] (.tup [I (if tyIdx d s < 0 then 0 else tyIdx d s), I (if tyIdx d s < 0 then 12 else 0)]) [] := by
  have hV := astValid_ok d
  rw [h] at hV
  have hF := typeX_idx 117 d.types (fun x _ => decide (x.n = s)) (fun _ s => s) (fun c => c = s) (fun x hx c hc => ⟨by subst hc; exact typeIx1_ok x c, fun _ => hc⟩) s rfl
  rw [idxR_zero] at hF
  have hI := fIndex_ok (tyIdx d s)
  refine fn_ok T Tryz.func52 (by kernel_rfl) rfl rfl rfl rfl fun C hC => ?_
  repeat' first
    | refine g_go T hC true 400 rfl rfl ?_
    | refine g_cond rfl (fun h => ?_) (fun h => ?_)
    | refine g_end T hC (by kernel_rfl) ?_
    | refine g_splitD (fun h => ?_) (fun h => ?_)
    | refine g_splitG rfl rfl rfl (fun h => ?_) (fun h => ?_)
    | refine g_splitP rfl rfl (fun h => ?_) (fun h => ?_)
    | refine g_call hC (hV) rfl rfl (LeSs.refl _) rfl rfl rfl ?_
    | refine g_callR hC (hF) (nm [1003]) rfl rfl (LeSs.refl _) rfl rfl rfl rfl rfl rfl rfl rfl ?_
    | refine g_call hC (hI) rfl rfl (LeSs.refl _) rfl rfl rfl ?_
  all_goals first
    | exact g_fin ⟨.inl rfl, id, _, rfl, .refl _, trivial, rfl, rfl⟩
    | (exfalso; simp_all; done)
theorem rFieldIndex_ok (l : List Fld) (s : Str) : FnOK Tryz.prog 58 [pS (fieldsP l), Sr s] [] (I (fldIdx l s)) [] := by
  refine fn_ok T Tryz.func58 (by kernel_rfl) rfl rfl rfl rfl fun C hC => ?_
  refine g_len 0 rfl fun hlen => ?_
  rw [List.length_map] at hlen
  repeat' first
    | refine g_go T hC true 400 rfl rfl ?_
    | refine g_cond rfl (fun h => ?_) (fun h => ?_)
    | refine g_end T hC (by kernel_rfl) ?_
    | refine g_splitD (fun h => ?_) (fun h => ?_)
    | refine g_splitG rfl rfl rfl (fun h => ?_) (fun h => ?_)
    | refine g_splitP rfl rfl (fun h => ?_) (fun h => ?_)
  refine g_loop (fun i : Nat => i ≤ l.length ∧ (l.take i).any (fun t => decide (t.n = s)) = false) (fun i => ([(0, pS (fieldsP l)), (1, Sr s), (5, I i)], [])) (fun i => l.length - i) hC
    0 ⟨Nat.zero_le _, by simp⟩ id ⟨rfl, ⟨rfl, rfl, rfl, trivial⟩, trivial, rfl, fun _ _ => rfl⟩ ?_
  rintro i ⟨hi, hn⟩
  refine g_run' T hC true 200 rfl ?_
  refine g_cond rfl (fun h => ?_) (fun h => ?_)
  · have hlt : i < l.length := by simpa using h
    obtain ⟨x, hx⟩ := exists_at hlt
    repeat' first
      | refine g_go T hC true 400 rfl rfl ?_
      | refine g_cond rfl (fun h => ?_) (fun h => ?_)
      | refine g_end T hC (by kernel_rfl) ?_
      | refine g_splitD (fun h => ?_) (fun h => ?_)
      | refine g_splitG rfl rfl rfl (fun h => ?_) (fun h => ?_)
      | refine g_splitP rfl rfl (fun h => ?_) (fun h => ?_)
      | refine g_idx T hC rfl rfl rfl (Int.natCast_nonneg _) (map_at (by assumption)) rfl rfl ?_
      | refine g_outR ?_
      | refine g_reti T (.inl rfl) rfl ?_
    · exact (idxOf_at hx (by simpa using h) hn).symm
    · rw [wrap64 (by omega)]
      refine g_round (i + 1) ⟨by omega, ?_⟩ id (by omega) ⟨rfl, ⟨rfl, rfl, rfl, trivial⟩, trivial, rfl, fun _ _ => rfl⟩
      rw [any_take hx, hn, Bool.false_or]; simpa using h
  · have hge : ¬ i < l.length := by simpa using h
    repeat' first
      | refine g_go T hC true 400 rfl rfl ?_
      | refine g_cond rfl (fun h => ?_) (fun h => ?_)
      | refine g_end T hC (by kernel_rfl) ?_
      | refine g_splitD (fun h => ?_) (fun h => ?_)
      | refine g_splitG rfl rfl rfl (fun h => ?_) (fun h => ?_)
      | refine g_splitP rfl rfl (fun h => ?_) (fun h => ?_)
      | refine g_outE ?_
      | refine g_reti T (.inl rfl) rfl ?_
    exact (idxOf_no (any_end (by omega) hn)).symm
theorem rProcIndex_ok (d : Desc) (s : Str) : FnOK Tryz.prog 60 [aggS (descR d), Sr s] [] (I (prcIdx d s)) [] := by
  refine fn_ok T Tryz.func60 (by kernel_rfl) rfl rfl rfl rfl fun C hC => ?_
  refine g_lenA rfl 0 3 rfl rfl fun hlen => ?_
  rw [List.length_map] at hlen
  repeat' first
    | refine g_go T hC true 400 rfl rfl ?_
    | refine g_cond rfl (fun h => ?_) (fun h => ?_)
    | refine g_end T hC (by kernel_rfl) ?_
    | refine g_splitD (fun h => ?_) (fun h => ?_)
    | refine g_splitG rfl rfl rfl (fun h => ?_) (fun h => ?_)
    | refine g_splitP rfl rfl (fun h => ?_) (fun h => ?_)
  refine g_loop (fun i : Nat => i ≤ d.procs.length ∧ (d.procs.take i).any (fun t => decide (t.n = s)) = false) (fun i => ([(1, Sr s), (2, .one (.bx 1002 0)), (5, I i)], [(1002, some (.box ((descR d).map V.p)))])) (fun i => d.procs.length - i) hC
    0 ⟨Nat.zero_le _, by simp⟩ id ⟨rfl, ⟨rfl, rfl, rfl, trivial⟩, ⟨rfl, trivial⟩, rfl, fun _ _ => rfl⟩ ?_
  rintro i ⟨hi, hn⟩
  refine g_run' T hC true 200 rfl ?_
  refine g_cond rfl (fun h => ?_) (fun h => ?_)
  · have hlt : i < d.procs.length := by simpa using h
    obtain ⟨x, hx⟩ := exists_at hlt
    repeat' first
      | refine g_go T hC true 400 rfl rfl ?_
      | refine g_cond rfl (fun h => ?_) (fun h => ?_)
      | refine g_end T hC (by kernel_rfl) ?_
      | refine g_splitD (fun h => ?_) (fun h => ?_)
      | refine g_splitG rfl rfl rfl (fun h => ?_) (fun h => ?_)
      | refine g_splitP rfl rfl (fun h => ?_) (fun h => ?_)
      | refine g_idx T hC rfl rfl rfl (Int.natCast_nonneg _) (map_at (by assumption)) rfl rfl ?_
      | refine g_outR ?_
      | refine g_reti T (.inl rfl) rfl ?_
    · exact (idxOf_at hx (by simpa using h) hn).symm
    · rw [wrap64 (by omega)]
      refine g_round (i + 1) ⟨by omega, ?_⟩ id (by omega) ⟨rfl, ⟨rfl, rfl, rfl, trivial⟩, ⟨rfl, trivial⟩, rfl, fun _ _ => rfl⟩
      rw [any_take hx, hn, Bool.false_or]; simpa using h
  · have hge : ¬ i < d.procs.length := by simpa using h
    repeat' first
      | refine g_go T hC true 400 rfl rfl ?_
      | refine g_cond rfl (fun h => ?_) (fun h => ?_)
      | refine g_end T hC (by kernel_rfl) ?_
      | refine g_splitD (fun h => ?_) (fun h => ?_)
      | refine g_splitG rfl rfl rfl (fun h => ?_) (fun h => ?_)
      | refine g_splitP rfl rfl (fun h => ?_) (fun h => ?_)
      | refine g_outE ?_
      | refine g_reti T (.inl rfl) rfl ?_
    exact (idxOf_no (any_end (by omega) hn)).symm
end Hw.Z
namespace Hw.Z
open Go Go.Proofs Hw.M

/-! AstFinds: copies -/
def mvU (a b i : Nat) : Nat := match Nat.beq i a with
  | true => b
  | false => i
theorem mvU_low {a b i : Nat} (ha : 100 ≤ a) (hi : i < 100) : mvU a b i = i := by
  unfold mvU; rw [beq_ne (by omega)]
theorem take_snocU {α : Type} {l : List α} {i : Nat} {x : α} (h : l[i]? = some x) : l.take (i + 1) = l.take i ++ [x] := by
  rw [List.take_add_one, h]; rfl
mutual
/-- The lists of an expression are not too long. -/
def WX : Ex → Prop
  | .mk _ _ _ l => l.length ≤ 1000000 ∧ WXs l
def WXs : List Ex → Prop
  | [] => True
  | x :: r => WX x ∧ WXs r
end
theorem WXs_mem : ∀ {l : List Ex}, WXs l → ∀ x ∈ l, WX x
  | x :: r, h, y, hy => by
    simp only [WXs] at h
    rcases List.mem_cons.1 hy with rfl | hy
    · exact h.1
    · exact WXs_mem h.2 y hy
theorem WX.l {x : Ex} (h : WX x) : x.l.length ≤ 1000000 ∧ WXs x.l := by cases x; simp only [WX] at h; exact h
mutual
def WS : Sm → Prop
  | .mk _ _ e l els => (e.length ≤ 1000000 ∧ WXs e) ∧ (l.length ≤ 1000000 ∧ WSs l) ∧ els.length ≤ 1000000 ∧ WSs els
def WSs : List Sm → Prop
  | [] => True
  | x :: r => WS x ∧ WSs r
end
theorem WSs_mem : ∀ {l : List Sm}, WSs l → ∀ x ∈ l, WS x
  | x :: r, h, y, hy => by
    simp only [WSs] at h
    rcases List.mem_cons.1 hy with rfl | hy
    · exact h.1
    · exact WSs_mem h.2 y hy
theorem WS.l {x : Sm} (h : WS x) : (x.e.length ≤ 1000000 ∧ WXs x.e) ∧ (x.l.length ≤ 1000000 ∧ WSs x.l) ∧ x.els.length ≤ 1000000 ∧ WSs x.els := by cases x; simp only [WS] at h; exact h
theorem exprC_R (x : Ex) : exprC x = exprR x := (exprR_eq x).symm
theorem stmtC_R (x : Sm) : stmtC x = stmtR x := (stmtR_eq x).symm
theorem copyExprs_ok : ∀ (k : Nat) (l : List Ex), SizeOf.sizeOf l ≤ k → l.length ≤ 1000000 → WXs l → FnOK Tryz.prog 216 [pS (exprsP l)] [] (pS (exprsP l)) [] := by
  intro k
  induction k with
  | zero => intro l h; cases l <;> simp at h
  | succ k ih =>
  intro l hk hl hw
  refine fn_ok T Tryz.func216 (by kernel_rfl) rfl rfl rfl rfl fun C hC => ?_
  repeat' first
    | refine g_go T hC true 400 rfl rfl ?_
    | refine g_cond rfl (fun h => ?_) (fun h => ?_)
    | refine g_end T hC (by kernel_rfl) ?_
    | refine g_splitD (fun h => ?_) (fun h => ?_)
    | refine g_splitG rfl rfl rfl (fun h => ?_) (fun h => ?_)
    | refine g_splitP rfl rfl (fun h => ?_) (fun h => ?_)
  rw [List.length_map]
  refine g_adopt hC rfl 101 4 rfl [(3, .one (.ar 101))] ⟨⟨_, rfl, AdS.nil⟩, trivial⟩ [] trivial ?_
  refine g_loop (fun i : Nat => i ≤ l.length) (fun i => ([(3, .one (.ar 101)), (6, pS (exprsP l)), (7, I l.length), (8, I i)], [(101, some (Res.arr 4 ((l.take i).map exprR)))])) (fun i => l.length - i) hC
    0 (Nat.zero_le _) id ⟨rfl, ⟨rfl, rfl, rfl, rfl, trivial⟩, ⟨rfl, trivial⟩, rfl, fun _ _ => rfl⟩ ?_
  intro i hi
  refine g_run' T hC true 200 rfl ?_
  refine g_cond rfl (fun h => ?_) (fun h => ?_)
  rotate_left
  · have hge : ¬ i < l.length := by simpa using h
    rw [List.take_of_length_le (by omega)]
    repeat' first
      | refine g_go T hC true 400 rfl rfl ?_
      | refine g_cond rfl (fun h => ?_) (fun h => ?_)
      | refine g_end T hC (by kernel_rfl) ?_
      | refine g_splitD (fun h => ?_) (fun h => ?_)
      | refine g_splitG rfl rfl rfl (fun h => ?_) (fun h => ?_)
      | refine g_splitP rfl rfl (fun h => ?_) (fun h => ?_)
      | refine g_outE ?_
    refine g_freeze rfl (id := 101) (e := 4) (rows := l.map exprR) rfl [(2, pS (exprsP l))] ⟨⟨_, rfl, FrS.ar⟩, trivial⟩ [] trivial ?_
    exact g_fin ⟨.inl rfl, id, _, rfl, .refl _, trivial, rfl, rfl⟩
  have hlt : i < l.length := by simpa using h
  clear h
  obtain ⟨x, hx⟩ := exists_at hlt
  have hxm := List.mem_of_getElem? hx
  have hwx := (WXs_mem hw x hxm).l
  have hsz := List.sizeOf_lt_of_mem hxm
  have hR := ih x.l (by have : SizeOf.sizeOf x.l < SizeOf.sizeOf x := by cases x; simp only [Ex.l, Ex.mk.sizeOf_spec]; omega
                        omega) hwx.1 hwx.2
  have hal : ((l.take i).map exprR).length = i := by simp only [List.length_map, List.length_take]; omega
  have happ : (l.take i).map exprR ++ [exprC x] = (l.take (i + 1)).map exprR := by
    rw [take_snocU hx, List.map_append, exprC_R]; rfl
  repeat' first
    | refine g_go T hC true 400 rfl rfl ?_
    | refine g_cond rfl (fun h => ?_) (fun h => ?_)
    | refine g_end T hC (by kernel_rfl) ?_
    | refine g_splitD (fun h => ?_) (fun h => ?_)
    | refine g_splitG rfl rfl rfl (fun h => ?_) (fun h => ?_)
    | refine g_splitP rfl rfl (fun h => ?_) (fun h => ?_)
    | refine g_idx T hC rfl rfl rfl (Int.natCast_nonneg _) (map_atE hx) rfl rfl ?_
    | refine g_call hC (hR) rfl rfl (LeSs.refl _) rfl rfl rfl ?_
    | refine g_lit T hC rfl rfl rfl rfl rfl rfl rfl rfl rfl ?_
    | (refine g_append T 102 hC (rows := (l.take i).map exprR) (rows2 := [exprC x]) (rows3 := (l.take (i + 1)).map exprR) (bytes := 56) rfl rfl rfl rfl (SrcS.sl (T.es_ok _ _ rfl)) happ rfl rfl rfl (by kernel_rfl) (by rw [hal, List.length_singleton]; omega) (by rw [hal, List.length_singleton]; omega) rfl rfl rfl ?_)
  rw [wrapS (by omega)]
  exact g_round (i + 1) (by omega) (mvU 101 102) (by omega) ⟨rfl, ⟨rfl, rfl, rfl, rfl, trivial⟩, ⟨rfl, trivial⟩, rfl, fun i hi => mvU_low (by omega) hi⟩
theorem copyStmts_ok : ∀ (k : Nat) (l : List Sm), SizeOf.sizeOf l ≤ k → l.length ≤ 1000000 → WSs l → FnOK Tryz.prog 176 [pS (stmtsP l)] [] (pS (stmtsP l)) [] := by
  intro k
  induction k with
  | zero => intro l h; cases l <;> simp at h
  | succ k ih =>
  intro l hk hl hw
  refine fn_ok T Tryz.func176 (by kernel_rfl) rfl rfl rfl rfl fun C hC => ?_
  repeat' first
    | refine g_go T hC true 400 rfl rfl ?_
    | refine g_cond rfl (fun h => ?_) (fun h => ?_)
    | refine g_end T hC (by kernel_rfl) ?_
    | refine g_splitD (fun h => ?_) (fun h => ?_)
    | refine g_splitG rfl rfl rfl (fun h => ?_) (fun h => ?_)
    | refine g_splitP rfl rfl (fun h => ?_) (fun h => ?_)
  rw [List.length_map]
  refine g_adopt hC rfl 101 5 rfl [(3, .one (.ar 101))] ⟨⟨_, rfl, AdS.nil⟩, trivial⟩ [] trivial ?_
  refine g_loop (fun i : Nat => i ≤ l.length) (fun i => ([(3, .one (.ar 101)), (6, pS (stmtsP l)), (7, I l.length), (8, I i)], [(101, some (Res.arr 5 ((l.take i).map stmtR)))])) (fun i => l.length - i) hC
    0 (Nat.zero_le _) id ⟨rfl, ⟨rfl, rfl, rfl, rfl, trivial⟩, ⟨rfl, trivial⟩, rfl, fun _ _ => rfl⟩ ?_
  intro i hi
  refine g_run' T hC true 200 rfl ?_
  refine g_cond rfl (fun h => ?_) (fun h => ?_)
  rotate_left
  · have hge : ¬ i < l.length := by simpa using h
    rw [List.take_of_length_le (by omega)]
    repeat' first
      | refine g_go T hC true 400 rfl rfl ?_
      | refine g_cond rfl (fun h => ?_) (fun h => ?_)
      | refine g_end T hC (by kernel_rfl) ?_
      | refine g_splitD (fun h => ?_) (fun h => ?_)
      | refine g_splitG rfl rfl rfl (fun h => ?_) (fun h => ?_)
      | refine g_splitP rfl rfl (fun h => ?_) (fun h => ?_)
      | refine g_outE ?_
    refine g_freeze rfl (id := 101) (e := 5) (rows := l.map stmtR) rfl [(2, pS (stmtsP l))] ⟨⟨_, rfl, FrS.ar⟩, trivial⟩ [] trivial ?_
    exact g_fin ⟨.inl rfl, id, _, rfl, .refl _, trivial, rfl, rfl⟩
  have hlt : i < l.length := by simpa using h
  clear h
  obtain ⟨x, hx⟩ := exists_at hlt
  have hxm := List.mem_of_getElem? hx
  obtain ⟨he, hsl, hsE⟩ := (WSs_mem hw x hxm).l
  have hsz := List.sizeOf_lt_of_mem hxm
  have hE := copyExprs_ok _ x.e (Nat.le_refl _) he.1 he.2
  have hL := ih x.l (by have : SizeOf.sizeOf x.l < SizeOf.sizeOf x := by cases x; simp only [Sm.l, Sm.mk.sizeOf_spec]; omega
                        omega) hsl.1 hsl.2
  have hS := ih x.els (by have : SizeOf.sizeOf x.els < SizeOf.sizeOf x := by cases x; simp only [Sm.els, Sm.mk.sizeOf_spec]; omega
                          omega) hsE.1 hsE.2
  have hal : ((l.take i).map stmtR).length = i := by simp only [List.length_map, List.length_take]; omega
  have happ : (l.take i).map stmtR ++ [stmtC x] = (l.take (i + 1)).map stmtR := by
    rw [take_snocU hx, List.map_append, stmtC_R]; rfl
  repeat' first
    | refine g_go T hC true 400 rfl rfl ?_
    | refine g_cond rfl (fun h => ?_) (fun h => ?_)
    | refine g_end T hC (by kernel_rfl) ?_
    | refine g_splitD (fun h => ?_) (fun h => ?_)
    | refine g_splitG rfl rfl rfl (fun h => ?_) (fun h => ?_)
    | refine g_splitP rfl rfl (fun h => ?_) (fun h => ?_)
    | refine g_idx T hC rfl rfl rfl (Int.natCast_nonneg _) (map_atS hx) rfl rfl ?_
    | refine g_call hC (hE) rfl rfl (LeSs.refl _) rfl rfl rfl ?_
    | refine g_call hC (hL) rfl rfl (LeSs.refl _) rfl rfl rfl ?_
    | refine g_call hC (hS) rfl rfl (LeSs.refl _) rfl rfl rfl ?_
    | refine g_lit T hC rfl rfl rfl rfl rfl rfl rfl rfl rfl ?_
    | (refine g_append T 102 hC (rows := (l.take i).map stmtR) (rows2 := [stmtC x]) (rows3 := (l.take (i + 1)).map stmtR) (bytes := 96) rfl rfl rfl rfl (SrcS.sl (T.es_ok _ _ rfl)) happ rfl rfl rfl (by kernel_rfl) (by rw [hal, List.length_singleton]; omega) (by rw [hal, List.length_singleton]; omega) rfl rfl rfl ?_)
  rw [wrapS (by omega)]
  exact g_round (i + 1) (by omega) (mvU 101 102) (by omega) ⟨rfl, ⟨rfl, rfl, rfl, rfl, trivial⟩, ⟨rfl, trivial⟩, rfl, fun i hi => mvU_low (by omega) hi⟩
end Hw.Z
namespace Hw.Z
open Go Go.Proofs Hw.M

/-! AstFinds: Proc -/
theorem cloneF_ok (v : List Fld) (hv : v.length ≤ 1000000) : FnOK Tryz.prog 175 [pS (fieldsP v)] [] (pS (fieldsP v)) [] := by
  refine fn_ok T Tryz.func175 (by kernel_rfl) rfl rfl rfl rfl fun C hC => ?_
  have hl : (v.map fieldR).length = v.length := List.length_map _
  repeat' first
    | refine g_go T hC true 400 rfl rfl ?_
    | refine g_cond rfl (fun h => ?_) (fun h => ?_)
    | refine g_end T hC (by kernel_rfl) ?_
    | refine g_splitD (fun h => ?_) (fun h => ?_)
    | refine g_splitG rfl rfl rfl (fun h => ?_) (fun h => ?_)
    | refine g_splitP rfl rfl (fun h => ?_) (fun h => ?_)
  refine g_slnil (rows := v.map fieldR) (e := 2) (et := 57) rfl (by kernel_rfl) rfl (fun b hb => ?_)
  repeat' first
    | refine g_go T hC true 400 rfl rfl ?_
    | refine g_cond rfl (fun h => ?_) (fun h => ?_)
    | refine g_end T hC (by kernel_rfl) ?_
    | refine g_splitD (fun h => ?_) (fun h => ?_)
    | refine g_splitG rfl rfl rfl (fun h => ?_) (fun h => ?_)
    | refine g_splitP rfl rfl (fun h => ?_) (fun h => ?_)
  · have hv0 : v = [] := List.map_eq_nil_iff.1 (hb h)
    subst hv0
    exact g_fin ⟨.inl rfl, id, _, rfl, LeS.one (.nil 2), trivial, rfl, rfl⟩
  · refine g_litO T hC rfl rfl rfl rfl rfl ?_
    repeat' first
      | refine g_go T hC true 400 rfl rfl ?_
      | refine g_cond rfl (fun h => ?_) (fun h => ?_)
      | refine g_end T hC (by kernel_rfl) ?_
      | refine g_splitD (fun h => ?_) (fun h => ?_)
      | refine g_splitG rfl rfl rfl (fun h => ?_) (fun h => ?_)
      | refine g_splitP rfl rfl (fun h => ?_) (fun h => ?_)
      | refine g_append T 102 hC (rows := []) (rows2 := v.map fieldR) (rows3 := v.map fieldR) (bytes := 32) rfl rfl rfl rfl (SrcS.sl (T.es_ok _ _ rfl)) rfl rfl rfl rfl (by kernel_rfl) (by simp only [List.length_nil, hl]; omega) (by simp only [List.length_nil, hl]; omega) rfl rfl rfl ?_
    refine g_freeze rfl (id := 102) (e := 2) (rows := v.map fieldR) rfl [(2, pS (fieldsP v))] ⟨⟨_, rfl, FrS.ar⟩, trivial⟩ [] trivial ?_
    exact g_fin ⟨.inl rfl, id, _, rfl, .refl _, trivial, rfl, rfl⟩
/-- What a procedure that is copied may be. -/
def WP (p : Pr) : Prop := p.params.length ≤ 1000000 ∧ p.locs.length ≤ 1000000 ∧ p.body.length ≤ 1000000 ∧ WSs p.body
theorem copied_ok (p : Pr) (h : WP p) : FnOK Tryz.prog 114 [aggS (procR p)] [] (aggS (procR p)) [] := by
  have h1 := cloneF_ok p.params h.1
  have h2 := cloneF_ok p.locs h.2.1
  have h3 := copyStmts_ok _ p.body (Nat.le_refl _) h.2.2.1 h.2.2.2
  refine fn_ok T Tryz.func114 (by kernel_rfl) rfl rfl rfl rfl fun C hC => ?_
  repeat' first
    | refine g_go T hC true 400 rfl rfl ?_
    | refine g_cond rfl (fun h => ?_) (fun h => ?_)
    | refine g_end T hC (by kernel_rfl) ?_
    | refine g_splitD (fun h => ?_) (fun h => ?_)
    | refine g_splitG rfl rfl rfl (fun h => ?_) (fun h => ?_)
    | refine g_splitP rfl rfl (fun h => ?_) (fun h => ?_)
    | refine g_call hC (h1) rfl rfl (LeSs.refl _) rfl rfl rfl ?_
    | refine g_call hC (h2) rfl rfl (LeSs.refl _) rfl rfl rfl ?_
    | refine g_call hC (h3) rfl rfl (LeSs.refl _) rfl rfl rfl ?_
  exact g_fin ⟨.inl rfl, id, _, rfl, .refl _, trivial, rfl, rfl⟩
def zeroP : Pr := ⟨⟨#[]⟩, [], ⟨#[]⟩, [], []⟩
def findP (d : Desc) (s : Str) : Option Pr := d.procs.find? (fun p => decide (p.n = s))
theorem proc_no {d : Desc} (s : Str) (h : validD d = false) : FnOK Tryz.prog 51 [aggS (descR d), Sr s] [] (.tup [aggS (procR zeroP), I 1]) [] := by
  have hV := astValid_ok d
  rw [h] at hV
  refine fn_ok T Tryz.func51 (by kernel_rfl) rfl rfl rfl rfl fun C hC => ?_
  repeat' first
    | refine g_go T hC true 400 rfl rfl ?_
    | refine g_cond rfl (fun h => ?_) (fun h => ?_)
    | refine g_end T hC (by kernel_rfl) ?_
    | refine g_splitD (fun h => ?_) (fun h => ?_)
    | refine g_splitG rfl rfl rfl (fun h => ?_) (fun h => ?_)
    | refine g_splitP rfl rfl (fun h => ?_) (fun h => ?_)
    | refine g_call hC (hV) rfl rfl (LeSs.refl _) rfl rfl rfl ?_
  all_goals first
    | exact g_fin ⟨.inl rfl, id, _, rfl, LeS.tup (.cons (LeS.agg (.cons (.refl _) (.cons (.nil 2) (.cons (.refl _) (.cons (.nil 2) (.cons (.nil 5) .nil)))))) (.cons (.refl _) .nil)), trivial, rfl, rfl⟩
    | (exfalso; simp_all; done)
theorem find_at {α : Type} {p : α → Bool} : ∀ {l : List α} {i : Nat} {x : α}, l[i]? = some x → p x = true → (l.take i).any p = false → l.find? p = some x
  | [], i, x, h, _, _ => by simp at h
  | y :: ys, 0, x, h, hp, _ => by simp at h; subst h; simp [List.find?, hp]
  | y :: ys, i + 1, x, h, hp, hn => by
    simp only [List.take_succ_cons, List.any_cons, Bool.or_eq_false_iff] at hn
    simp only [List.getElem?_cons_succ] at h
    simp only [List.find?, hn.1]
    exact find_at h hp hn.2
theorem find_no {α : Type} {p : α → Bool} : ∀ {l : List α}, l.any p = false → l.find? p = none
  | [], _ => rfl
  | y :: ys, h => by
    simp only [List.any_cons, Bool.or_eq_false_iff] at h
    simp only [List.find?, h.1]
    exact find_no h.2
theorem procA_ok {d : Desc} (s : Str) (h : validD d = true) (hw : ∀ p ∈ d.procs, WP p) : FnOK Tryz.prog 51 [aggS (descR d), Sr s] []
    (.tup [aggS (procR ((findP d s).getD zeroP)), I (if (findP d s).isSome then 0 else 12)]) [] := by
  have hV := astValid_ok d
  rw [h] at hV
  clear h
  refine fn_ok T Tryz.func51 (by kernel_rfl) rfl rfl rfl rfl fun C hC => ?_
  refine g_lenA rfl 0 3 rfl rfl fun hlen => ?_
  rw [List.length_map] at hlen
  repeat' first
    | refine g_go T hC true 400 rfl rfl ?_
    | refine g_cond rfl (fun h => ?_) (fun h => ?_)
    | refine g_end T hC (by kernel_rfl) ?_
    | refine g_splitD (fun h => ?_) (fun h => ?_)
    | refine g_splitG rfl rfl rfl (fun h => ?_) (fun h => ?_)
    | refine g_splitP rfl rfl (fun h => ?_) (fun h => ?_)
    | refine g_call hC (hV) rfl rfl (LeSs.refl _) rfl rfl rfl ?_
  · exfalso; simp_all; done
  rw [List.length_map]
  refine g_loop (fun i : Nat => i ≤ d.procs.length ∧ (d.procs.take i).any (fun t => decide (t.n = s)) = false) (fun i => ([(1, Sr s), (4, .one (.bx 1004 0)), (13, pS (.sl 5 (d.procs.map procR))), (14, I d.procs.length), (15, I i)], [(1004, some (Res.box (zV [ZK.str, ZK.slice, ZK.str, ZK.slice, ZK.slice])))])) (fun i => d.procs.length - i) hC
    0 ⟨Nat.zero_le _, by simp⟩ id ⟨rfl, ⟨rfl, rfl, rfl, rfl, rfl, trivial⟩, ⟨rfl, trivial⟩, rfl, fun _ _ => rfl⟩ ?_
  rintro i ⟨hi, hn⟩
  refine g_run' T hC true 200 rfl ?_
  refine g_cond rfl (fun h => ?_) (fun h => ?_)
  · have hlt : i < d.procs.length := by simpa using h
    clear h
    obtain ⟨x, hx⟩ := exists_at hlt
    have hC2 := copied_ok x (hw x (List.mem_of_getElem? hx))
    repeat' first
      | refine g_go T hC true 400 rfl rfl ?_
      | refine g_cond rfl (fun h => ?_) (fun h => ?_)
      | refine g_end T hC (by kernel_rfl) ?_
      | refine g_splitD (fun h => ?_) (fun h => ?_)
      | refine g_splitG rfl rfl rfl (fun h => ?_) (fun h => ?_)
      | refine g_splitP rfl rfl (fun h => ?_) (fun h => ?_)
      | refine g_idx T hC rfl rfl rfl (Int.natCast_nonneg _) (map_at (by assumption)) rfl rfl ?_
      | refine g_call hC (hC2) rfl rfl (LeSs.refl _) rfl rfl rfl ?_
      | refine g_outR ?_
    · have e : findP d s = some x := find_at hx (by assumption) hn
      rw [e]
      exact g_fin ⟨.inl rfl, id, _, rfl, .refl _, trivial, rfl, rfl⟩
    · rw [wrapS (by omega)]
      refine g_round (i + 1) ⟨by omega, ?_⟩ id (by omega) ⟨rfl, ⟨rfl, rfl, rfl, rfl, rfl, trivial⟩, ⟨rfl, trivial⟩, rfl, fun _ _ => rfl⟩
      rw [any_take hx, hn, Bool.false_or]; assumption
  · have hge : ¬ i < d.procs.length := by simpa using h
    repeat' first
      | refine g_go T hC true 400 rfl rfl ?_
      | refine g_cond rfl (fun h => ?_) (fun h => ?_)
      | refine g_end T hC (by kernel_rfl) ?_
      | refine g_splitD (fun h => ?_) (fun h => ?_)
      | refine g_splitG rfl rfl rfl (fun h => ?_) (fun h => ?_)
      | refine g_splitP rfl rfl (fun h => ?_) (fun h => ?_)
      | refine g_outE ?_
    have e : findP d s = none := find_no (any_end (by omega) hn)
    rw [e]
    exact g_fin ⟨.inl rfl, id, _, rfl, LeS.tup (.cons (LeS.agg (.cons (.refl _) (.cons (.nil 2) (.cons (.refl _) (.cons (.nil 2) (.cons (.nil 5) .nil)))))) (.cons (.refl _) .nil)), trivial, rfl, rfl⟩
end Hw.Z
