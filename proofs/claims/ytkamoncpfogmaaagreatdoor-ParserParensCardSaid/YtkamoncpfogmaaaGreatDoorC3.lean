/- The engine and the contracts. -/
import Derived.Test.YtkamoncpfogmaaaGreatDoorC1
import Derived.Test.YtkamoncpfogmaaaGreatDoorC2
set_option linter.unusedVariables false
set_option linter.unusedSimpArgs false
namespace Hw.Pa
open Go Go.Proofs Hw.M

theorem fnSub {P : Program} {f : FuncId} {args : List S} {R R' : RL} {s s' : S} (h : FnOK P f args R s R') (hl : LeS s s') : FnOK P f args R s' R' :=
  ⟨h.1, fun M ρ w xs h1 h2 h3 h4 => (h.2 M ρ w xs h1 h2 h3 h4).mono fun e w' ⟨v, M', ρ', he, hr⟩ => ⟨v, M', ρ', he, { hr with rep := hl _ _ _ hr.rep }⟩⟩
structure GoodL (l : List Tok) : Prop where
  len : l.length ≤ 100000
  fin : ∃ t, l[l.length - 1]? = some t ∧ t.k = 5
  num : ∀ t ∈ l, 0 ≤ t.n ∧ t.n ≤ 1099511627776
theorem GoodL.next {l : List Tok} (hl : GoodL l) {i : Nat} {t : Tok} (h : l[i]? = some t) (hk : t.k ≠ 5) : i + 1 < l.length := by
  obtain ⟨u, hu, hk5⟩ := hl.fin
  have hlt := (List.getElem?_eq_some_iff.1 h).1
  by_cases e : i = l.length - 1
  · subst e; rw [hu] at h; cases h; exact absurd hk5 hk
  · omega
theorem isA_next {l : List Tok} (hl : GoodL l) {i : Nat} {s : Str} (h : isA l i s = true) : i + 1 < l.length := by
  unfold isA at h
  split at h
  · rename_i t ht
    refine hl.next ht fun e => ?_
    rw [e] at h; simp at h
  · cases h
def rdR (l : List Tok) (i : Nat) (b : Bool) : Res := .box [.p (toksP l), .p (ki i), .p (.k (.bool b))]
abbrev rdV : S := .one (.bx 0 0)
def RJ {α : Type} (l : List Tok) (f : FuncId) (args : List S) (enc : α → S) (i : Nat) (r : PJ α) : Prop :=
  ∀ x j b, r = some (x, j, b) → j < l.length ∧ FnOK Tryz.prog f args [(0, rdR l i false)] (enc x) [(0, rdR l j b)]
theorem RJ.okI {α : Type} {l : List Tok} {f : FuncId} {args : List S} {enc : α → S} {i : Nat} {x : α} {j : Nat} {b : Bool} (h : j < l.length) (h2 : FnOK Tryz.prog f args [(0, rdR l i false)] (enc x) [(0, rdR l j b)]) : RJ l f args enc i (some (x, j, b)) :=
  fun _ _ _ e => by cases e; exact ⟨h, h2⟩
section
variable {l : List Tok} (hl : GoodL l)
include hl
theorem pis_bad (i : Nat) (hi : i < l.length) (s : Str) : FnOK Tryz.prog 68 [rdV, Sr s] [(0, rdR l i true)] (Bo false) [(0, rdR l i true)] := by
  have hlen := hl.len
  obtain ⟨t, ht⟩ := exists_at hi
  refine fn_ok T Tryz.func68 (by kernel_rfl) rfl rfl rfl rfl fun C hC => ?_
  repeat' first | refine g_go T hC true 400 rfl rfl ?_ | refine g_cond rfl (fun h => ?_) (fun h => ?_) | refine g_end T hC (by kernel_rfl) ?_ | refine g_splitD (fun h => ?_) (fun h => ?_) | refine g_splitG rfl rfl rfl (fun h => ?_) (fun h => ?_) | refine g_splitP rfl rfl (fun h => ?_) (fun h => ?_) | refine g_idx T hC rfl rfl rfl (Int.natCast_nonneg _) (map_at ht) rfl rfl ?_ | refine g_retl T (.inl rfl) rfl ?_
  exact g_fin ⟨.inl rfl, id, _, rfl, .refl _, ⟨rfl, trivial⟩, rfl, rfl⟩
theorem pis_ok (i : Nat) (hi : i < l.length) (s : Str) : FnOK Tryz.prog 68 [rdV, Sr s] [(0, rdR l i false)] (.bq (isA l i s)) [(0, rdR l i false)] := by
  have hlen := hl.len
  obtain ⟨t, ht⟩ := exists_at hi
  have e : isA l i s = ((decide (t.k = 3) || decide (t.k = 4)) && decide (t.t = s)) := by unfold isA; rw [ht]
  rw [e]
  clear e
  refine fn_ok T Tryz.func68 (by kernel_rfl) rfl rfl rfl rfl fun C hC => ?_
  repeat' first | refine g_go T hC true 400 rfl rfl ?_ | refine g_cond rfl (fun h => ?_) (fun h => ?_) | refine g_end T hC (by kernel_rfl) ?_ | refine g_splitD (fun h => ?_) (fun h => ?_) | refine g_splitG rfl rfl rfl (fun h => ?_) (fun h => ?_) | refine g_splitP rfl rfl (fun h => ?_) (fun h => ?_) | refine g_idx T hC rfl rfl rfl (Int.natCast_nonneg _) (map_at ht) rfl rfl ?_
  all_goals first
    | exact g_fin ⟨.inl rfl, id, _, rfl, .qq (by simp_all), ⟨rfl, trivial⟩, rfl, rfl⟩
    | exact g_fin ⟨.inl rfl, id, _, rfl, .qb (by simp_all), ⟨rfl, trivial⟩, rfl, rfl⟩
theorem pis_y {i : Nat} {s : Str} (h : isA l i s = true) : FnOK Tryz.prog 68 [rdV, Sr s] [(0, rdR l i false)] (Bo true) [(0, rdR l i false)] :=
  fnSub (pis_ok hl i (isA_lt h) s) (.bq h)
theorem pis_n {i : Nat} (hi : i < l.length) {s : Str} (h : ¬ isA l i s = true) : FnOK Tryz.prog 68 [rdV, Sr s] [(0, rdR l i false)] (Bo false) [(0, rdR l i false)] :=
  fnSub (pis_ok hl i hi s) (.bq (by simpa using h))
theorem pskip_bad (i : Nat) (hi : i < l.length) (s : Str) : FnOK Tryz.prog 62 [rdV, Sr s] [(0, rdR l i true)] (Bo false) [(0, rdR l i true)] := by
  refine fn_ok T Tryz.func62 (by kernel_rfl) rfl rfl rfl rfl fun C hC => ?_
  repeat' first | refine g_go T hC true 400 rfl rfl ?_ | refine g_cond rfl (fun h => ?_) (fun h => ?_) | refine g_callR hC ((pis_bad hl i hi s)) (nm [0]) rfl rfl (LeSs.refl _) rfl rfl rfl rfl rfl rfl rfl rfl ?_ | refine g_retl T (.inl rfl) rfl ?_
  exact g_fin ⟨.inl rfl, id, _, rfl, .refl _, ⟨rfl, trivial⟩, rfl, rfl⟩
theorem pskip_y {i : Nat} {s : Str} (h : isA l i s = true) : FnOK Tryz.prog 62 [rdV, Sr s] [(0, rdR l i false)] (Bo true) [(0, rdR l (i + 1) false)] := by
  have hlen := hl.len
  have hi := isA_lt h
  refine fn_ok T Tryz.func62 (by kernel_rfl) rfl rfl rfl rfl fun C hC => ?_
  repeat' first | refine g_go T hC true 400 rfl rfl ?_ | refine g_cond rfl (fun h => ?_) (fun h => ?_) | refine g_callR hC ((pis_y hl h)) (nm [0]) rfl rfl (LeSs.refl _) rfl rfl rfl rfl rfl rfl rfl rfl ?_ | refine g_retl T (.inl rfl) rfl ?_
  unfold rdR
  rw [wrapS (by omega)]
  exact g_fin ⟨.inl rfl, id, _, rfl, .refl _, ⟨rfl, trivial⟩, rfl, rfl⟩
theorem pskip_n {i : Nat} (hi : i < l.length) {s : Str} (h : ¬ isA l i s = true) : FnOK Tryz.prog 62 [rdV, Sr s] [(0, rdR l i false)] (Bo false) [(0, rdR l i false)] := by
  refine fn_ok T Tryz.func62 (by kernel_rfl) rfl rfl rfl rfl fun C hC => ?_
  repeat' first | refine g_go T hC true 400 rfl rfl ?_ | refine g_cond rfl (fun h => ?_) (fun h => ?_) | refine g_callR hC ((pis_n hl hi h)) (nm [0]) rfl rfl (LeSs.refl _) rfl rfl rfl rfl rfl rfl rfl rfl ?_ | refine g_retl T (.inl rfl) rfl ?_
  exact g_fin ⟨.inl rfl, id, _, rfl, .refl _, ⟨rfl, trivial⟩, rfl, rfl⟩
theorem ptake_bad (i : Nat) (hi : i < l.length) (s : Str) : FnOK Tryz.prog 26 [rdV, Sr s] [(0, rdR l i true)] (.tup []) [(0, rdR l i true)] := by
  refine fn_ok T Tryz.func26 (by kernel_rfl) rfl rfl rfl rfl fun C hC => ?_
  repeat' first | refine g_go T hC true 400 rfl rfl ?_ | refine g_cond rfl (fun h => ?_) (fun h => ?_) | refine g_callR hC ((pskip_bad hl i hi s)) (nm [0]) rfl rfl (LeSs.refl _) rfl rfl rfl rfl rfl rfl rfl rfl ?_
  exact g_fin ⟨.inr rfl, id, [], rfl, .refl _, ⟨rfl, trivial⟩, rfl, rfl⟩
theorem ptake_y {i : Nat} {s : Str} (h : isA l i s = true) : FnOK Tryz.prog 26 [rdV, Sr s] [(0, rdR l i false)] (.tup []) [(0, rdR l (i + 1) false)] := by
  refine fn_ok T Tryz.func26 (by kernel_rfl) rfl rfl rfl rfl fun C hC => ?_
  repeat' first | refine g_go T hC true 400 rfl rfl ?_ | refine g_cond rfl (fun h => ?_) (fun h => ?_) | refine g_callR hC ((pskip_y hl h)) (nm [0]) rfl rfl (LeSs.refl _) rfl rfl rfl rfl rfl rfl rfl rfl ?_
  exact g_fin ⟨.inr rfl, id, [], rfl, .refl _, ⟨rfl, trivial⟩, rfl, rfl⟩
theorem ptake_n {i : Nat} (hi : i < l.length) {s : Str} (h : ¬ isA l i s = true) : FnOK Tryz.prog 26 [rdV, Sr s] [(0, rdR l i false)] (.tup []) [(0, rdR l i true)] := by
  refine fn_ok T Tryz.func26 (by kernel_rfl) rfl rfl rfl rfl fun C hC => ?_
  repeat' first | refine g_go T hC true 400 rfl rfl ?_ | refine g_cond rfl (fun h => ?_) (fun h => ?_) | refine g_callR hC ((pskip_n hl hi h)) (nm [0]) rfl rfl (LeSs.refl _) rfl rfl rfl rfl rfl rfl rfl rfl ?_
  exact g_fin ⟨.inr rfl, id, [], rfl, .refl _, ⟨rfl, trivial⟩, rfl, rfl⟩
theorem ptake_ok (i : Nat) (hi : i < l.length) (s : Str) : RJ l 26 [rdV, Sr s] (fun _ => .tup []) i (oneJ l s i) := by
  unfold oneJ
  split
  · rename_i h; exact .okI (isA_next hl h) (ptake_y hl h)
  · rename_i h; exact .okI hi (ptake_n hl hi h)
theorem pname_bad (i : Nat) (hi : i < l.length) : FnOK Tryz.prog 27 [rdV] [(0, rdR l i true)] (Sr (⟨#[]⟩ : ByteArray)) [(0, rdR l i true)] := by
  have _ := hl
  refine fn_ok T Tryz.func27 (by kernel_rfl) rfl rfl rfl rfl fun C hC => ?_
  repeat' first | refine g_go T hC true 400 rfl rfl ?_ | refine g_cond rfl (fun h => ?_) (fun h => ?_) | refine g_end T hC (by kernel_rfl) ?_ | refine g_splitD (fun h => ?_) (fun h => ?_) | refine g_splitG rfl rfl rfl (fun h => ?_) (fun h => ?_) | refine g_splitP rfl rfl (fun h => ?_) (fun h => ?_) | refine g_retl T (.inl rfl) rfl ?_
  exact g_fin ⟨.inl rfl, id, _, rfl, .refl _, ⟨rfl, trivial⟩, rfl, rfl⟩
theorem pname_ok (i : Nat) (hi : i < l.length) : RJ l 27 [rdV] Sr i (nameJ l i) := by
  have hlen := hl.len
  obtain ⟨t, ht⟩ := exists_at hi
  unfold nameJ
  rw [ht]
  by_cases hk : t.k = 1
  · simp only [if_pos hk]
    refine .okI (hl.next ht (by omega)) ?_
    have w1 : IntKind.i64.wrap (IntKind.i64.wrap ((i : Int) + 1) - 1) = (i : Int) := by
      have e1 : IntKind.i64.wrap ((i : Int) + 1) = (i : Int) + 1 := wrap64 (by omega)
      rw [e1, wrap64 (by omega)]; omega
    refine fn_ok T Tryz.func27 (by kernel_rfl) rfl rfl rfl rfl fun C hC => ?_
    repeat' first | refine g_go T hC true 400 rfl rfl ?_ | (exfalso; exact absurd hk (by simpa using h)) | refine g_cond rfl (fun h => ?_) (fun h => ?_) | refine g_end T hC (by kernel_rfl) ?_ | refine g_splitD (fun h => ?_) (fun h => ?_) | refine g_splitG rfl rfl rfl (fun h => ?_) (fun h => ?_) | refine g_splitP rfl rfl (fun h => ?_) (fun h => ?_) | refine g_idx T hC rfl rfl rfl (Int.natCast_nonneg _) (map_at ht) rfl rfl ?_ | refine g_idx T hC rfl rfl rfl (by rw [w1]; exact Int.natCast_nonneg _) (by rw [w1]; exact map_at ht) rfl rfl ?_ | refine g_retl T (.inl rfl) rfl ?_
    unfold rdR
    rw [wrapS (by omega)]
    exact g_fin ⟨.inl rfl, id, _, rfl, .refl _, ⟨rfl, trivial⟩, rfl, rfl⟩
  · simp only [if_neg hk]
    refine .okI hi ?_
    refine fn_ok T Tryz.func27 (by kernel_rfl) rfl rfl rfl rfl fun C hC => ?_
    repeat' first | refine g_go T hC true 400 rfl rfl ?_ | (exfalso; exact absurd (by simpa using h) hk) | refine g_cond rfl (fun h => ?_) (fun h => ?_) | refine g_end T hC (by kernel_rfl) ?_ | refine g_splitD (fun h => ?_) (fun h => ?_) | refine g_splitG rfl rfl rfl (fun h => ?_) (fun h => ?_) | refine g_splitP rfl rfl (fun h => ?_) (fun h => ?_) | refine g_idx T hC rfl rfl rfl (Int.natCast_nonneg _) (map_at ht) rfl rfl ?_ | refine g_retl T (.inl rfl) rfl ?_
    exact g_fin ⟨.inl rfl, id, _, rfl, .refl _, ⟨rfl, trivial⟩, rfl, rfl⟩
theorem pint_bad (i : Nat) (hi : i < l.length) : FnOK Tryz.prog 102 [rdV] [(0, rdR l i true)] (I 0) [(0, rdR l i true)] := by
  have _ := hl
  refine fn_ok T Tryz.func102 (by kernel_rfl) rfl rfl rfl rfl fun C hC => ?_
  repeat' first | refine g_go T hC true 400 rfl rfl ?_ | refine g_cond rfl (fun h => ?_) (fun h => ?_) | refine g_end T hC (by kernel_rfl) ?_ | refine g_splitD (fun h => ?_) (fun h => ?_) | refine g_splitG rfl rfl rfl (fun h => ?_) (fun h => ?_) | refine g_splitP rfl rfl (fun h => ?_) (fun h => ?_) | refine g_reti T (.inl rfl) rfl ?_
  exact g_fin ⟨.inl rfl, id, _, rfl, .refl _, ⟨rfl, trivial⟩, rfl, rfl⟩
theorem pint_ok (i : Nat) (hi : i < l.length) : RJ l 102 [rdV] I i (intJ l i) := by
  have hlen := hl.len
  obtain ⟨t, ht⟩ := exists_at hi
  unfold intJ
  rw [ht]
  by_cases hk : t.k = 2
  · simp only [if_pos hk]
    refine .okI (hl.next ht (by omega)) ?_
    have w1 : IntKind.i64.wrap (IntKind.i64.wrap ((i : Int) + 1) - 1) = (i : Int) := by
      have e1 : IntKind.i64.wrap ((i : Int) + 1) = (i : Int) + 1 := wrap64 (by omega)
      rw [e1, wrap64 (by omega)]; omega
    refine fn_ok T Tryz.func102 (by kernel_rfl) rfl rfl rfl rfl fun C hC => ?_
    repeat' first | refine g_go T hC true 400 rfl rfl ?_ | (exfalso; exact absurd hk (by simpa using h)) | refine g_cond rfl (fun h => ?_) (fun h => ?_) | refine g_end T hC (by kernel_rfl) ?_ | refine g_splitD (fun h => ?_) (fun h => ?_) | refine g_splitG rfl rfl rfl (fun h => ?_) (fun h => ?_) | refine g_splitP rfl rfl (fun h => ?_) (fun h => ?_) | refine g_idx T hC rfl rfl rfl (Int.natCast_nonneg _) (map_at ht) rfl rfl ?_ | refine g_idx T hC rfl rfl rfl (by rw [w1]; exact Int.natCast_nonneg _) (by rw [w1]; exact map_at ht) rfl rfl ?_ | refine g_retl T (.inl rfl) rfl ?_
    unfold rdR
    rw [wrapS (by omega)]
    exact g_fin ⟨.inl rfl, id, _, rfl, .refl _, ⟨rfl, trivial⟩, rfl, rfl⟩
  · simp only [if_neg hk]
    refine .okI hi ?_
    refine fn_ok T Tryz.func102 (by kernel_rfl) rfl rfl rfl rfl fun C hC => ?_
    repeat' first | refine g_go T hC true 400 rfl rfl ?_ | (exfalso; exact absurd (by simpa using h) hk) | refine g_cond rfl (fun h => ?_) (fun h => ?_) | refine g_end T hC (by kernel_rfl) ?_ | refine g_splitD (fun h => ?_) (fun h => ?_) | refine g_splitG rfl rfl rfl (fun h => ?_) (fun h => ?_) | refine g_splitP rfl rfl (fun h => ?_) (fun h => ?_) | refine g_idx T hC rfl rfl rfl (Int.natCast_nonneg _) (map_at ht) rfl rfl ?_ | refine g_retl T (.inl rfl) rfl ?_
    exact g_fin ⟨.inl rfl, id, _, rfl, .refl _, ⟨rfl, trivial⟩, rfl, rfl⟩
end
end Hw.Pa
namespace Hw.Pa
open Go Go.Proofs Hw.M

def strsR2 : PV := .sl 1 [[ks (⟨#[105, 110, 116]⟩ : ByteArray)], [ks (⟨#[98, 111, 111, 108]⟩ : ByteArray)]]
section
variable {l : List Tok} (hl : GoodL l)
include hl
theorem ptyp_bad (i : Nat) (hi : i < l.length) : FnOK Tryz.prog 100 [rdV] [(0, rdR l i true)] (Sr (⟨#[]⟩ : ByteArray)) [(0, rdR l i true)] := by
  refine fn_ok T Tryz.func100 (by kernel_rfl) rfl rfl rfl rfl fun C hC => ?_
  repeat' first | refine g_go T hC true 400 rfl rfl ?_ | refine g_cond rfl (fun h => ?_) (fun h => ?_) | refine g_lit T hC rfl rfl rfl rfl rfl rfl rfl rfl rfl ?_
  refine g_loop (fun j : Nat => j ≤ 2) (fun j => ([(0, rdV), (5, pS strsR2), (6, I 2), (7, I j)], [(0, some (rdR l i true))])) (fun j => 2 - j) hC
    0 (by decide) id ⟨rfl, ⟨rfl, rfl, rfl, rfl, trivial⟩, ⟨rfl, trivial⟩, rfl, fun _ _ => rfl⟩ ?_
  intro j hj
  refine g_run' T hC true 200 rfl ?_
  refine g_cond rfl (fun h => ?_) (fun h => ?_)
  · have hlt : j < 2 := by have := of_decide_eq_true h; omega
    clear h
    obtain ⟨s, hs⟩ : ∃ s : Str, ([[ks (⟨#[105, 110, 116]⟩ : ByteArray)], [ks (⟨#[98, 111, 111, 108]⟩ : ByteArray)]] : List (List PV))[(j : Int).toNat]? = some [ks s] := by
      have : j = 0 ∨ j = 1 := by omega
      rcases this with rfl | rfl
      · exact ⟨_, rfl⟩
      · exact ⟨_, rfl⟩
    repeat' first | refine g_go T hC true 400 rfl rfl ?_ | refine g_cond rfl (fun h => ?_) (fun h => ?_) | refine g_idx T hC rfl rfl rfl (Int.natCast_nonneg _) hs rfl rfl ?_ | refine g_callR hC ((pskip_bad hl i hi s)) (nm [0]) rfl rfl (LeSs.refl _) rfl rfl rfl rfl rfl rfl rfl rfl ?_
    rw [wrapS (by omega)]
    exact g_round (j + 1) (by omega) id (by omega) ⟨rfl, ⟨rfl, rfl, rfl, rfl, trivial⟩, ⟨rfl, trivial⟩, rfl, fun _ _ => rfl⟩
  · repeat' first | refine g_go T hC true 400 rfl rfl ?_ | refine g_cond rfl (fun h => ?_) (fun h => ?_) | refine g_outE ?_ | refine g_callR hC ((pname_bad hl i hi)) (nm [0]) rfl rfl (LeSs.refl _) rfl rfl rfl rfl rfl rfl rfl rfl ?_ | refine g_retl T (.inl rfl) rfl ?_
    exact g_fin ⟨.inl rfl, id, _, rfl, .refl _, ⟨rfl, trivial⟩, rfl, rfl⟩
theorem ptyp_ok (i : Nat) (hi : i < l.length) : RJ l 100 [rdV] Sr i (typJ l i) := by
  intro x k b hR
  have hk : k < l.length := by
    unfold typJ at hR
    split at hR
    · rename_i h; cases hR; exact isA_next hl h
    · split at hR
      · rename_i h; cases hR; exact isA_next hl h
      · exact (pname_ok hl i hi _ _ _ hR).1
  refine ⟨hk, ?_⟩
  refine fn_ok T Tryz.func100 (by kernel_rfl) rfl rfl rfl rfl fun C hC => ?_
  repeat' first | refine g_go T hC true 400 rfl rfl ?_ | refine g_cond rfl (fun h => ?_) (fun h => ?_) | refine g_lit T hC rfl rfl rfl rfl rfl rfl rfl rfl rfl ?_
  refine g_loop (fun j : Nat => j ≤ 2 ∧ (0 < j → ¬ isA l i (⟨#[105, 110, 116]⟩ : ByteArray) = true) ∧ (1 < j → ¬ isA l i (⟨#[98, 111, 111, 108]⟩ : ByteArray) = true)) (fun j => ([(0, rdV), (5, pS strsR2), (6, I 2), (7, I j)], [(0, some (rdR l i false))])) (fun j => 2 - j) hC
    0 ⟨by decide, fun h => absurd h (by decide), fun h => absurd h (by decide)⟩ id ⟨rfl, ⟨rfl, rfl, rfl, rfl, trivial⟩, ⟨rfl, trivial⟩, rfl, fun _ _ => rfl⟩ ?_
  rintro j ⟨hj, hA, hB⟩
  refine g_run' T hC true 200 rfl ?_
  refine g_cond rfl (fun h => ?_) (fun h => ?_)
  · have hlt : j < 2 := by have := of_decide_eq_true h; omega
    clear h
    have : j = 0 ∨ j = 1 := by omega
    rcases this with rfl | rfl
    · by_cases hs : isA l i (⟨#[105, 110, 116]⟩ : ByteArray) = true
      · unfold typJ at hR
        rw [if_pos hs] at hR
        cases hR
        repeat' first | refine g_go T hC true 400 rfl rfl ?_ | refine g_cond rfl (fun h => ?_) (fun h => ?_) | refine g_idx T hC rfl rfl rfl (Int.natCast_nonneg _) rfl rfl rfl ?_ | refine g_callR hC ((pskip_y hl hs)) (nm [0]) rfl rfl (LeSs.refl _) rfl rfl rfl rfl rfl rfl rfl rfl ?_ | refine g_outR ?_ | refine g_retl T (.inl rfl) rfl ?_
        exact g_fin ⟨.inl rfl, id, _, rfl, .refl _, ⟨rfl, trivial⟩, rfl, rfl⟩
      · repeat' first | refine g_go T hC true 400 rfl rfl ?_ | refine g_cond rfl (fun h => ?_) (fun h => ?_) | refine g_idx T hC rfl rfl rfl (Int.natCast_nonneg _) rfl rfl rfl ?_ | refine g_callR hC ((pskip_n hl hi hs)) (nm [0]) rfl rfl (LeSs.refl _) rfl rfl rfl rfl rfl rfl rfl rfl ?_
        rw [wrapS (by omega)]
        exact g_round 1 ⟨by omega, fun _ => hs, fun h => absurd h (by decide)⟩ id (by omega) ⟨rfl, ⟨rfl, rfl, rfl, rfl, trivial⟩, ⟨rfl, trivial⟩, rfl, fun _ _ => rfl⟩
    · by_cases hs : isA l i (⟨#[98, 111, 111, 108]⟩ : ByteArray) = true
      · unfold typJ at hR
        rw [if_neg (hA (by decide)), if_pos hs] at hR
        cases hR
        repeat' first | refine g_go T hC true 400 rfl rfl ?_ | refine g_cond rfl (fun h => ?_) (fun h => ?_) | refine g_idx T hC rfl rfl rfl (Int.natCast_nonneg _) rfl rfl rfl ?_ | refine g_callR hC ((pskip_y hl hs)) (nm [0]) rfl rfl (LeSs.refl _) rfl rfl rfl rfl rfl rfl rfl rfl ?_ | refine g_outR ?_ | refine g_retl T (.inl rfl) rfl ?_
        exact g_fin ⟨.inl rfl, id, _, rfl, .refl _, ⟨rfl, trivial⟩, rfl, rfl⟩
      · repeat' first | refine g_go T hC true 400 rfl rfl ?_ | refine g_cond rfl (fun h => ?_) (fun h => ?_) | refine g_idx T hC rfl rfl rfl (Int.natCast_nonneg _) rfl rfl rfl ?_ | refine g_callR hC ((pskip_n hl hi hs)) (nm [0]) rfl rfl (LeSs.refl _) rfl rfl rfl rfl rfl rfl rfl rfl ?_
        rw [wrapS (by omega)]
        exact g_round 2 ⟨by omega, fun _ => hA (by decide), fun _ => hs⟩ id (by omega) ⟨rfl, ⟨rfl, rfl, rfl, rfl, trivial⟩, ⟨rfl, trivial⟩, rfl, fun _ _ => rfl⟩
  · have hge : j = 2 := by have := of_decide_eq_false h; omega
    subst hge
    unfold typJ at hR
    rw [if_neg (hA (by decide)), if_neg (hB (by decide))] at hR
    have hN := (pname_ok hl i hi _ _ _ hR).2
    repeat' first | refine g_go T hC true 400 rfl rfl ?_ | refine g_cond rfl (fun h => ?_) (fun h => ?_) | refine g_outE ?_ | refine g_callR hC (hN) (nm [0]) rfl rfl (LeSs.refl _) rfl rfl rfl rfl rfl rfl rfl rfl ?_ | refine g_retl T (.inl rfl) rfl ?_
    exact g_fin ⟨.inl rfl, id, _, rfl, .refl _, ⟨rfl, trivial⟩, rfl, rfl⟩
theorem pfield_bad (i : Nat) (hi : i < l.length) : FnOK Tryz.prog 64 [rdV] [(0, rdR l i true)] (aggS (fieldR ⟨(⟨#[]⟩ : ByteArray), (⟨#[]⟩ : ByteArray)⟩)) [(0, rdR l i true)] := by
  refine fn_ok T Tryz.func64 (by kernel_rfl) rfl rfl rfl rfl fun C hC => ?_
  repeat' first | refine g_go T hC true 400 rfl rfl ?_ | refine g_cond rfl (fun h => ?_) (fun h => ?_) | refine g_callR hC ((pname_bad hl i hi)) (nm [0]) rfl rfl (LeSs.refl _) rfl rfl rfl rfl rfl rfl rfl rfl ?_ | refine g_callR hC ((ptyp_bad hl i hi)) (nm [0]) rfl rfl (LeSs.refl _) rfl rfl rfl rfl rfl rfl rfl rfl ?_ | refine g_retl T (.inl rfl) rfl ?_
  exact g_fin ⟨.inl rfl, id, _, rfl, .refl _, ⟨rfl, trivial⟩, rfl, rfl⟩
theorem pfield_ok (i : Nat) (hi : i < l.length) : RJ l 64 [rdV] (fun f => aggS (fieldR f)) i (fieldJ l i) := by
  intro x k b hR
  unfold fieldJ at hR
  rcases hn : nameJ l i with _ | ⟨n, i1, _ | _⟩
  · rw [hn] at hR; cases hR
  · rw [hn] at hR
    simp only [PJ.go] at hR
    obtain ⟨h1, hN⟩ := pname_ok hl i hi _ _ _ hn
    rcases ht : typJ l i1 with _ | ⟨t, i2, b2⟩
    · rw [ht] at hR; cases hR
    · obtain ⟨h2, hT⟩ := ptyp_ok hl i1 h1 _ _ _ ht
      have e : x = ⟨n, t⟩ ∧ k = i2 ∧ b = b2 := by
        rw [ht] at hR
        cases b2 <;> simp only [PJ.ok] at hR <;> cases hR <;> exact ⟨rfl, rfl, rfl⟩
      obtain ⟨rfl, rfl, rfl⟩ := e
      refine ⟨h2, ?_⟩
      refine fn_ok T Tryz.func64 (by kernel_rfl) rfl rfl rfl rfl fun C hC => ?_
      repeat' first | refine g_go T hC true 400 rfl rfl ?_ | refine g_cond rfl (fun h => ?_) (fun h => ?_) | refine g_callR hC (hN) (nm [0]) rfl rfl (LeSs.refl _) rfl rfl rfl rfl rfl rfl rfl rfl ?_ | refine g_callR hC (hT) (nm [0]) rfl rfl (LeSs.refl _) rfl rfl rfl rfl rfl rfl rfl rfl ?_ | refine g_retl T (.inl rfl) rfl ?_
      exact g_fin ⟨.inl rfl, id, _, rfl, .refl _, ⟨rfl, trivial⟩, rfl, rfl⟩
  · rw [hn] at hR
    cases hR
    obtain ⟨h1, hN⟩ := pname_ok hl i hi _ _ _ hn
    refine ⟨h1, ?_⟩
    refine fn_ok T Tryz.func64 (by kernel_rfl) rfl rfl rfl rfl fun C hC => ?_
    repeat' first | refine g_go T hC true 400 rfl rfl ?_ | refine g_cond rfl (fun h => ?_) (fun h => ?_) | refine g_callR hC (hN) (nm [0]) rfl rfl (LeSs.refl _) rfl rfl rfl rfl rfl rfl rfl rfl ?_ | refine g_callR hC ((ptyp_bad hl _ h1)) (nm [0]) rfl rfl (LeSs.refl _) rfl rfl rfl rfl rfl rfl rfl rfl ?_ | refine g_retl T (.inl rfl) rfl ?_
    exact g_fin ⟨.inl rfl, id, _, rfl, .refl _, ⟨rfl, trivial⟩, rfl, rfl⟩
end
end Hw.Pa
namespace Hw.Pa
open Go Go.Proofs Hw.M

theorem go_some {α β : Type} {r : PJ α} {f : α → Nat → PJ β} {g : α → β} {x : β} {j : Nat} {b : Bool} (h : PJ.go r f g = some (x, j, b)) :
    (∃ y k, r = some (y, k, false) ∧ f y k = some (x, j, b)) ∨ (∃ y, r = some (y, j, true) ∧ x = g y ∧ b = true) := by
  rcases r with _ | ⟨y, k, _ | _⟩
  · cases h
  · exact .inl ⟨y, k, rfl, h⟩
  · cases h; exact .inr ⟨y, rfl, rfl, rfl⟩
def binR (x : Str × Int) : List PV := [ks x.1, ki x.2]
def levs : List (List (Str × Int)) := [opsA 0, opsA 1, [], opsA 3, opsA 4, opsA 5]
def levR (o : List (Str × Int)) : List PV := [.sl 2 (o.map binR)]
def levsP : PV := .sl 1 (levs.map levR)
theorem levs_at {n : Nat} (h : n < 6) : levs[n]? = some (opsA n) := by
  have : n = 0 ∨ n = 1 ∨ n = 2 ∨ n = 3 ∨ n = 4 ∨ n = 5 := by omega
  rcases this with rfl | rfl | rfl | rfl | rfl | rfl <;> rfl
theorem levels_ok : FnOK Tryz.prog 124 [] [] (pS levsP) [] := by
  refine fn_ok T Tryz.func124 (by kernel_rfl) rfl rfl rfl rfl fun C hC => ?_
  repeat' first | refine g_go T hC true 400 rfl rfl ?_ | refine g_cond rfl (fun h => ?_) (fun h => ?_) | refine g_lit T hC rfl rfl rfl rfl rfl rfl rfl rfl rfl ?_ | refine g_retl T (.inl rfl) rfl ?_
  exact g_fin ⟨.inl rfl, id, _, rfl, .refl _, trivial, rfl, rfl⟩
theorem binN_idx (f : FuncId) (tl : List Tok) (ti : Nat) (tw : Bool) (l : List (Str × Int)) (p : (Str × Int) → Unit → Bool) (nx : (Str × Int) → Unit → Unit) (inv : Unit → Prop)
    (hf : ∀ x ∈ l, ∀ s : Unit, inv s → FnOK Tryz.prog f [aggS (binR x), .one (.bx 1 0)] [(0, rdR tl ti tw), (1, .box [.bx 0 0])] (.bq (p x s)) ((fun s : Unit => [(0, rdR tl ti tw), (1, .box [.bx 0 0])]) (nx x s)) ∧ (p x s = false → inv (nx x s))) (s : Unit) (hs : inv s) :
    FnOK Tryz.prog 125 [pS (.sl 2 (l.map binR)), .one (.cl f [] [.bx 1 0])] [(0, rdR tl ti tw), (1, .box [.bx 0 0])] (I (idxR p nx l 0 s).1) ((fun s : Unit => [(0, rdR tl ti tw), (1, .box [.bx 0 0])]) (idxR p nx l 0 s).2) := by
  refine fn_ok T Tryz.func125 (by kernel_rfl) rfl rfl rfl rfl fun C hC => ?_
  have hs0 := hs
  refine g_len 0 rfl fun hl => ?_
  rw [List.length_map] at hl
  repeat' first | refine g_go T hC true 400 rfl rfl ?_ | refine g_cond rfl (fun h => ?_) (fun h => ?_)
  rw [List.length_map]
  refine g_loop (fun q : Nat × Unit => q.1 ≤ l.length ∧ inv q.2 ∧ idxR p nx (l.drop q.1) q.1 q.2 = idxR p nx l 0 s) (fun q => (fun s : Unit => ([(0, pS (.sl 2 (l.map binR))), (1, .one (.cl f [] [.bx 1 0])), (7, I l.length), (8, I q.1)], [(0, some (rdR tl ti tw)), (1, some (.box [.bx 0 0]))])) q.2) (fun q => l.length - q.1) hC
    (0, s) ⟨Nat.zero_le _, hs, rfl⟩ id ⟨rfl, ⟨rfl, rfl, rfl, rfl, trivial⟩, ⟨rfl, rfl, trivial⟩, rfl, fun _ _ => rfl⟩ ?_
  generalize idxR p nx l 0 s = res
  clear hs hs0
  rintro ⟨i, s⟩ ⟨hi, hv, hn⟩
  simp only at hi hv hn
  refine g_run' T hC true 200 rfl ?_
  refine g_cond rfl (fun hh => ?_) (fun hh => ?_)
  · have hlt : i < l.length := by simpa using hh
    clear hh
    obtain ⟨x, hx⟩ := exists_at hlt
    rw [drop_at hx] at hn
    simp only [idxR] at hn
    have hv2 := (hf x (List.mem_of_getElem? hx) s hv).2
    repeat' first | refine g_go T hC true 400 rfl rfl ?_ | refine g_cond rfl (fun h => ?_) (fun h => ?_) | refine g_idx T hC rfl rfl rfl (Int.natCast_nonneg _) (map_at hx) rfl rfl ?_ | refine g_callR hC (hf x (List.mem_of_getElem? hx) s hv).1 id rfl rfl (LeSs.refl _) rfl rfl rfl rfl rfl rfl rfl rfl ?_ | refine g_outR ?_
    · rw [if_pos (by assumption)] at hn
      subst hn
      exact g_fin ⟨.inl rfl, id, _, rfl, .refl _, ⟨rfl, rfl, trivial⟩, rfl, rfl⟩
    · have hpf : p x s = false := by assumption
      rw [hpf] at hn
      simp only [Bool.false_eq_true, if_false] at hn
      rw [wrap64 (by omega)]
      exact g_round (i + 1, nx x s) ⟨by simp only; omega, hv2 hpf, hn⟩ id (by simp only; omega) ⟨rfl, ⟨rfl, rfl, rfl, rfl, trivial⟩, ⟨rfl, rfl, trivial⟩, rfl, fun _ _ => rfl⟩
  · have hge : ¬ i < l.length := by simpa using hh
    rw [List.drop_eq_nil_of_le (by omega)] at hn
    simp only [idxR] at hn
    subst hn
    repeat' first | refine g_go T hC true 400 rfl rfl ?_ | refine g_cond rfl (fun h => ?_) (fun h => ?_) | refine g_outE ?_
    exact g_fin ⟨.inl rfl, id, _, rfl, .refl _, ⟨rfl, rfl, trivial⟩, rfl, rfl⟩
theorem le_ex0 (op n : Int) (s : Str) : LeS (.agg [.p (ki op), .p (ki n), .p (ks s), .p (.k (.slice none 0 0))]) (aggS (exprC (.mk op n s []))) :=
  LeS.agg (.cons (.refl _) (.cons (.refl _) (.cons (.refl _) (.cons (.nil 4) .nil))))
theorem idx_find {α : Type} (p : α → Bool) : ∀ (l : List α) (k : Nat), (l.find? p = none ∧ (idxR (fun x (_ : Unit) => p x) (fun _ s => s) l k ()).1 = -1) ∨ ∃ x j, l.find? p = some x ∧ l[j]? = some x ∧ (idxR (fun x (_ : Unit) => p x) (fun _ s => s) l k ()).1 = ((k + j : Nat) : Int)
  | [], _ => .inl ⟨rfl, rfl⟩
  | x :: r, k => by
    cases h : p x with
    | true => exact .inr ⟨x, 0, by simp [List.find?, h], rfl, by simp [idxR, h]⟩
    | false =>
      rcases idx_find p r (k + 1) with ⟨h1, h2⟩ | ⟨y, j, h1, h2, h3⟩
      · exact .inl ⟨by simp [List.find?, h, h1], by simp only [idxR, h, Bool.false_eq_true, if_false]; exact h2⟩
      · exact .inr ⟨y, j + 1, by simp [List.find?, h, h1], h2, by simp only [idxR, h, Bool.false_eq_true, if_false]; rw [h3]; congr 1; omega⟩
section
variable {l : List Tok} (hl : GoodL l)
include hl
theorem pexpr1_ok (i : Nat) (hi : i < l.length) (x : Str × Int) : FnOK Tryz.prog 126 [aggS (binR x), .one (.bx 1 0)] [(0, rdR l i false), (1, .box [.bx 0 0])] (.bq (isA l i x.1)) [(0, rdR l i false), (1, .box [.bx 0 0])] := by
  refine fn_ok T Tryz.func126 (by kernel_rfl) rfl rfl rfl rfl fun C hC => ?_
  repeat' first | refine g_go T hC true 400 rfl rfl ?_ | refine g_cond rfl (fun h => ?_) (fun h => ?_) | refine g_callR hC ((pis_ok hl i hi x.1)) (nm [0]) rfl rfl (LeSs.refl _) rfl rfl rfl rfl rfl rfl rfl rfl ?_ | refine g_retq T (.inl rfl) rfl ?_
  exact g_fin ⟨.inl rfl, id, _, rfl, .qq rfl, ⟨rfl, rfl, trivial⟩, rfl, rfl⟩
theorem pexpr1_bad (i : Nat) (hi : i < l.length) (x : Str × Int) : FnOK Tryz.prog 126 [aggS (binR x), .one (.bx 1 0)] [(0, rdR l i true), (1, .box [.bx 0 0])] (.bq false) [(0, rdR l i true), (1, .box [.bx 0 0])] := by
  refine fn_ok T Tryz.func126 (by kernel_rfl) rfl rfl rfl rfl fun C hC => ?_
  repeat' first | refine g_go T hC true 400 rfl rfl ?_ | refine g_cond rfl (fun h => ?_) (fun h => ?_) | refine g_callR hC ((pis_bad hl i hi x.1)) (nm [0]) rfl rfl (LeSs.refl _) rfl rfl rfl rfl rfl rfl rfl rfl ?_ | refine g_retl T (.inl rfl) rfl ?_
  exact g_fin ⟨.inl rfl, id, _, rfl, .qb rfl, ⟨rfl, rfl, trivial⟩, rfl, rfl⟩
theorem pidx_bad (i : Nat) (hi : i < l.length) (o : List (Str × Int)) : FnOK Tryz.prog 125 [pS (.sl 2 (o.map binR)), .one (.cl 126 [] [.bx 1 0])] [(0, rdR l i true), (1, .box [.bx 0 0])] (I (-1)) [(0, rdR l i true), (1, .box [.bx 0 0])] := by
  have h := binN_idx 126 l i true o (fun _ _ => false) (fun _ s => s) (fun _ => True) (fun x hx s _ => ⟨pexpr1_bad hl i hi x, fun _ => trivial⟩) () trivial
  have e : (idxR (fun (_ : Str × Int) (_ : Unit) => false) (fun _ s => s) o 0 ()).1 = -1 := by
    rcases idx_find (fun _ => false) o 0 with ⟨_, h2⟩ | ⟨y, j, h1, _, _⟩
    · exact h2
    · exact absurd (List.find?_some h1) (by simp)
  rw [e] at h
  exact h
theorem pidx_none (i : Nat) (hi : i < l.length) (n : Nat) (hn : opA l i n = none) : FnOK Tryz.prog 125 [pS (.sl 2 ((opsA n).map binR)), .one (.cl 126 [] [.bx 1 0])] [(0, rdR l i false), (1, .box [.bx 0 0])] (I (-1)) [(0, rdR l i false), (1, .box [.bx 0 0])] := by
  have h := binN_idx 126 l i false (opsA n) (fun x _ => isA l i x.1) (fun _ s => s) (fun _ => True) (fun x hx s _ => ⟨pexpr1_ok hl i hi x, fun _ => trivial⟩) () trivial
  have e : (idxR (fun (x : Str × Int) (_ : Unit) => isA l i x.1) (fun _ s => s) (opsA n) 0 ()).1 = -1 := by
    rcases idx_find (fun x : Str × Int => isA l i x.1) (opsA n) 0 with ⟨_, h2⟩ | ⟨y, j, h1, _, _⟩
    · exact h2
    · unfold opA at hn; rw [h1] at hn; cases hn
  rw [e] at h
  exact h
theorem pidx_some (i : Nat) (hi : i < l.length) (n : Nat) (op : Int) (hn : opA l i n = some op) : ∃ (j : Nat) (s : Str), (opsA n)[j]? = some (s, op) ∧ isA l i s = true ∧ FnOK Tryz.prog 125 [pS (.sl 2 ((opsA n).map binR)), .one (.cl 126 [] [.bx 1 0])] [(0, rdR l i false), (1, .box [.bx 0 0])] (I j) [(0, rdR l i false), (1, .box [.bx 0 0])] := by
  have h := binN_idx 126 l i false (opsA n) (fun x _ => isA l i x.1) (fun _ s => s) (fun _ => True) (fun x hx s _ => ⟨pexpr1_ok hl i hi x, fun _ => trivial⟩) () trivial
  rcases idx_find (fun x : Str × Int => isA l i x.1) (opsA n) 0 with ⟨h1, _⟩ | ⟨⟨s, o⟩, j, h1, h2, h3⟩
  · unfold opA at hn; rw [h1] at hn; cases hn
  · have e : o = op := by unfold opA at hn; rw [h1] at hn; exact Option.some.inj hn
    subst e
    rw [h3, Nat.zero_add] at h
    exact ⟨j, s, h2, by have := List.find?_some h1; exact this, h⟩
theorem pprim_bad (i : Nat) (hi : i < l.length) : FnOK Tryz.prog 152 [rdV] [(0, rdR l i true)] (aggS (exprC E0)) [(0, rdR l i true)] := by
  have _ := hl
  refine fn_ok T Tryz.func152 (by kernel_rfl) rfl rfl rfl rfl fun C hC => ?_
  repeat' first | refine g_go T hC true 400 rfl rfl ?_ | refine g_cond rfl (fun h => ?_) (fun h => ?_) | refine g_end T hC (by kernel_rfl) ?_ | refine g_splitD (fun h => ?_) (fun h => ?_) | refine g_retl T (.inl rfl) rfl ?_
  exact g_fin ⟨.inl rfl, id, _, rfl, le_ex0 _ _ _, ⟨rfl, trivial⟩, rfl, rfl⟩
theorem ppost_bad (i : Nat) (hi : i < l.length) : FnOK Tryz.prog 123 [rdV] [(0, rdR l i true)] (aggS (exprC E0)) [(0, rdR l i true)] := by
  refine fn_ok T Tryz.func123 (by kernel_rfl) rfl rfl rfl rfl fun C hC => ?_
  repeat' first | refine g_go T hC true 400 rfl rfl ?_ | refine g_cond rfl (fun h => ?_) (fun h => ?_) | refine g_end T hC (by kernel_rfl) ?_ | refine g_splitD (fun h => ?_) (fun h => ?_) | refine g_callR hC ((pprim_bad hl i hi)) (nm [0]) rfl rfl (LeSs.refl _) rfl rfl rfl rfl rfl rfl rfl rfl ?_
  refine g_loop (fun _ : Unit => True) (fun _ => ([(0, rdV), (2, .one (.bx 1002 0)), (3, .one (.bx 1003 0))], [(0, some (rdR l i true)), (1002, some (Res.box (zV [ZK.int .i64, ZK.int .i64, ZK.str, ZK.slice]))), (1003, some (Res.box ((exprC E0).map V.p)))])) (fun _ => 0) hC
    () trivial id ⟨rfl, ⟨rfl, rfl, rfl, trivial⟩, ⟨rfl, rfl, rfl, trivial⟩, rfl, fun _ _ => rfl⟩ ?_
  rintro _ _
  repeat' first | refine g_go T hC true 400 rfl rfl ?_ | refine g_cond rfl (fun h => ?_) (fun h => ?_) | refine g_end T hC (by kernel_rfl) ?_ | refine g_splitD (fun h => ?_) (fun h => ?_) | refine g_callR hC ((pskip_bad hl i hi _)) (nm [0]) rfl rfl (LeSs.refl _) rfl rfl rfl rfl rfl rfl rfl rfl ?_ | refine g_outE ?_ | refine g_retl T (.inl rfl) rfl ?_
  exact g_fin ⟨.inl rfl, id, _, rfl, .refl _, ⟨rfl, trivial⟩, rfl, rfl⟩
theorem pexpr_bad (i : Nat) (hi : i < l.length) : ∀ (k n : Nat), n + k = 6 → FnOK Tryz.prog 90 [rdV, I n] [(0, rdR l i true)] (aggS (exprC E0)) [(0, rdR l i true)] := by
  intro k
  induction k with
  | zero =>
    intro n hn
    have : n = 6 := by omega
    subst this
    refine fn_ok T Tryz.func90 (by kernel_rfl) rfl rfl rfl rfl fun C hC => ?_
    repeat' first | refine g_go T hC true 400 rfl rfl ?_ | (exfalso; simp at h; done) | refine g_cond rfl (fun h => ?_) (fun h => ?_) | refine g_end T hC (by kernel_rfl) ?_ | refine g_splitD (fun h => ?_) (fun h => ?_) | refine g_callR hC ((pskip_bad hl i hi _)) (nm [0]) rfl rfl (LeSs.refl _) rfl rfl rfl rfl rfl rfl rfl rfl ?_ | refine g_callR hC ((ppost_bad hl i hi)) (nm [0]) rfl rfl (LeSs.refl _) rfl rfl rfl rfl rfl rfl rfl rfl ?_ | refine g_retl T (.inl rfl) rfl ?_
    exact g_fin ⟨.inl rfl, id, _, rfl, .refl _, ⟨rfl, trivial⟩, rfl, rfl⟩
  | succ k ih =>
    intro n hn
    have hX : FnOK Tryz.prog 90 [rdV, I (IntKind.i64.wrap ((n : Int) + 1))] [(0, rdR l i true)] (aggS (exprC E0)) [(0, rdR l i true)] := by
      rw [wrapS (by omega)]; exact ih (n + 1) (by omega)
    refine fn_ok T Tryz.func90 (by kernel_rfl) rfl rfl rfl rfl fun C hC => ?_
    by_cases h2 : n = 2
    · repeat' first | refine g_go T hC true 400 rfl rfl ?_ | (exfalso; exact absurd h2 (by have := of_decide_eq_false h; omega)) | refine g_cond rfl (fun h => ?_) (fun h => ?_) | refine g_end T hC (by kernel_rfl) ?_ | refine g_splitD (fun h => ?_) (fun h => ?_) | refine g_callR hC ((pskip_bad hl i hi _)) (nm [0]) rfl rfl (LeSs.refl _) rfl rfl rfl rfl rfl rfl rfl rfl ?_ | refine g_callR hC (hX) (nm [0]) rfl rfl (LeSs.refl _) rfl rfl rfl rfl rfl rfl rfl rfl ?_ | refine g_retl T (.inl rfl) rfl ?_
      exact g_fin ⟨.inl rfl, id, _, rfl, .refl _, ⟨rfl, trivial⟩, rfl, rfl⟩
    · repeat' first | refine g_go T hC true 400 rfl rfl ?_ | (exfalso; have h' := of_decide_eq_true h; omega) | refine g_cond rfl (fun h => ?_) (fun h => ?_) | refine g_end T hC (by kernel_rfl) ?_ | refine g_splitD (fun h => ?_) (fun h => ?_) | refine g_callR hC (hX) (nm [0]) rfl rfl (LeSs.refl _) rfl rfl rfl rfl rfl rfl rfl rfl ?_ | refine g_retl T (.inl rfl) rfl ?_
      refine g_loop (fun _ : Unit => True) (fun _ => ([(1, I n), (2, .one (.bx 1002 0)), (4, .one (.bx 1004 0)), (5, .one (.bx 1005 0))], [(0, some (rdR l i true)), (1002, some (Res.box [.bx 0 0])), (1004, some (Res.box (zV [ZK.int .i64, ZK.int .i64, ZK.str, ZK.slice]))), (1005, some (Res.box ((exprC E0).map V.p)))])) (fun _ => 0) hC
        () trivial id ⟨rfl, ⟨rfl, rfl, rfl, rfl, trivial⟩, ⟨rfl, rfl, rfl, rfl, trivial⟩, rfl, fun _ _ => rfl⟩ ?_
      rintro _ _
      repeat' first | refine g_go T hC true 400 rfl rfl ?_ | (exfalso; have h' := of_decide_eq_false h; omega) | refine g_cond rfl (fun h => ?_) (fun h => ?_) | refine g_end T hC (by kernel_rfl) ?_ | refine g_splitD (fun h => ?_) (fun h => ?_) | refine g_idx T hC rfl rfl rfl (Int.natCast_nonneg _) (map_at (levs_at (show n < 6 by omega))) rfl rfl ?_ | refine g_call hC (levels_ok) rfl rfl (LeSs.refl _) rfl rfl rfl ?_ | refine g_callR hC ((pidx_bad hl i hi _)) (nm [0, 1002]) rfl rfl (LeSs.refl _) rfl rfl rfl rfl rfl rfl rfl rfl ?_ | refine g_retl T (.inl rfl) rfl ?_ | refine g_outR ?_
      exact g_fin ⟨.inl rfl, id, _, rfl, .refl _, ⟨rfl, trivial⟩, rfl, rfl⟩
theorem pwhole_bad (i : Nat) (hi : i < l.length) : FnOK Tryz.prog 45 [rdV] [(0, rdR l i true)] (aggS (exprC E0)) [(0, rdR l i true)] := by
  refine fn_ok T Tryz.func45 (by kernel_rfl) rfl rfl rfl rfl fun C hC => ?_
  repeat' first | refine g_go T hC true 400 rfl rfl ?_ | refine g_cond rfl (fun h => ?_) (fun h => ?_) | refine g_callR hC ((pexpr_bad hl i hi 6 0 rfl)) (nm [0]) rfl rfl (LeSs.refl _) rfl rfl rfl rfl rfl rfl rfl rfl ?_ | refine g_retl T (.inl rfl) rfl ?_
  exact g_fin ⟨.inl rfl, id, _, rfl, .refl _, ⟨rfl, trivial⟩, rfl, rfl⟩
theorem pformula_bad (i : Nat) (hi : i < l.length) : FnOK Tryz.prog 67 [rdV] [(0, rdR l i true)] (aggS (exprC E0)) [(0, rdR l i true)] := by
  refine fn_ok T Tryz.func67 (by kernel_rfl) rfl rfl rfl rfl fun C hC => ?_
  repeat' first | refine g_go T hC true 400 rfl rfl ?_ | refine g_cond rfl (fun h => ?_) (fun h => ?_) | refine g_callR hC ((ptake_bad hl i hi _)) (nm [0]) rfl rfl (LeSs.refl _) rfl rfl rfl rfl rfl rfl rfl rfl ?_ | refine g_callR hC ((pwhole_bad hl i hi)) (nm [0]) rfl rfl (LeSs.refl _) rfl rfl rfl rfl rfl rfl rfl rfl ?_ | refine g_retl T (.inl rfl) rfl ?_
  exact g_fin ⟨.inl rfl, id, _, rfl, .refl _, ⟨rfl, trivial⟩, rfl, rfl⟩
abbrev nilV : S := .one (.p (.k (.slice none 0 0)))
theorem pstmts_bad (i : Nat) (hi : i < l.length) : FnOK Tryz.prog 101 [rdV] [(0, rdR l i true)] (pS (stmtsP [])) [(0, rdR l i true)] := by
  refine fn_ok T Tryz.func101 (by kernel_rfl) rfl rfl rfl rfl fun C hC => ?_
  repeat' first | refine g_go T hC true 400 rfl rfl ?_ | refine g_cond rfl (fun h => ?_) (fun h => ?_) | refine g_splitG rfl rfl rfl (fun h => ?_) (fun h => ?_) | refine g_splitP rfl rfl (fun h => ?_) (fun h => ?_) | refine g_retl T (.inl rfl) rfl ?_
  refine g_loop (fun _ : Unit => True) (fun _ => ([(0, rdV), (3, nilV)], [(0, some (rdR l i true))])) (fun _ => 0) hC
    () trivial id ⟨rfl, ⟨rfl, rfl, trivial⟩, ⟨rfl, trivial⟩, rfl, fun _ _ => rfl⟩ ?_
  rintro _ _
  repeat' first | refine g_go T hC true 400 rfl rfl ?_ | refine g_cond rfl (fun h => ?_) (fun h => ?_) | refine g_splitG rfl rfl rfl (fun h => ?_) (fun h => ?_) | refine g_splitP rfl rfl (fun h => ?_) (fun h => ?_) | refine g_outE ?_ | refine g_callR hC ((ptake_bad hl i hi _)) (nm [0]) rfl rfl (LeSs.refl _) rfl rfl rfl rfl rfl rfl rfl rfl ?_ | refine g_retl T (.inl rfl) rfl ?_
  exact g_fin ⟨.inl rfl, id, _, rfl, .one (.nil 5), ⟨rfl, trivial⟩, rfl, rfl⟩
theorem pblock_bad (i : Nat) (hi : i < l.length) : FnOK Tryz.prog 166 [rdV] [(0, rdR l i true)] (pS (stmtsP [])) [(0, rdR l i true)] := by
  refine fn_ok T Tryz.func166 (by kernel_rfl) rfl rfl rfl rfl fun C hC => ?_
  repeat' first | refine g_go T hC true 400 rfl rfl ?_ | refine g_cond rfl (fun h => ?_) (fun h => ?_) | refine g_callR hC ((ptake_bad hl i hi _)) (nm [0]) rfl rfl (LeSs.refl _) rfl rfl rfl rfl rfl rfl rfl rfl ?_ | refine g_callR hC ((pstmts_bad hl i hi)) (nm [0]) rfl rfl (LeSs.refl _) rfl rfl rfl rfl rfl rfl rfl rfl ?_ | refine g_retl T (.inl rfl) rfl ?_
  exact g_fin ⟨.inl rfl, id, _, rfl, .refl _, ⟨rfl, trivial⟩, rfl, rfl⟩
theorem plistF_bad (i : Nat) (hi : i < l.length) (sep fin : Str) : FnOK Tryz.prog 63 [rdV, Sr sep, Sr fin, .one (.cl 64 [.bx 0 0] [])] [(0, rdR l i true)] (pS (fieldsP [])) [(0, rdR l i true)] := by
  refine fn_ok T Tryz.func63 (by kernel_rfl) rfl rfl rfl rfl fun C hC => ?_
  repeat' first | refine g_go T hC true 400 rfl rfl ?_ | refine g_cond rfl (fun h => ?_) (fun h => ?_) | refine g_splitG rfl rfl rfl (fun h => ?_) (fun h => ?_) | refine g_splitP rfl rfl (fun h => ?_) (fun h => ?_) | refine g_retl T (.inl rfl) rfl ?_
  refine g_loop (fun _ : Unit => True) (fun _ => ([(0, rdV), (1, Sr sep), (2, Sr fin), (9, nilV)], [(0, some (rdR l i true))])) (fun _ => 0) hC
    () trivial id ⟨rfl, ⟨rfl, rfl, rfl, rfl, trivial⟩, ⟨rfl, trivial⟩, rfl, fun _ _ => rfl⟩ ?_
  rintro _ _
  repeat' first | refine g_go T hC true 400 rfl rfl ?_ | refine g_cond rfl (fun h => ?_) (fun h => ?_) | refine g_splitG rfl rfl rfl (fun h => ?_) (fun h => ?_) | refine g_splitP rfl rfl (fun h => ?_) (fun h => ?_) | refine g_outE ?_ | refine g_callR hC ((ptake_bad hl i hi _)) (nm [0]) rfl rfl (LeSs.refl _) rfl rfl rfl rfl rfl rfl rfl rfl ?_ | refine g_retl T (.inl rfl) rfl ?_
  exact g_fin ⟨.inl rfl, id, _, rfl, .one (.nil 2), ⟨rfl, trivial⟩, rfl, rfl⟩
end
end Hw.Pa
namespace Hw.Pa
open Go Go.Proofs Hw.M

def mvP (a b i : Nat) : Nat := match Nat.beq i a with
  | true => b
  | false => i
theorem mvP_low {a b i : Nat} (ha : 100 ≤ a) (hi : i < 100) : mvP a b i = i := by
  unfold mvP; rw [beq_ne (by omega)]
abbrev enE (x : Ex) : S := aggS (exprC x)
theorem go_key {α β : Type} {r : PJ α} {f : α → Nat → PJ β} {g : α → β} {x : β} {j : Nat} {b : Bool} (h : PJ.go r f g = some (x, j, b)) :
    ∃ y k b1, r = some (y, k, b1) ∧ (b1 = false → f y k = some (x, j, b)) ∧ (b1 = true → x = g y ∧ j = k ∧ b = true) := by
  rcases r with _ | ⟨y, k, _ | _⟩
  · cases h
  · exact ⟨y, k, false, rfl, fun _ => h, fun h => by cases h⟩
  · cases h; exact ⟨y, j, true, rfl, (fun h => by cases h), fun _ => ⟨rfl, rfl, rfl⟩⟩
structure EX (l : List Tok) (f : Nat) : Prop where
  expr : ∀ (n i : Nat), n ≤ 6 → i < l.length → RJ l 90 [rdV, I n] enE i (exprJ l f n i)
  post : ∀ i, i < l.length → RJ l 123 [rdV] enE i (postJ l f i)
  prim : ∀ i, i < l.length → RJ l 152 [rdV] enE i (primJ l f i)
  args : ∀ i, i < l.length → RJ l 169 [rdV, Sr (⟨#[44]⟩ : ByteArray), Sr (⟨#[41]⟩ : ByteArray), .one (.cl 45 [.bx 0 0] [])] (fun a => pS (exprsP a)) i (argsJ l f i [])
  parts : ∀ (i k : Nat) (op : Int), 1 ≤ k → k ≤ 3 → i < l.length → RJ l 170 [rdV, I op, I (k : Nat)] (fun a => enE (.mk op 0 (⟨#[]⟩ : ByteArray) a)) i (partsJ l f k i [])
theorem ok_er {α : Type} {r : PJ α} {x : α} {j : Nat} (h : r = some (x, j, false)) : PJ.er r = .ok x j := by rw [h]; rfl
theorem exprJ_fwd {l : List Tok} {f n i : Nat} {x : Ex} {j : Nat} (h : exprJ l f n i = some (x, j, false)) : i < j := by
  have := ok_er h
  rw [(er_expr f).1] at this
  exact ((expr_fwd f).1 _ _ _ _ this).1
abbrev z44 : Res := Res.box (zV [ZK.int .i64, ZK.int .i64, ZK.str, ZK.slice])
section
variable {l : List Tok} (hl : GoodL l)
include hl
theorem pwhole_ok {f : Nat} (hX : EX l f) (i : Nat) (hi : i < l.length) : RJ l 45 [rdV] enE i (exprJ l f 0 i) := by
  have _ := hl
  intro x j b hR
  obtain ⟨hj, hE⟩ := hX.expr 0 i (by decide) hi _ _ _ hR
  refine ⟨hj, ?_⟩
  refine fn_ok T Tryz.func45 (by kernel_rfl) rfl rfl rfl rfl fun C hC => ?_
  repeat' first | refine g_go T hC true 400 rfl rfl ?_ | refine g_cond rfl (fun h => ?_) (fun h => ?_) | refine g_callR hC (hE) (nm [0]) rfl rfl (LeSs.refl _) rfl rfl rfl rfl rfl rfl rfl rfl ?_ | refine g_retl T (.inl rfl) rfl ?_
  exact g_fin ⟨.inl rfl, id, _, rfl, .refl _, ⟨rfl, trivial⟩, rfl, rfl⟩
theorem ppost_step (f : Nat) (ih : ∀ g, g ≤ f → EX l g) (i : Nat) (hi : i < l.length) : RJ l 123 [rdV] enE i (postJ l (f + 1) i) := by
  intro xf jf bf hR
  simp only [postJ] at hR
  obtain ⟨y, k, b1, hp, hg, hb⟩ := go_key hR
  obtain ⟨hk, hP⟩ := (ih f (Nat.le_refl _)).prim i hi _ _ _ hp
  have hjf : jf < l.length := by
    cases b1 with
    | true => rw [(hb rfl).2.1]; exact hk
    | false =>
      have hd := hg rfl
      clear hR hg hb hp hP
      have : ∀ g y k, k < l.length → dotsJ l g y k = some (xf, jf, bf) → jf < l.length := by
        intro g
        induction g with
        | zero => intro y k _ h; simp only [dotsJ] at h; cases h
        | succ g ihg =>
          intro y k hk h
          simp only [dotsJ] at h
          split at h
          · rename_i hs
            rcases go_some h with ⟨s, k2, h1, h2⟩ | ⟨s, h1, h2, h3⟩
            · exact ihg _ _ (pname_ok hl _ (isA_next hl hs) _ _ _ h1).1 h2
            · exact (pname_ok hl _ (isA_next hl hs) _ _ _ h1).1
          · cases h; exact hk
      exact this f y k hk hd
  refine ⟨hjf, ?_⟩
  refine fn_ok T Tryz.func123 (by kernel_rfl) rfl rfl rfl rfl fun C hC => ?_
  repeat' first | refine g_go T hC true 400 rfl rfl ?_ | refine g_cond rfl (fun h => ?_) (fun h => ?_) | refine g_end T hC (by kernel_rfl) ?_ | refine g_splitD (fun h => ?_) (fun h => ?_) | refine g_callR hC (hP) (nm [0]) rfl rfl (LeSs.refl _) rfl rfl rfl rfl rfl rfl rfl rfl ?_
  refine g_loop (fun q : Ex × Nat × Bool × Nat => q.2.1 < l.length ∧ (q.2.2.1 = false → dotsJ l q.2.2.2 q.1 q.2.1 = some (xf, jf, bf)) ∧ (q.2.2.1 = true → xf = q.1 ∧ jf = q.2.1 ∧ bf = true))
    (fun q => ([(0, rdV), (2, .one (.bx 1002 0)), (3, .one (.bx 1003 0))], [(0, some (rdR l q.2.1 q.2.2.1)), (1002, some z44), (1003, some (Res.box ((exprC q.1).map V.p)))])) (fun q => if q.2.2.1 then 0 else q.2.2.2 + 1) hC
    (y, k, b1, f) ⟨hk, hg, hb⟩ id ⟨rfl, ⟨rfl, rfl, rfl, trivial⟩, ⟨rfl, rfl, rfl, trivial⟩, rfl, fun _ _ => rfl⟩ ?_
  clear hk hg hb hp hP hR
  rintro ⟨y, k, b1, g⟩ ⟨hk, hg, hb⟩
  simp only at hk hg hb
  cases b1 with
  | true =>
    obtain ⟨rfl, rfl, rfl⟩ := hb rfl
    repeat' first | refine g_go T hC true 400 rfl rfl ?_ | refine g_cond rfl (fun h => ?_) (fun h => ?_) | refine g_end T hC (by kernel_rfl) ?_ | refine g_splitD (fun h => ?_) (fun h => ?_) | refine g_callR hC ((pskip_bad hl _ hk _)) (nm [0]) rfl rfl (LeSs.refl _) rfl rfl rfl rfl rfl rfl rfl rfl ?_ | refine g_outE ?_ | refine g_retl T (.inl rfl) rfl ?_
    exact g_fin ⟨.inl rfl, id, _, rfl, .refl _, ⟨rfl, trivial⟩, rfl, rfl⟩
  | false =>
    have hd := hg rfl
    clear hg hb
    cases g with
    | zero => simp only [dotsJ] at hd; cases hd
    | succ g =>
      simp only [dotsJ] at hd
      by_cases hs : isA l k (⟨#[46]⟩ : ByteArray) = true
      · rw [if_pos hs] at hd
        obtain ⟨s, k2, b2, hn, h2, h3⟩ := go_key hd
        obtain ⟨hk2, hN⟩ := pname_ok hl _ (isA_next hl hs) _ _ _ hn
        repeat' first | refine g_go T hC true 400 rfl rfl ?_ | refine g_cond rfl (fun h => ?_) (fun h => ?_) | refine g_end T hC (by kernel_rfl) ?_ | refine g_splitD (fun h => ?_) (fun h => ?_) | refine g_callR hC ((pskip_y hl hs)) (nm [0]) rfl rfl (LeSs.refl _) rfl rfl rfl rfl rfl rfl rfl rfl ?_ | refine g_callR hC (hN) (nm [0]) rfl rfl (LeSs.refl _) rfl rfl rfl rfl rfl rfl rfl rfl ?_ | refine g_lit T hC (rows := [exprR y]) rfl rfl rfl (by simp only [exprR_eq]; rfl) rfl rfl rfl rfl rfl ?_
        exact g_round (.mk 5 0 s [y], k2, b2, g) ⟨hk2, h2, h3⟩ id (by cases b2 <;> simp) ⟨rfl, ⟨rfl, rfl, rfl, trivial⟩, ⟨rfl, rfl, rfl, trivial⟩, rfl, fun _ _ => rfl⟩
      · rw [if_neg hs] at hd
        cases hd
        repeat' first | refine g_go T hC true 400 rfl rfl ?_ | refine g_cond rfl (fun h => ?_) (fun h => ?_) | refine g_end T hC (by kernel_rfl) ?_ | refine g_splitD (fun h => ?_) (fun h => ?_) | refine g_callR hC ((pskip_n hl hk hs)) (nm [0]) rfl rfl (LeSs.refl _) rfl rfl rfl rfl rfl rfl rfl rfl ?_ | refine g_outE ?_ | refine g_retl T (.inl rfl) rfl ?_
        exact g_fin ⟨.inl rfl, id, _, rfl, .refl _, ⟨rfl, trivial⟩, rfl, rfl⟩
end
end Hw.Pa
namespace Hw.Pa
open Go Go.Proofs Hw.M

section
variable {l : List Tok}
def RG {α : Type} (l : List Tok) (r : PJ α) : Prop := ∀ x j b, r = some (x, j, b) → j < l.length
theorem RG.go {α β : Type} {r : PJ α} {f : α → Nat → PJ β} {g : α → β} (h : RG l r) (hf : ∀ y k, k < l.length → RG l (f y k)) : RG l (PJ.go r f g) := by
  intro x j b e
  rcases r with _ | ⟨y, k, _ | _⟩
  · cases e
  · exact hf y k (h _ _ _ rfl) _ _ _ e
  · cases e; exact h _ _ _ rfl
theorem RG.ok {α : Type} {x : α} {i : Nat} (h : i < l.length) : RG l (PJ.ok x i) := by intro x j b e; cases e; exact h
theorem RG.no {α : Type} {x : α} {i : Nat} (h : i < l.length) : RG l (PJ.no x i) := by intro x j b e; cases e; exact h
theorem RG.none {α : Type} : RG (α := α) l (Option.none) := by intro x j b e; cases e
theorem RG.ite {α : Type} {c : Prop} [Decidable c] {a b : PJ α} (h1 : c → RG l a) (h2 : ¬c → RG l b) : RG l (if c then a else b) := by
  split
  · rename_i h; exact h1 h
  · rename_i h; exact h2 h
variable (hl : GoodL l)
include hl
theorem RG.one {i : Nat} (hi : i < l.length) (s : Str) : RG l (oneJ l s i) := .ite (fun h => .ok (isA_next hl h)) fun _ => .no hi
theorem RG.name {i : Nat} (hi : i < l.length) : RG l (nameJ l i) := fun _ _ _ e => (pname_ok hl i hi _ _ _ e).1
theorem RG.int {i : Nat} (hi : i < l.length) : RG l (intJ l i) := fun _ _ _ e => (pint_ok hl i hi _ _ _ e).1
theorem RG.typ {i : Nat} (hi : i < l.length) : RG l (typJ l i) := fun _ _ _ e => (ptyp_ok hl i hi _ _ _ e).1
theorem RG.field {i : Nat} (hi : i < l.length) : RG l (fieldJ l i) := fun _ _ _ e => (pfield_ok hl i hi _ _ _ e).1
theorem RG.sep {i : Nat} (hi : i < l.length) (s : Str) (n : Nat) : RG l (if n = 0 then PJ.ok () i else oneJ l s i) := .ite (fun _ => .ok hi) fun _ => .one hl hi s
theorem opA_next {i n : Nat} {op : Int} (h : opA l i n = some op) : i + 1 < l.length := by
  unfold opA at h
  rw [Option.map_eq_some_iff] at h
  obtain ⟨a, h1, _⟩ := h
  have h2 := List.find?_some h1
  exact isA_next hl h2
theorem expr_rg : ∀ f : Nat, (∀ n i, i < l.length → RG l (exprJ l f n i)) ∧ (∀ n x i, i < l.length → RG l (moreJ l f n x i)) ∧ (∀ i, i < l.length → RG l (postJ l f i)) ∧ (∀ x i, i < l.length → RG l (dotsJ l f x i)) ∧
    (∀ i a, i < l.length → RG l (argsJ l f i a)) ∧ (∀ k i a, i < l.length → RG l (partsJ l f k i a)) ∧ (∀ i, i < l.length → RG l (primJ l f i)) := by
  intro f
  induction f with
  | zero => exact ⟨fun _ _ _ => by simp only [exprJ]; exact .none, fun _ _ _ _ => by simp only [moreJ]; exact .none, fun _ _ => by simp only [postJ]; exact .none, fun _ _ _ => by simp only [dotsJ]; exact .none, fun _ _ _ => by simp only [argsJ]; exact .none, fun _ _ _ _ => by simp only [partsJ]; exact .none, fun _ _ => by simp only [primJ]; exact .none⟩
  | succ f ih =>
    obtain ⟨h1, h2, h3, h4, h5, h6, h7⟩ := ih
    refine ⟨fun n i hi => ?_, fun n x i hi => ?_, fun i hi => ?_, fun x i hi => ?_, fun i a hi => ?_, fun k i a hi => ?_, fun i hi => ?_⟩
    · simp only [exprJ]
      exact .ite (fun _ => .ite (fun h => .go (h1 _ _ (isA_next hl h)) fun _ _ hk => .ok hk) fun _ => h1 _ _ hi) fun _ => .ite (fun _ => .ite (fun h => .go (h1 _ _ (isA_next hl h)) fun _ _ hk => .ok hk) fun _ => h3 _ hi) fun _ => .go (h1 _ _ hi) fun _ _ hk => h2 _ _ _ hk
    · simp only [moreJ]
      cases ho : opA l i n with
      | none => exact .ok hi
      | some op => exact .go (h1 _ _ (opA_next hl ho)) fun _ _ hk => .ite (fun _ => .ok hk) fun _ => h2 _ _ _ hk
    · simp only [postJ]; exact .go (h7 _ hi) fun _ _ hk => h4 _ _ hk
    · simp only [dotsJ]; exact .ite (fun h => .go (.name hl (isA_next hl h)) fun _ _ hk => h4 _ _ hk) fun _ => .ok hi
    · simp only [argsJ]; exact .ite (fun h => .ok (isA_next hl h)) fun _ => .go (.sep hl hi _ _) fun _ _ hk => .go (h1 _ _ hk) fun _ _ hk => h5 _ _ hk
    · simp only [partsJ]; exact .ite (fun _ => .go (.one hl hi _) fun _ _ hk => .ok hk) fun _ => .go (.one hl hi _) fun _ _ hk => .go (h1 _ _ hk) fun _ _ hk => h6 _ _ _ hk
    · simp only [primJ]
      cases ht : l[i]? with
      | none => exact .no hi
      | some t =>
        refine .ite (fun h => .ok (hl.next ht (by omega))) fun _ => .ite (fun h => .ite (fun h => .go (h5 _ _ (isA_next hl h)) fun _ _ hk => .ok hk) fun _ => .ok (hl.next ht (by omega))) fun _ => ?_
        refine .ite (fun h => .ok (isA_next hl h)) fun _ => .ite (fun h => .ok (isA_next hl h)) fun _ => .ite (fun h => .ok (isA_next hl h)) fun _ => .ite (fun h => .ok (isA_next hl h)) fun _ => .ite (fun h => .go (.name hl (isA_next hl h)) fun _ _ hk => .ok hk) fun _ => ?_
        refine .ite (fun h => .go (h6 _ _ _ (isA_next hl h)) fun _ _ hk => .ok hk) fun _ => .ite (fun h => .go (h6 _ _ _ (isA_next hl h)) fun _ _ hk => .ok hk) fun _ => .ite (fun h => .go (h6 _ _ _ (isA_next hl h)) fun _ _ hk => .ok hk) fun _ => .ite (fun h => .go (h6 _ _ _ (isA_next hl h)) fun _ _ hk => .ok hk) fun _ => ?_
        exact .ite (fun h => .go (h1 _ _ (isA_next hl h)) fun _ _ hk => .go (.one hl hk _) fun _ _ hk => .ok hk) fun _ => .no hi
theorem stmt_rg : ∀ f : Nat, (∀ i a, i < l.length → RG l (stmtsJ l f i a)) ∧ (∀ i, i < l.length → RG l (blockJ l f i)) ∧ (∀ i, i < l.length → RG l (stmtJ l f i)) := by
  intro f
  induction f with
  | zero => exact ⟨fun _ _ _ => by simp only [stmtsJ]; exact .none, fun _ _ => by simp only [blockJ]; exact .none, fun _ _ => by simp only [stmtJ]; exact .none⟩
  | succ f ih =>
    obtain ⟨h1, h2, h3⟩ := ih
    have hE := (expr_rg hl f).1
    have hP := (expr_rg hl f).2.2.1
    refine ⟨fun i a hi => ?_, fun i hi => ?_, fun i hi => ?_⟩
    · simp only [stmtsJ]; exact .ite (fun h => .ok (isA_next hl h)) fun _ => .go (h3 _ hi) fun _ _ hk => h1 _ _ hk
    · simp only [blockJ]; exact .go (.one hl hi _) fun _ _ hk => h1 _ _ hk
    · simp only [stmtJ]
      refine .ite (fun h => .go (hE _ _ (isA_next hl h)) fun _ _ hk => .go (h2 _ hk) fun _ _ hk => .ite (fun h => .go (h2 _ (isA_next hl h)) fun _ _ hk => .ok hk) fun _ => .ok hk) fun _ => ?_
      refine .ite (fun h => .go (hE _ _ (isA_next hl h)) fun _ _ hk => .go (h2 _ hk) fun _ _ hk => .ok hk) fun _ => ?_
      refine .ite (fun h => .ite (fun h => .ok (isA_next hl h)) fun _ => .go (hE _ _ (isA_next hl h)) fun _ _ hk => .go (.one hl hk _) fun _ _ hk => .ok hk) fun _ => ?_
      refine .go (hP _ hi) fun _ _ hk => .ite (fun h => .go (hE _ _ (isA_next hl h.1)) fun _ _ hk => .go (.one hl hk _) fun _ _ hk => .ok hk) fun _ => .ite (fun h => .go (hE _ _ (isA_next hl h.1)) fun _ _ hk => .go (.one hl hk _) fun _ _ hk => .ok hk) fun _ => .ite (fun h => .go (.one hl hk _) fun _ _ hk => .ok hk) fun _ => .no hk
theorem list_rg {α : Type} (z : α) (sep fin : Str) (one : Nat → PJ α) (ho : ∀ i, i < l.length → RG l (one i)) : ∀ (f i : Nat) (acc : List α), i < l.length → RG l (listJ l z sep fin one f i acc)
  | 0, _, _, _ => .none
  | f + 1, i, acc, hi => by
    simp only [listJ]
    exact .ite (fun h => .ok (isA_next hl h)) fun _ => .go (.sep hl hi _ _) fun _ _ hk => .go (ho _ hk) fun _ _ hk => list_rg z sep fin one ho f _ _ hk
theorem locs_rg : ∀ (f i : Nat) (acc : List Fld), i < l.length → RG l (locsJ l f i acc)
  | 0, _, _, _ => .none
  | f + 1, i, acc, hi => by
    simp only [locsJ]
    exact .ite (fun h => .go (.field hl (isA_next hl h)) fun _ _ hk => .go (.one hl hk _) fun _ _ hk => locs_rg f _ _ hk) fun _ => .ok hi
theorem proc_rg (f i : Nat) (hi : i < l.length) : RG l (procJ l f i) :=
  .go (.name hl hi) fun _ _ hk => .go (.one hl hk _) fun _ _ hk => .go (list_rg hl _ _ _ _ (fun _ h => .field hl h) f _ _ hk) fun _ _ hk => .go (.ite (fun _ => .ok hk) fun _ => .typ hl hk) fun _ _ hk => .go (.one hl hk _) fun _ _ hk =>
    .go (locs_rg hl f _ _ hk) fun _ _ hk => .go ((stmt_rg hl f).1 _ _ hk) fun _ _ hk => .ok hk
theorem formula_rg (f i : Nat) (hi : i < l.length) : RG l (formulaJ l f i) := .go (.one hl hi _) fun _ _ hk => (expr_rg hl f).1 _ _ hk
theorem measure_rg (f i : Nat) (hi : i < l.length) : RG l (measureJ l f i) :=
  .go (.name hl hi) fun _ _ hk => .go (.one hl hk _) fun _ _ hk => .go (.name hl hk) fun _ _ hk => .go (.one hl hk _) fun _ _ hk => .go (.one hl hk _) fun _ k hk =>
    .go (by split
            · rename_i h; exact .int hl (isA_next hl h)
            · exact .int hl hk) fun _ _ hk => .go (formula_rg hl f _ hk) fun _ _ hk => .ok hk
theorem item_rg (f i : Nat) (d : Desc) (hi : i < l.length) : RG l (itemJ l f i d) := by
  unfold itemJ
  refine .ite (fun h => .go (.name hl (isA_next hl h)) fun _ _ hk => .go (.one hl hk _) fun _ _ hk => .go (list_rg hl _ _ _ _ (fun _ h => .field hl h) f _ _ hk) fun _ _ hk => .ok hk) fun _ => ?_
  refine .ite (fun h => .go (.field hl (isA_next hl h)) fun _ _ hk => .ok hk) fun _ => .ite (fun h => .go (proc_rg hl f _ (isA_next hl h)) fun _ _ hk => .ok hk) fun _ => .ite (fun h => .go (measure_rg hl f _ (isA_next hl h)) fun _ _ hk => .ok hk) fun _ => ?_
  refine .ite (fun h => .go (.name hl (isA_next hl h)) fun _ _ hk => .go (.ite (fun h => .go (.name hl (isA_next hl h)) fun _ _ hk => .go (.one hl hk _) fun _ _ hk => .ok hk) fun _ => .ok hk) fun _ _ hk => .go (formula_rg hl f _ hk) fun _ _ hk => .ok hk) fun _ => ?_
  refine .ite (fun h => .go (.ite (fun _ => .ok (isA_next hl h)) fun _ => .name hl (isA_next hl h)) fun _ _ hk => .go (formula_rg hl f _ hk) fun _ _ hk => .ok hk) fun _ => ?_
  exact .ite (fun h => .go (.name hl (isA_next hl h)) fun _ _ hk => .go (formula_rg hl f _ hk) fun _ _ hk => .ok hk) fun _ => .no hi
theorem items_rg (f : Nat) : ∀ (g i : Nat) (d : Desc), i < l.length → RG l (itemsJ l f g i d)
  | 0, _, _, _ => .none
  | g + 1, i, d, hi => by
    simp only [itemsJ]
    exact .ite (fun h => .ok (isA_next hl h)) fun _ => .go (item_rg hl f _ _ hi) fun _ _ hk => items_rg f g _ _ hk
end
end Hw.Pa
namespace Hw.Pa
open Go Go.Proofs Hw.M

section
variable {l : List Tok} (hl : GoodL l)
include hl
theorem pexpr_step (f : Nat) (ih : ∀ g, g ≤ f → EX l g) (n i : Nat) (hn : n ≤ 6) (hi : i < l.length) : RJ l 90 [rdV, I n] enE i (exprJ l (f + 1) n i) := by
  intro xf jf bf hR
  have hjf := (expr_rg hl (f + 1)).1 n i hi _ _ _ hR
  refine ⟨hjf, ?_⟩
  simp only [exprJ] at hR
  by_cases h2 : n = 2
  · subst h2
    rw [if_pos rfl] at hR
    by_cases hs : isA l i (⟨#[110, 111, 116]⟩ : ByteArray) = true
    · rw [if_pos hs] at hR
      obtain ⟨y, hy, rfl⟩ : ∃ y, exprJ l f 2 (i + 1) = some (y, jf, bf) ∧ xf = .mk 18 0 (⟨#[]⟩ : ByteArray) [y] := by
        rcases go_some hR with ⟨y, k, h1, h2⟩ | ⟨y, h1, h2, h3⟩
        · cases h2; exact ⟨y, h1, rfl⟩
        · subst h3; exact ⟨y, h1, h2⟩
      obtain ⟨_, hE⟩ := (ih f (Nat.le_refl _)).expr 2 _ (by decide) (isA_next hl hs) _ _ _ hy
      refine fn_ok T Tryz.func90 (by kernel_rfl) rfl rfl rfl rfl fun C hC => ?_
      repeat' first | refine g_go T hC true 400 rfl rfl ?_ | (exfalso; simp at h; done) | refine g_cond rfl (fun h => ?_) (fun h => ?_) | refine g_end T hC (by kernel_rfl) ?_ | refine g_splitD (fun h => ?_) (fun h => ?_) | refine g_callR hC ((pskip_y hl hs)) (nm [0]) rfl rfl (LeSs.refl _) rfl rfl rfl rfl rfl rfl rfl rfl ?_ | refine g_callR hC (hE) (nm [0]) rfl rfl (LeSs.refl _) rfl rfl rfl rfl rfl rfl rfl rfl ?_ | refine g_lit T hC (rows := [exprR y]) rfl rfl rfl (by simp only [exprR_eq]; rfl) rfl rfl rfl rfl rfl ?_ | refine g_retl T (.inl rfl) rfl ?_
      exact g_fin ⟨.inl rfl, id, _, rfl, .refl _, ⟨rfl, trivial⟩, rfl, rfl⟩
    · rw [if_neg hs] at hR
      obtain ⟨_, hE⟩ := (ih f (Nat.le_refl _)).expr 3 _ (by decide) hi _ _ _ hR
      have hE' : FnOK Tryz.prog 90 [rdV, I (IntKind.i64.wrap (((2 : Nat) : Int) + 1))] [(0, rdR l i false)] (enE xf) [(0, rdR l jf bf)] := hE
      refine fn_ok T Tryz.func90 (by kernel_rfl) rfl rfl rfl rfl fun C hC => ?_
      repeat' first | refine g_go T hC true 400 rfl rfl ?_ | (exfalso; simp at h; done) | refine g_cond rfl (fun h => ?_) (fun h => ?_) | refine g_end T hC (by kernel_rfl) ?_ | refine g_splitD (fun h => ?_) (fun h => ?_) | refine g_callR hC ((pskip_n hl hi hs)) (nm [0]) rfl rfl (LeSs.refl _) rfl rfl rfl rfl rfl rfl rfl rfl ?_ | refine g_callR hC (hE') (nm [0]) rfl rfl (LeSs.refl _) rfl rfl rfl rfl rfl rfl rfl rfl ?_ | refine g_retl T (.inl rfl) rfl ?_
      exact g_fin ⟨.inl rfl, id, _, rfl, .refl _, ⟨rfl, trivial⟩, rfl, rfl⟩
  rw [if_neg h2] at hR
  by_cases h6 : n = 6
  · subst h6
    rw [if_pos rfl] at hR
    by_cases hs : isA l i (⟨#[45]⟩ : ByteArray) = true
    · rw [if_pos hs] at hR
      obtain ⟨y, hy, rfl⟩ : ∃ y, exprJ l f 6 (i + 1) = some (y, jf, bf) ∧ xf = .mk 8 0 (⟨#[]⟩ : ByteArray) [y] := by
        rcases go_some hR with ⟨y, k, h1, h2⟩ | ⟨y, h1, h2, h3⟩
        · cases h2; exact ⟨y, h1, rfl⟩
        · subst h3; exact ⟨y, h1, h2⟩
      obtain ⟨_, hE⟩ := (ih f (Nat.le_refl _)).expr 6 _ (by decide) (isA_next hl hs) _ _ _ hy
      refine fn_ok T Tryz.func90 (by kernel_rfl) rfl rfl rfl rfl fun C hC => ?_
      repeat' first | refine g_go T hC true 400 rfl rfl ?_ | (exfalso; simp at h; done) | refine g_cond rfl (fun h => ?_) (fun h => ?_) | refine g_end T hC (by kernel_rfl) ?_ | refine g_splitD (fun h => ?_) (fun h => ?_) | refine g_callR hC ((pskip_y hl hs)) (nm [0]) rfl rfl (LeSs.refl _) rfl rfl rfl rfl rfl rfl rfl rfl ?_ | refine g_callR hC (hE) (nm [0]) rfl rfl (LeSs.refl _) rfl rfl rfl rfl rfl rfl rfl rfl ?_ | refine g_lit T hC (rows := [exprR y]) rfl rfl rfl (by simp only [exprR_eq]; rfl) rfl rfl rfl rfl rfl ?_ | refine g_retl T (.inl rfl) rfl ?_
      exact g_fin ⟨.inl rfl, id, _, rfl, .refl _, ⟨rfl, trivial⟩, rfl, rfl⟩
    · rw [if_neg hs] at hR
      obtain ⟨_, hE⟩ := (ih f (Nat.le_refl _)).post _ hi _ _ _ hR
      refine fn_ok T Tryz.func90 (by kernel_rfl) rfl rfl rfl rfl fun C hC => ?_
      repeat' first | refine g_go T hC true 400 rfl rfl ?_ | (exfalso; simp at h; done) | refine g_cond rfl (fun h => ?_) (fun h => ?_) | refine g_end T hC (by kernel_rfl) ?_ | refine g_splitD (fun h => ?_) (fun h => ?_) | refine g_callR hC ((pskip_n hl hi hs)) (nm [0]) rfl rfl (LeSs.refl _) rfl rfl rfl rfl rfl rfl rfl rfl ?_ | refine g_callR hC (hE) (nm [0]) rfl rfl (LeSs.refl _) rfl rfl rfl rfl rfl rfl rfl rfl ?_ | refine g_retl T (.inl rfl) rfl ?_
      exact g_fin ⟨.inl rfl, id, _, rfl, .refl _, ⟨rfl, trivial⟩, rfl, rfl⟩
  rw [if_neg h6] at hR
  obtain ⟨y, k, b1, hp, hg, hb⟩ := go_key hR
  have hE : k < l.length ∧ FnOK Tryz.prog 90 [rdV, I (IntKind.i64.wrap ((n : Int) + 1))] [(0, rdR l i false)] (enE y) [(0, rdR l k b1)] := by
    rw [wrapS (by omega)]; exact (ih f (Nat.le_refl _)).expr (n + 1) _ (by omega) hi _ _ _ hp
  obtain ⟨hk, hE⟩ := hE
  refine fn_ok T Tryz.func90 (by kernel_rfl) rfl rfl rfl rfl fun C hC => ?_
  repeat' first | refine g_go T hC true 400 rfl rfl ?_ | (exfalso; have h' := of_decide_eq_true h; omega) | refine g_cond rfl (fun h => ?_) (fun h => ?_) | refine g_end T hC (by kernel_rfl) ?_ | refine g_splitD (fun h => ?_) (fun h => ?_) | refine g_callR hC (hE) (nm [0]) rfl rfl (LeSs.refl _) rfl rfl rfl rfl rfl rfl rfl rfl ?_
  refine g_loop (fun q : Ex × Nat × Bool × Nat => q.2.1 < l.length ∧ q.2.2.2 ≤ f ∧ (q.2.2.1 = false → moreJ l q.2.2.2 n q.1 q.2.1 = some (xf, jf, bf)) ∧ (q.2.2.1 = true → xf = q.1 ∧ jf = q.2.1 ∧ bf = true))
    (fun q => ([(1, I n), (2, .one (.bx 1002 0)), (4, .one (.bx 1004 0)), (5, .one (.bx 1005 0))], [(0, some (rdR l q.2.1 q.2.2.1)), (1002, some (Res.box [.bx 0 0])), (1004, some z44), (1005, some (Res.box ((exprC q.1).map V.p)))])) (fun q => if q.2.2.1 then 0 else q.2.2.2 + 1) hC
    (y, k, b1, f) ⟨hk, Nat.le_refl _, hg, hb⟩ id ⟨rfl, ⟨rfl, rfl, rfl, rfl, trivial⟩, ⟨rfl, rfl, rfl, rfl, trivial⟩, rfl, fun _ _ => rfl⟩ ?_
  clear hk hg hb hp hE hR
  rintro ⟨y, k, b1, g⟩ ⟨hk, hgf, hg, hb⟩
  simp only at hk hgf hg hb
  have hlv := levs_at (show n < 6 by omega)
  cases b1 with
  | true =>
    obtain ⟨rfl, rfl, rfl⟩ := hb rfl
    repeat' first | refine g_go T hC true 400 rfl rfl ?_ | (exfalso; have h' := of_decide_eq_false h; omega) | refine g_cond rfl (fun h => ?_) (fun h => ?_) | refine g_end T hC (by kernel_rfl) ?_ | refine g_splitD (fun h => ?_) (fun h => ?_) | refine g_idx T hC rfl rfl rfl (Int.natCast_nonneg _) (map_at hlv) rfl rfl ?_ | refine g_call hC (levels_ok) rfl rfl (LeSs.refl _) rfl rfl rfl ?_ | refine g_callR hC ((pidx_bad hl _ hk _)) (nm [0, 1002]) rfl rfl (LeSs.refl _) rfl rfl rfl rfl rfl rfl rfl rfl ?_ | refine g_retl T (.inl rfl) rfl ?_ | refine g_outR ?_
    exact g_fin ⟨.inl rfl, id, _, rfl, .refl _, ⟨rfl, trivial⟩, rfl, rfl⟩
  | false =>
    have hd := hg rfl
    clear hg hb
    cases g with
    | zero => simp only [moreJ] at hd; cases hd
    | succ g =>
      simp only [moreJ] at hd
      cases ho : opA l k n with
      | none =>
        rw [ho] at hd
        cases hd
        repeat' first | refine g_go T hC true 400 rfl rfl ?_ | (exfalso; have h' := of_decide_eq_false h; omega) | refine g_cond rfl (fun h => ?_) (fun h => ?_) | refine g_end T hC (by kernel_rfl) ?_ | refine g_splitD (fun h => ?_) (fun h => ?_) | refine g_idx T hC rfl rfl rfl (Int.natCast_nonneg _) (map_at hlv) rfl rfl ?_ | refine g_call hC (levels_ok) rfl rfl (LeSs.refl _) rfl rfl rfl ?_ | refine g_callR hC ((pidx_none hl _ hk _ ho)) (nm [0, 1002]) rfl rfl (LeSs.refl _) rfl rfl rfl rfl rfl rfl rfl rfl ?_ | refine g_retl T (.inl rfl) rfl ?_ | refine g_outR ?_
        exact g_fin ⟨.inl rfl, id, _, rfl, .refl _, ⟨rfl, trivial⟩, rfl, rfl⟩
      | some op =>
        rw [ho] at hd
        obtain ⟨jj, s, hjj, hs, hI⟩ := pidx_some hl _ hk _ _ ho
        obtain ⟨z, k2, b2, hz, h3, h4⟩ := go_key hd
        have hE : k2 < l.length ∧ FnOK Tryz.prog 90 [rdV, I (IntKind.i64.wrap ((n : Int) + 1))] [(0, rdR l (k + 1) false)] (enE z) [(0, rdR l k2 b2)] := by
          rw [wrapS (by omega)]; exact (ih g (by omega)).expr (n + 1) _ (by omega) (isA_next hl hs) _ _ _ hz
        obtain ⟨hk2, hE⟩ := hE
        have hll := hl.len
        have hE2 : FnOK Tryz.prog 90 [rdV, I (IntKind.i64.wrap ((n : Int) + 1))] [(0, Res.box [.p (toksP l), .p (ki (IntKind.i64.wrap ((k : Int) + 1))), .p (.k (.bool false))])] (enE z) [(0, rdR l k2 b2)] := by
          rw [wrapS (i := k) (by omega)]; exact hE
        by_cases h3n : n = 3
        · have hfin : xf = .mk op 0 (⟨#[]⟩ : ByteArray) [y, z] ∧ jf = k2 ∧ bf = b2 := by
            cases b2 with
            | false => have h3 := h3 rfl; rw [if_pos h3n] at h3; cases h3; exact ⟨rfl, rfl, rfl⟩
            | true => exact h4 rfl
          obtain ⟨rfl, rfl, rfl⟩ := hfin
          repeat' first | refine g_go T hC true 400 rfl rfl ?_ | (exfalso; have h' := of_decide_eq_true h; omega) | (exfalso; exact absurd h3n (by have := of_decide_eq_false h; omega)) | refine g_cond rfl (fun h => ?_) (fun h => ?_) | refine g_end T hC (by kernel_rfl) ?_ | refine g_splitD (fun h => ?_) (fun h => ?_) | refine g_idx T hC rfl rfl rfl (Int.natCast_nonneg _) (map_at hlv) rfl rfl ?_ | refine g_idx T hC rfl rfl rfl (Int.natCast_nonneg _) (map_at hjj) rfl rfl ?_ | refine g_call hC (levels_ok) rfl rfl (LeSs.refl _) rfl rfl rfl ?_ | refine g_callR hC (hI) (nm [0, 1002]) rfl rfl (LeSs.refl _) rfl rfl rfl rfl rfl rfl rfl rfl ?_ | refine g_callR hC (hE2) (nm [0]) rfl rfl (LeSs.refl _) rfl rfl rfl rfl rfl rfl rfl rfl ?_ | refine g_lit T hC (rows := [exprR y, exprR z]) rfl rfl rfl (by simp only [exprR_eq]; rfl) rfl rfl rfl rfl rfl ?_ | refine g_retl T (.inl rfl) rfl ?_ | refine g_outR ?_
          exact g_fin ⟨.inl rfl, id, _, rfl, .refl _, ⟨rfl, trivial⟩, rfl, rfl⟩
        · repeat' first | refine g_go T hC true 400 rfl rfl ?_ | (exfalso; have h' := of_decide_eq_true h; omega) | refine g_cond rfl (fun h => ?_) (fun h => ?_) | refine g_end T hC (by kernel_rfl) ?_ | refine g_splitD (fun h => ?_) (fun h => ?_) | refine g_idx T hC rfl rfl rfl (Int.natCast_nonneg _) (map_at hlv) rfl rfl ?_ | refine g_idx T hC rfl rfl rfl (Int.natCast_nonneg _) (map_at hjj) rfl rfl ?_ | refine g_call hC (levels_ok) rfl rfl (LeSs.refl _) rfl rfl rfl ?_ | refine g_callR hC (hI) (nm [0, 1002]) rfl rfl (LeSs.refl _) rfl rfl rfl rfl rfl rfl rfl rfl ?_ | refine g_callR hC (hE2) (nm [0]) rfl rfl (LeSs.refl _) rfl rfl rfl rfl rfl rfl rfl rfl ?_ | refine g_lit T hC (rows := [exprR y, exprR z]) rfl rfl rfl (by simp only [exprR_eq]; rfl) rfl rfl rfl rfl rfl ?_ | refine g_retl T (.inl rfl) rfl ?_ | refine g_outR ?_
          exact g_round (.mk op 0 (⟨#[]⟩ : ByteArray) [y, z], k2, b2, g) ⟨hk2, by simp only; omega, fun h => by have h3 := h3 h; rw [if_neg h3n] at h3; exact h3, h4⟩ id (by cases b2 <;> simp) ⟨rfl, ⟨rfl, rfl, rfl, rfl, trivial⟩, ⟨rfl, rfl, rfl, rfl, trivial⟩, rfl, fun _ _ => rfl⟩
end
end Hw.Pa
namespace Hw.Pa
open Go Go.Proofs Hw.M

section
variable {l : List Tok} (hl : GoodL l)
include hl
theorem sep_rj {n i : Nat} {s : Str} {j : Nat} {b : Bool} {u : Unit} (h : (if n = 0 then PJ.ok () i else oneJ l s i) = some (u, j, b)) : (n = 0 ∧ j = i ∧ b = false) ∨ (n ≠ 0 ∧ isA l i s = true ∧ j = i + 1 ∧ b = false) ∨ (n ≠ 0 ∧ ¬ isA l i s = true ∧ j = i ∧ b = true) := by
  have _ := hl
  split at h
  · rename_i h0; cases h; exact .inl ⟨h0, rfl, rfl⟩
  · rename_i h0
    unfold oneJ at h
    split at h
    · rename_i hs; cases h; exact .inr (.inl ⟨h0, hs, rfl, rfl⟩)
    · rename_i hs; cases h; exact .inr (.inr ⟨h0, hs, rfl, rfl⟩)
theorem pargs_step (f : Nat) (ih : ∀ g, g ≤ f → EX l g) (i : Nat) (hi : i < l.length) : RJ l 169 [rdV, Sr (⟨#[44]⟩ : ByteArray), Sr (⟨#[41]⟩ : ByteArray), .one (.cl 45 [.bx 0 0] [])] (fun a => pS (exprsP a)) i (argsJ l (f + 1) i []) := by
  intro af jf bf hR
  have hjf := (expr_rg hl (f + 1)).2.2.2.2.1 i [] hi _ _ _ hR
  refine ⟨hjf, ?_⟩
  have hll := hl.len
  refine fn_ok T Tryz.func169 (by kernel_rfl) rfl rfl rfl rfl fun C hC => ?_
  repeat' first | refine g_go T hC true 400 rfl rfl ?_ | refine g_cond rfl (fun h => ?_) (fun h => ?_) | refine g_splitG rfl rfl rfl (fun h => ?_) (fun h => ?_) | refine g_splitP rfl rfl (fun h => ?_) (fun h => ?_)
  refine g_adopt hC rfl 101 4 rfl [(9, .one (.ar 101))] ⟨⟨_, rfl, AdS.nil⟩, trivial⟩ [] trivial ?_
  refine g_loop (fun q : List Ex × Nat × Bool × Nat => q.2.1 < l.length ∧ q.2.2.2 ≤ f + 1 ∧ q.1.length ≤ 100001 ∧ (q.2.2.1 = false → q.1.length ≤ q.2.1 ∧ argsJ l q.2.2.2 q.2.1 q.1 = some (af, jf, bf)) ∧ (q.2.2.1 = true → af = q.1 ∧ jf = q.2.1 ∧ bf = true))
    (fun q => ([(0, rdV), (1, Sr (⟨#[44]⟩ : ByteArray)), (2, Sr (⟨#[41]⟩ : ByteArray)), (3, .one (.cl 45 [.bx 0 0] [])), (9, .one (.ar 101))], [(0, some (rdR l q.2.1 q.2.2.1)), (101, some (Res.arr 4 (q.1.map exprR)))])) (fun q => if q.2.2.1 then 0 else q.2.2.2 + 1) hC
    ([], i, false, f + 1) ⟨hi, Nat.le_refl _, Nat.zero_le _, fun _ => ⟨Nat.zero_le _, hR⟩, fun h => by cases h⟩ id ⟨rfl, ⟨rfl, rfl, rfl, rfl, rfl, trivial⟩, ⟨rfl, rfl, trivial⟩, rfl, fun _ _ => rfl⟩ ?_
  clear hi hR
  rintro ⟨acc, k, b1, g⟩ ⟨hk, hgf, hlen, hg, hb⟩
  simp only at hk hgf hlen hg hb
  cases b1 with
  | true =>
    obtain ⟨rfl, rfl, rfl⟩ := hb rfl
    repeat' first | refine g_go T hC true 400 rfl rfl ?_ | refine g_cond rfl (fun h => ?_) (fun h => ?_) | refine g_splitG rfl rfl rfl (fun h => ?_) (fun h => ?_) | refine g_splitP rfl rfl (fun h => ?_) (fun h => ?_) | refine g_callR hC ((ptake_bad hl _ hk _)) (nm [0]) rfl rfl (LeSs.refl _) rfl rfl rfl rfl rfl rfl rfl rfl ?_ | refine g_outE ?_ | refine g_retl T (.inl rfl) rfl ?_
    refine g_freeze rfl (id := 101) (e := 4) (rows := af.map exprR) rfl [(8, pS (exprsP af))] ⟨⟨_, rfl, FrS.ar⟩, trivial⟩ [] trivial ?_
    exact g_fin ⟨.inl rfl, id, _, rfl, .refl _, ⟨rfl, trivial⟩, rfl, rfl⟩
  | false =>
    obtain ⟨hak, hd⟩ := hg rfl
    clear hg hb
    cases g with
    | zero => simp only [argsJ] at hd; cases hd
    | succ g =>
      simp only [argsJ] at hd
      have hal : (acc.map exprR).length = acc.length := List.length_map _
      by_cases hs : isA l k (⟨#[41]⟩ : ByteArray) = true
      · rw [if_pos hs] at hd
        cases hd
        repeat' first | refine g_go T hC true 400 rfl rfl ?_ | refine g_cond rfl (fun h => ?_) (fun h => ?_) | refine g_splitG rfl rfl rfl (fun h => ?_) (fun h => ?_) | refine g_splitP rfl rfl (fun h => ?_) (fun h => ?_) | refine g_callR hC ((pis_y hl hs)) (nm [0]) rfl rfl (LeSs.refl _) rfl rfl rfl rfl rfl rfl rfl rfl ?_ | refine g_outE ?_ | refine g_callR hC ((ptake_y hl hs)) (nm [0]) rfl rfl (LeSs.refl _) rfl rfl rfl rfl rfl rfl rfl rfl ?_ | refine g_retl T (.inl rfl) rfl ?_
        refine g_freeze rfl (id := 101) (e := 4) (rows := af.map exprR) rfl [(8, pS (exprsP af))] ⟨⟨_, rfl, FrS.ar⟩, trivial⟩ [] trivial ?_
        exact g_fin ⟨.inl rfl, id, _, rfl, .refl _, ⟨rfl, trivial⟩, rfl, rfl⟩
      · rw [if_neg hs] at hd
        obtain ⟨u, k1, b1, h1, h2, h3⟩ := go_key hd
        rcases sep_rj hl h1 with ⟨h0, rfl, rfl⟩ | ⟨h0, hsep, rfl, rfl⟩ | ⟨h0, hsep, rfl, rfl⟩
        · obtain ⟨y, k2, b2, h4, h5, h6⟩ := go_key (h2 rfl)
          obtain ⟨hk2, hE⟩ := pwhole_ok hl (ih g (by omega)) _ hk _ _ _ h4
          have hal' : (acc ++ [y]).length = acc.length + 1 := by simp
          repeat' first | refine g_go T hC true 400 rfl rfl ?_ | (exfalso; have h' := of_decide_eq_true h; rw [hal] at h'; omega) | refine g_cond rfl (fun h => ?_) (fun h => ?_) | refine g_splitG rfl rfl rfl (fun h => ?_) (fun h => ?_) | refine g_splitP rfl rfl (fun h => ?_) (fun h => ?_) | refine g_callR hC ((pis_n hl hk hs)) (nm [0]) rfl rfl (LeSs.refl _) rfl rfl rfl rfl rfl rfl rfl rfl ?_ | refine g_callR hC (hE) (nm [0]) rfl rfl (LeSs.refl _) rfl rfl rfl rfl rfl rfl rfl rfl ?_ | refine g_lit T hC (rows := [exprR y]) rfl rfl rfl (by simp only [exprR_eq]; rfl) rfl rfl rfl rfl rfl ?_ | (refine g_append T 102 hC (rows := acc.map exprR) (rows2 := [exprR y]) (rows3 := (acc ++ [y]).map exprR) (bytes := 56) rfl rfl rfl rfl (SrcS.sl (T.es_ok _ _ rfl)) (by rw [List.map_append]; rfl) rfl rfl rfl (by kernel_rfl) (by rw [hal, List.length_singleton]; omega) (by rw [hal, List.length_singleton]; omega) rfl rfl rfl ?_)
          exact g_round (acc ++ [y], k2, b2, g) ⟨hk2, by simp only; omega, by simp only; omega, fun e => by subst e; exact ⟨by have := exprJ_fwd h4; simp only; omega, h5 rfl⟩, h6⟩ (mvP 101 102) (by cases b2 <;> simp) ⟨rfl, ⟨rfl, rfl, rfl, rfl, rfl, trivial⟩, ⟨rfl, rfl, trivial⟩, rfl, fun i hi => mvP_low (by omega) hi⟩
        · obtain ⟨y, k2, b2, h4, h5, h6⟩ := go_key (h2 rfl)
          obtain ⟨hk2, hE⟩ := pwhole_ok hl (ih g (by omega)) _ (isA_next hl hsep) _ _ _ h4
          have hal' : (acc ++ [y]).length = acc.length + 1 := by simp
          repeat' first | refine g_go T hC true 400 rfl rfl ?_ | (exfalso; have h' := of_decide_eq_false h; rw [hal] at h'; omega) | refine g_cond rfl (fun h => ?_) (fun h => ?_) | refine g_splitG rfl rfl rfl (fun h => ?_) (fun h => ?_) | refine g_splitP rfl rfl (fun h => ?_) (fun h => ?_) | refine g_callR hC ((pis_n hl hk hs)) (nm [0]) rfl rfl (LeSs.refl _) rfl rfl rfl rfl rfl rfl rfl rfl ?_ | refine g_callR hC ((ptake_y hl hsep)) (nm [0]) rfl rfl (LeSs.refl _) rfl rfl rfl rfl rfl rfl rfl rfl ?_ | refine g_callR hC (hE) (nm [0]) rfl rfl (LeSs.refl _) rfl rfl rfl rfl rfl rfl rfl rfl ?_ | refine g_lit T hC (rows := [exprR y]) rfl rfl rfl (by simp only [exprR_eq]; rfl) rfl rfl rfl rfl rfl ?_ | (refine g_append T 102 hC (rows := acc.map exprR) (rows2 := [exprR y]) (rows3 := (acc ++ [y]).map exprR) (bytes := 56) rfl rfl rfl rfl (SrcS.sl (T.es_ok _ _ rfl)) (by rw [List.map_append]; rfl) rfl rfl rfl (by kernel_rfl) (by rw [hal, List.length_singleton]; omega) (by rw [hal, List.length_singleton]; omega) rfl rfl rfl ?_)
          exact g_round (acc ++ [y], k2, b2, g) ⟨hk2, by simp only; omega, by simp only; omega, fun e => by subst e; exact ⟨by have := exprJ_fwd h4; simp only; omega, h5 rfl⟩, h6⟩ (mvP 101 102) (by cases b2 <;> simp) ⟨rfl, ⟨rfl, rfl, rfl, rfl, rfl, trivial⟩, ⟨rfl, rfl, trivial⟩, rfl, fun i hi => mvP_low (by omega) hi⟩
        · have h3 := h3 rfl
          have hal' : (acc ++ [E0]).length = acc.length + 1 := by simp
          repeat' first | refine g_go T hC true 400 rfl rfl ?_ | (exfalso; have h' := of_decide_eq_false h; rw [hal] at h'; omega) | refine g_cond rfl (fun h => ?_) (fun h => ?_) | refine g_splitG rfl rfl rfl (fun h => ?_) (fun h => ?_) | refine g_splitP rfl rfl (fun h => ?_) (fun h => ?_) | refine g_callR hC ((pis_n hl hk hs)) (nm [0]) rfl rfl (LeSs.refl _) rfl rfl rfl rfl rfl rfl rfl rfl ?_ | refine g_callR hC ((ptake_n hl hk hsep)) (nm [0]) rfl rfl (LeSs.refl _) rfl rfl rfl rfl rfl rfl rfl rfl ?_ | refine g_callR hC ((pwhole_bad hl _ hk)) (nm [0]) rfl rfl (LeSs.refl _) rfl rfl rfl rfl rfl rfl rfl rfl ?_ | refine g_lit T hC (rows := [exprR E0]) rfl rfl rfl (by simp only [exprR_eq]; rfl) rfl rfl rfl rfl rfl ?_ | (refine g_append T 102 hC (rows := acc.map exprR) (rows2 := [exprR E0]) (rows3 := (acc ++ [E0]).map exprR) (bytes := 56) rfl rfl rfl rfl (SrcS.sl (T.es_ok _ _ rfl)) (by rw [List.map_append]; rfl) rfl rfl rfl (by kernel_rfl) (by rw [hal, List.length_singleton]; omega) (by rw [hal, List.length_singleton]; omega) rfl rfl rfl ?_)
          exact g_round (acc ++ [E0], k1, true, g) ⟨hk, by simp only; omega, by simp only; omega, (fun e => by cases e), fun _ => h3⟩ (mvP 101 102) (by simp) ⟨rfl, ⟨rfl, rfl, rfl, rfl, rfl, trivial⟩, ⟨rfl, rfl, trivial⟩, rfl, fun i hi => mvP_low (by omega) hi⟩
end
end Hw.Pa
namespace Hw.Pa
open Go Go.Proofs Hw.M

section
variable {l : List Tok} (hl : GoodL l)
include hl
theorem pparts_step (f : Nat) (ih : ∀ g, g ≤ f → EX l g) (i k : Nat) (op : Int) (hk1 : 1 ≤ k) (hk3 : k ≤ 3) (hi : i < l.length) : RJ l 170 [rdV, I op, I (k : Nat)] (fun a => enE (.mk op 0 (⟨#[]⟩ : ByteArray) a)) i (partsJ l (f + 1) k i []) := by
  intro af jf bf hR
  have hjf := (expr_rg hl (f + 1)).2.2.2.2.2.1 k i [] hi _ _ _ hR
  refine ⟨hjf, ?_⟩
  have hll := hl.len
  simp only [partsJ] at hR
  rw [if_neg (by omega)] at hR
  obtain ⟨j0, b0, hT, hj0, hA, hB⟩ : ∃ j0 b0, FnOK Tryz.prog 26 [rdV, Sr (⟨#[40]⟩ : ByteArray)] [(0, rdR l i false)] (.tup []) [(0, rdR l j0 b0)] ∧ j0 < l.length ∧ (b0 = false → PJ.go (exprJ l f 0 j0) (fun x i => partsJ l f (k - 1) i ([] ++ [x])) (fun x => [] ++ [x] ++ List.replicate (k - 1) E0) = some (af, jf, bf)) ∧ (b0 = true → af = List.replicate k E0 ∧ jf = j0 ∧ bf = true) := by
    obtain ⟨u, j0, b0, h1, h2, h3⟩ := go_key hR
    have h1' : oneJ l (⟨#[40]⟩ : ByteArray) i = some (u, j0, b0) := h1
    obtain ⟨h4, h5⟩ := ptake_ok hl i hi _ _ _ _ h1'
    exact ⟨j0, b0, h5, h4, h2, fun h => by have := h3 h; simpa using this⟩
  clear hR
  refine fn_ok T Tryz.func170 (by kernel_rfl) rfl rfl rfl rfl fun C hC => ?_
  repeat' first | refine g_go T hC true 400 rfl rfl ?_ | refine g_cond rfl (fun h => ?_) (fun h => ?_) | refine g_end T hC (by kernel_rfl) ?_ | refine g_splitD (fun h => ?_) (fun h => ?_) | refine g_callR hC (hT) (nm [0]) rfl rfl (LeSs.refl _) rfl rfl rfl rfl rfl rfl rfl rfl ?_
  refine g_adopt hC rfl 101 4 rfl [] trivial [(1007, [.p (ki op), .p (ki 0), .p (ks (⟨#[]⟩ : ByteArray)), .ar 101])] ⟨⟨_, rfl, by decide, .cons (.refl _) (.cons (.refl _) (.cons (.refl _) (.cons .nil .nil)))⟩, trivial⟩ ?_
  refine g_loop (fun q : List Ex × Nat × Bool × Nat => q.1.length ≤ k ∧ q.2.1 < l.length ∧ q.2.2.2 ≤ f ∧
      (q.2.2.1 = false → q.1 = [] → PJ.go (exprJ l q.2.2.2 0 q.2.1) (fun x i => partsJ l q.2.2.2 (k - 1) i ([] ++ [x])) (fun x => [] ++ [x] ++ List.replicate (k - 1) E0) = some (af, jf, bf)) ∧
      (q.2.2.1 = false → q.1 ≠ [] → partsJ l q.2.2.2 (k - q.1.length) q.2.1 q.1 = some (af, jf, bf)) ∧ (q.2.2.1 = true → af = q.1 ++ List.replicate (k - q.1.length) E0 ∧ jf = q.2.1 ∧ bf = true))
    (fun q => ([(0, rdV), (6, .one (.bx 1006 0)), (7, .one (.bx 1007 0)), (13, I (k : Nat)), (14, I (q.1.length : Nat))], [(0, some (rdR l q.2.1 q.2.2.1)), (1006, some z44), (1007, some (Res.box [.p (ki op), .p (ki 0), .p (ks (⟨#[]⟩ : ByteArray)), .ar 101])), (101, some (Res.arr 4 (q.1.map exprR)))])) (fun q => k - q.1.length) hC
    ([], j0, b0, f) ⟨Nat.zero_le _, hj0, Nat.le_refl _, fun h _ => hA h, fun _ h => absurd rfl h, fun h => by have := hB h; simpa using this⟩ id ⟨rfl, ⟨rfl, rfl, rfl, rfl, rfl, trivial⟩, ⟨rfl, rfl, rfl, rfl, trivial⟩, rfl, fun _ _ => rfl⟩ ?_
  clear hA hB hT hj0
  rintro ⟨acc, j, b, g⟩ ⟨hck, hj, hgf, h1, h2, h3⟩
  simp only at hck hj hgf h1 h2 h3
  have hal : (acc.map exprR).length = acc.length := List.length_map _
  refine g_run' T hC true 200 rfl ?_
  refine g_cond rfl (fun hh => ?_) (fun hh => ?_)
  rotate_left
  · have hge : acc.length = k := by have := of_decide_eq_false hh; (try dsimp only at this); omega
    clear hh
    refine g_freeze rfl (id := 101) (e := 4) (rows := acc.map exprR) rfl [] trivial [(1007, [.p (ki op), .p (ki 0), .p (ks (⟨#[]⟩ : ByteArray)), .p (exprsP acc)])] ⟨⟨_, rfl, by decide, .cons (.refl _) (.cons (.refl _) (.cons (.refl _) (.cons .ar .nil)))⟩, trivial⟩ ?_
    cases b with
    | true =>
      obtain ⟨e, rfl, rfl⟩ := h3 rfl
      have e : af = acc := by rw [e, hge, Nat.sub_self]; simp
      subst e
      repeat' first | refine g_go T hC true 400 rfl rfl ?_ | refine g_cond rfl (fun h => ?_) (fun h => ?_) | refine g_end T hC (by kernel_rfl) ?_ | refine g_splitD (fun h => ?_) (fun h => ?_) | refine g_outE ?_ | refine g_callR hC ((ptake_bad hl _ hj _)) (nm [0]) rfl rfl (LeSs.refl _) rfl rfl rfl rfl rfl rfl rfl rfl ?_ | refine g_retl T (.inl rfl) rfl ?_
      exact g_fin ⟨.inl rfl, id, _, rfl, .refl _, ⟨rfl, trivial⟩, rfl, rfl⟩
    | false =>
      have h2 := h2 rfl (fun e => by rw [e] at hge; simp at hge; omega)
      cases g with
      | zero => simp only [partsJ] at h2; cases h2
      | succ g =>
        simp only [partsJ] at h2
        rw [if_pos (by omega)] at h2
        obtain ⟨u, j5, b5, h5, h6, h7⟩ := go_key h2
        obtain ⟨_, hT⟩ := ptake_ok hl _ hj _ _ _ _ h5
        have hfin : af = acc ∧ jf = j5 ∧ bf = b5 := by
          cases b5 with
          | false => have h6 := h6 rfl; cases h6; exact ⟨rfl, rfl, rfl⟩
          | true => exact h7 rfl
        obtain ⟨rfl, rfl, rfl⟩ := hfin
        repeat' first | refine g_go T hC true 400 rfl rfl ?_ | refine g_cond rfl (fun h => ?_) (fun h => ?_) | refine g_end T hC (by kernel_rfl) ?_ | refine g_splitD (fun h => ?_) (fun h => ?_) | refine g_outE ?_ | refine g_callR hC (hT) (nm [0]) rfl rfl (LeSs.refl _) rfl rfl rfl rfl rfl rfl rfl rfl ?_ | refine g_retl T (.inl rfl) rfl ?_
        exact g_fin ⟨.inl rfl, id, _, rfl, .refl _, ⟨rfl, trivial⟩, rfl, rfl⟩
  · have hlt : acc.length < k := by have := of_decide_eq_true hh; (try dsimp only at this); omega
    clear hh
    cases b with
    | true =>
      obtain ⟨e, rfl, rfl⟩ := h3 rfl
      have e2 : af = (acc ++ [E0]) ++ List.replicate (k - (acc ++ [E0]).length) E0 := by
        rw [e, List.length_append, List.length_singleton, List.append_assoc]
        congr 1
        rw [show k - acc.length = (k - (acc.length + 1)) + 1 by omega, List.replicate_succ]
        rfl
      clear h1 h2 h3
      by_cases h0 : acc.length = 0
      · repeat' first | refine g_go T hC true 400 rfl rfl ?_ | (exfalso; have h' := of_decide_eq_true h; (try dsimp only at h'); omega) | refine g_cond rfl (fun h => ?_) (fun h => ?_) | refine g_end T hC (by kernel_rfl) ?_ | refine g_splitD (fun h => ?_) (fun h => ?_) | refine g_callR hC ((pwhole_bad hl _ hj)) (nm [0]) rfl rfl (LeSs.refl _) rfl rfl rfl rfl rfl rfl rfl rfl ?_ | refine g_lit T hC (rows := [exprR E0]) rfl rfl rfl (by simp only [exprR_eq]; rfl) rfl rfl rfl rfl rfl ?_ | (refine g_append T 102 hC (rows := acc.map exprR) (rows2 := [exprR E0]) (rows3 := (acc ++ [E0]).map exprR) (bytes := 56) rfl rfl rfl rfl (SrcS.sl (T.es_ok _ _ rfl)) (by rw [List.map_append]; rfl) rfl rfl rfl (by kernel_rfl) (by rw [hal, List.length_singleton]; omega) (by rw [hal, List.length_singleton]; omega) rfl rfl rfl ?_)
        dsimp only
        rw [wrapS (i := acc.length) (by omega), show ((acc.length + 1 : Nat) : Int) = ((acc ++ [E0]).length : Int) by simp]
        exact g_round (acc ++ [E0], jf, true, g) ⟨by simp; omega, hj, hgf, (fun h => by cases h), (fun h => by cases h), fun _ => ⟨e2, rfl, rfl⟩⟩ (mvP 101 102) (by simp; omega) ⟨rfl, ⟨rfl, rfl, rfl, rfl, rfl, trivial⟩, ⟨rfl, rfl, rfl, rfl, trivial⟩, rfl, fun i hi => mvP_low (by omega) hi⟩
      · repeat' first | refine g_go T hC true 400 rfl rfl ?_ | (exfalso; have h' := of_decide_eq_false h; (try dsimp only at h'); omega) | refine g_cond rfl (fun h => ?_) (fun h => ?_) | refine g_end T hC (by kernel_rfl) ?_ | refine g_splitD (fun h => ?_) (fun h => ?_) | refine g_callR hC ((ptake_bad hl _ hj _)) (nm [0]) rfl rfl (LeSs.refl _) rfl rfl rfl rfl rfl rfl rfl rfl ?_ | refine g_callR hC ((pwhole_bad hl _ hj)) (nm [0]) rfl rfl (LeSs.refl _) rfl rfl rfl rfl rfl rfl rfl rfl ?_ | refine g_lit T hC (rows := [exprR E0]) rfl rfl rfl (by simp only [exprR_eq]; rfl) rfl rfl rfl rfl rfl ?_ | (refine g_append T 102 hC (rows := acc.map exprR) (rows2 := [exprR E0]) (rows3 := (acc ++ [E0]).map exprR) (bytes := 56) rfl rfl rfl rfl (SrcS.sl (T.es_ok _ _ rfl)) (by rw [List.map_append]; rfl) rfl rfl rfl (by kernel_rfl) (by rw [hal, List.length_singleton]; omega) (by rw [hal, List.length_singleton]; omega) rfl rfl rfl ?_)
        dsimp only
        rw [wrapS (i := acc.length) (by omega), show ((acc.length + 1 : Nat) : Int) = ((acc ++ [E0]).length : Int) by simp]
        exact g_round (acc ++ [E0], jf, true, g) ⟨by simp; omega, hj, hgf, (fun h => by cases h), (fun h => by cases h), fun _ => ⟨e2, rfl, rfl⟩⟩ (mvP 101 102) (by simp; omega) ⟨rfl, ⟨rfl, rfl, rfl, rfl, rfl, trivial⟩, ⟨rfl, rfl, rfl, rfl, trivial⟩, rfl, fun i hi => mvP_low (by omega) hi⟩
    | false =>
      clear h3
      by_cases h0 : acc.length = 0
      · have h0' : acc = [] := List.length_eq_zero_iff.1 h0
        subst h0'
        obtain ⟨y, k2, b2, h4, h5, h6⟩ := go_key (h1 rfl rfl)
        obtain ⟨hk2, hE⟩ := pwhole_ok hl (ih g hgf) _ hj _ _ _ h4
        clear h1 h2
        repeat' first | refine g_go T hC true 400 rfl rfl ?_ | (exfalso; simp at h; done) | (exfalso; have h' := of_decide_eq_true h; simp at h'; done) | refine g_cond rfl (fun h => ?_) (fun h => ?_) | refine g_end T hC (by kernel_rfl) ?_ | refine g_splitD (fun h => ?_) (fun h => ?_) | refine g_callR hC (hE) (nm [0]) rfl rfl (LeSs.refl _) rfl rfl rfl rfl rfl rfl rfl rfl ?_ | refine g_lit T hC (rows := [exprR y]) rfl rfl rfl (by simp only [exprR_eq]; rfl) rfl rfl rfl rfl rfl ?_ | (refine g_append T 102 hC (rows := []) (rows2 := [exprR y]) (rows3 := [y].map exprR) (bytes := 56) rfl rfl rfl rfl (SrcS.sl (T.es_ok _ _ rfl)) rfl rfl rfl rfl (by kernel_rfl) (by rw [List.length_singleton, List.length_nil]; decide) (by rw [List.length_singleton, List.length_nil]; decide) rfl rfl rfl ?_)
        exact g_round ([y], k2, b2, g) ⟨by simp; omega, hk2, hgf, (fun _ h => by cases h), fun h _ => h5 h, fun h => by have := h6 h; simpa using this⟩ (mvP 101 102) (by simp; omega) ⟨rfl, ⟨rfl, rfl, rfl, rfl, rfl, trivial⟩, ⟨rfl, rfl, rfl, rfl, trivial⟩, rfl, fun i hi => mvP_low (by omega) hi⟩
      · have h2 := h2 rfl (fun e => h0 (by rw [e]; rfl))
        clear h1
        cases g with
        | zero => simp only [partsJ] at h2; cases h2
        | succ g =>
          simp only [partsJ] at h2
          rw [if_neg (by omega), if_neg h0] at h2
          obtain ⟨u, j5, b5, h5, h6, h7⟩ := go_key h2
          obtain ⟨hj5, hT⟩ := ptake_ok hl _ hj _ _ _ _ h5
          cases b5 with
          | false =>
            obtain ⟨y, k2, b2, h8, h9, h10⟩ := go_key (h6 rfl)
            obtain ⟨hk2, hE⟩ := pwhole_ok hl (ih g (by omega)) _ hj5 _ _ _ h8
            have hle : (acc ++ [y]).length = acc.length + 1 := by simp
            repeat' first | refine g_go T hC true 400 rfl rfl ?_ | (exfalso; have h' := of_decide_eq_false h; (try dsimp only at h'); omega) | refine g_cond rfl (fun h => ?_) (fun h => ?_) | refine g_end T hC (by kernel_rfl) ?_ | refine g_splitD (fun h => ?_) (fun h => ?_) | refine g_callR hC (hT) (nm [0]) rfl rfl (LeSs.refl _) rfl rfl rfl rfl rfl rfl rfl rfl ?_ | refine g_callR hC (hE) (nm [0]) rfl rfl (LeSs.refl _) rfl rfl rfl rfl rfl rfl rfl rfl ?_ | refine g_lit T hC (rows := [exprR y]) rfl rfl rfl (by simp only [exprR_eq]; rfl) rfl rfl rfl rfl rfl ?_ | (refine g_append T 102 hC (rows := acc.map exprR) (rows2 := [exprR y]) (rows3 := (acc ++ [y]).map exprR) (bytes := 56) rfl rfl rfl rfl (SrcS.sl (T.es_ok _ _ rfl)) (by rw [List.map_append]; rfl) rfl rfl rfl (by kernel_rfl) (by rw [hal, List.length_singleton]; omega) (by rw [hal, List.length_singleton]; omega) rfl rfl rfl ?_)
            dsimp only
            rw [wrapS (i := acc.length) (by omega), ← hle]
            exact g_round (acc ++ [y], k2, b2, g) ⟨by simp only; omega, hk2, by simp only; omega, (fun _ h => by simp at h), (fun h _ => by simp only; rw [hle, ← Nat.sub_sub]; exact h9 h), fun h => by simp only; rw [hle, ← Nat.sub_sub]; exact h10 h⟩ (mvP 101 102) (by simp only; omega) ⟨rfl, ⟨rfl, rfl, rfl, rfl, rfl, trivial⟩, ⟨rfl, rfl, rfl, rfl, trivial⟩, rfl, fun i hi => mvP_low (by omega) hi⟩
          | true =>
            obtain ⟨e, rfl, rfl⟩ := h7 rfl
            have e2 : af = (acc ++ [E0]) ++ List.replicate (k - (acc ++ [E0]).length) E0 := by
              rw [e, List.length_append, List.length_singleton, List.append_assoc]
              congr 1
              rw [show k - acc.length = (k - (acc.length + 1)) + 1 by omega, List.replicate_succ]
              rfl
            have hle : (acc ++ [E0]).length = acc.length + 1 := by simp
            repeat' first | refine g_go T hC true 400 rfl rfl ?_ | (exfalso; have h' := of_decide_eq_false h; (try dsimp only at h'); omega) | refine g_cond rfl (fun h => ?_) (fun h => ?_) | refine g_end T hC (by kernel_rfl) ?_ | refine g_splitD (fun h => ?_) (fun h => ?_) | refine g_callR hC (hT) (nm [0]) rfl rfl (LeSs.refl _) rfl rfl rfl rfl rfl rfl rfl rfl ?_ | refine g_callR hC ((pwhole_bad hl _ hj5)) (nm [0]) rfl rfl (LeSs.refl _) rfl rfl rfl rfl rfl rfl rfl rfl ?_ | refine g_lit T hC (rows := [exprR E0]) rfl rfl rfl (by simp only [exprR_eq]; rfl) rfl rfl rfl rfl rfl ?_ | (refine g_append T 102 hC (rows := acc.map exprR) (rows2 := [exprR E0]) (rows3 := (acc ++ [E0]).map exprR) (bytes := 56) rfl rfl rfl rfl (SrcS.sl (T.es_ok _ _ rfl)) (by rw [List.map_append]; rfl) rfl rfl rfl (by kernel_rfl) (by rw [hal, List.length_singleton]; omega) (by rw [hal, List.length_singleton]; omega) rfl rfl rfl ?_)
            dsimp only
            rw [wrapS (i := acc.length) (by omega), ← hle]
            exact g_round (acc ++ [E0], jf, true, g) ⟨by simp only; omega, hj5, by simp only; omega, (fun h => by cases h), (fun h => by cases h), fun _ => ⟨e2, rfl, rfl⟩⟩ (mvP 101 102) (by simp only; omega) ⟨rfl, ⟨rfl, rfl, rfl, rfl, rfl, trivial⟩, ⟨rfl, rfl, rfl, rfl, trivial⟩, rfl, fun i hi => mvP_low (by omega) hi⟩
end
end Hw.Pa
namespace Hw.Pa
open Go Go.Proofs Hw.M

theorem go_map {α β : Type} {r : PJ α} {g : α → β} {x : β} {j : Nat} {b : Bool} (h : PJ.go r (fun a i => PJ.ok (g a) i) g = some (x, j, b)) : ∃ a, r = some (a, j, b) ∧ x = g a := by
  rcases r with _ | ⟨y, k, _ | _⟩
  · cases h
  · cases h; exact ⟨y, rfl, rfl⟩
  · cases h; exact ⟨y, rfl, rfl⟩
section
variable {l : List Tok} (hl : GoodL l)
include hl
set_option maxHeartbeats 1000000 in
theorem pprim_step (f : Nat) (ih : ∀ g, g ≤ f → EX l g) (i : Nat) (hi : i < l.length) : RJ l 152 [rdV] enE i (primJ l (f + 1) i) := by
  intro xf jf bf hR
  have hjf := (expr_rg hl (f + 1)).2.2.2.2.2.2 i hi _ _ _ hR
  refine ⟨hjf, ?_⟩
  have hF := ih f (Nat.le_refl _)
  obtain ⟨t, ht⟩ := exists_at hi
  simp only [primJ] at hR
  rw [ht] at hR
  simp only at hR
  by_cases hk2 : t.k = 2
  · rw [if_pos hk2] at hR
    cases hR
    have hI : FnOK Tryz.prog 102 [rdV] [(0, rdR l i false)] (I t.n) [(0, rdR l (i + 1) false)] := (pint_ok hl i hi t.n (i + 1) false (by unfold intJ; rw [ht]; exact if_pos hk2)).2
    refine fn_ok T Tryz.func152 (by kernel_rfl) rfl rfl rfl rfl fun C hC => ?_
    repeat' first | refine g_go T hC true 400 rfl rfl ?_ | (exfalso; exact absurd hk2 (by simpa using h)) | refine g_cond rfl (fun h => ?_) (fun h => ?_) | refine g_end T hC (by kernel_rfl) ?_ | refine g_splitD (fun h => ?_) (fun h => ?_) | refine g_idx T hC rfl rfl rfl (Int.natCast_nonneg _) (map_at ht) rfl rfl ?_ | refine g_callR hC (hI) (nm [0]) rfl rfl (LeSs.refl _) rfl rfl rfl rfl rfl rfl rfl rfl ?_ | refine g_retl T (.inl rfl) rfl ?_
    exact g_fin ⟨.inl rfl, id, _, rfl, le_ex0 _ _ _, ⟨rfl, trivial⟩, rfl, rfl⟩
  rw [if_neg hk2] at hR
  by_cases hk1 : t.k = 1
  · rw [if_pos hk1] at hR
    have hnx := hl.next ht (by omega)
    have hN : FnOK Tryz.prog 27 [rdV] [(0, rdR l i false)] (Sr t.t) [(0, rdR l (i + 1) false)] := (pname_ok hl i hi t.t (i + 1) false (by unfold nameJ; rw [ht]; exact if_pos hk1)).2
    by_cases hs : isA l (i + 1) (⟨#[40]⟩ : ByteArray) = true
    · rw [if_pos hs] at hR
      obtain ⟨a, ha, rfl⟩ := go_map hR
      have hA := (hF.args _ (isA_next hl hs) _ _ _ ha).2
      refine fn_ok T Tryz.func152 (by kernel_rfl) rfl rfl rfl rfl fun C hC => ?_
      repeat' first | refine g_go T hC true 400 rfl rfl ?_ | (exfalso; exact absurd hk1 (by simpa using h)) | (exfalso; exact absurd hk2 (by simpa using h)) | refine g_cond rfl (fun h => ?_) (fun h => ?_) | refine g_end T hC (by kernel_rfl) ?_ | refine g_splitD (fun h => ?_) (fun h => ?_) | refine g_idx T hC rfl rfl rfl (Int.natCast_nonneg _) (map_at ht) rfl rfl ?_ | refine g_callR hC (hN) (nm [0]) rfl rfl (LeSs.refl _) rfl rfl rfl rfl rfl rfl rfl rfl ?_ | refine g_callR hC ((pskip_y hl hs)) (nm [0]) rfl rfl (LeSs.refl _) rfl rfl rfl rfl rfl rfl rfl rfl ?_ | refine g_mkF hC rfl rfl rfl rfl rfl rfl ?_ | refine g_callR hC (hA) (nm [0]) rfl rfl (LeSs.refl _) rfl rfl rfl rfl rfl rfl rfl rfl ?_ | refine g_retl T (.inl rfl) rfl ?_
      exact g_fin ⟨.inl rfl, id, _, rfl, .refl _, ⟨rfl, trivial⟩, rfl, rfl⟩
    · rw [if_neg hs] at hR
      cases hR
      refine fn_ok T Tryz.func152 (by kernel_rfl) rfl rfl rfl rfl fun C hC => ?_
      repeat' first | refine g_go T hC true 400 rfl rfl ?_ | (exfalso; exact absurd hk1 (by simpa using h)) | (exfalso; exact absurd hk2 (by simpa using h)) | refine g_cond rfl (fun h => ?_) (fun h => ?_) | refine g_end T hC (by kernel_rfl) ?_ | refine g_splitD (fun h => ?_) (fun h => ?_) | refine g_idx T hC rfl rfl rfl (Int.natCast_nonneg _) (map_at ht) rfl rfl ?_ | refine g_callR hC (hN) (nm [0]) rfl rfl (LeSs.refl _) rfl rfl rfl rfl rfl rfl rfl rfl ?_ | refine g_callR hC ((pskip_n hl hnx hs)) (nm [0]) rfl rfl (LeSs.refl _) rfl rfl rfl rfl rfl rfl rfl rfl ?_ | refine g_retl T (.inl rfl) rfl ?_
      exact g_fin ⟨.inl rfl, id, _, rfl, le_ex0 _ _ _, ⟨rfl, trivial⟩, rfl, rfl⟩
  rw [if_neg hk1] at hR
  by_cases h1 : isA l i (⟨#[116, 114, 117, 101]⟩ : ByteArray) = true
  · rw [if_pos h1] at hR
    cases hR
    refine fn_ok T Tryz.func152 (by kernel_rfl) rfl rfl rfl rfl fun C hC => ?_
    repeat' first | refine g_go T hC true 400 rfl rfl ?_ | (exfalso; exact absurd (by simpa using h) hk1) | (exfalso; exact absurd (by simpa using h) hk2) | refine g_cond rfl (fun h => ?_) (fun h => ?_) | refine g_end T hC (by kernel_rfl) ?_ | refine g_splitD (fun h => ?_) (fun h => ?_) | refine g_idx T hC rfl rfl rfl (Int.natCast_nonneg _) (map_at ht) rfl rfl ?_ | refine g_callR hC ((pskip_n hl hi (by assumption))) (nm [0]) rfl rfl (LeSs.refl _) rfl rfl rfl rfl rfl rfl rfl rfl ?_ | refine g_callR hC ((pskip_y hl h1)) (nm [0]) rfl rfl (LeSs.refl _) rfl rfl rfl rfl rfl rfl rfl rfl ?_ | refine g_retl T (.inl rfl) rfl ?_
    exact g_fin ⟨.inl rfl, id, _, rfl, le_ex0 _ _ _, ⟨rfl, trivial⟩, rfl, rfl⟩
  rw [if_neg h1] at hR
  by_cases h2 : isA l i (⟨#[102, 97, 108, 115, 101]⟩ : ByteArray) = true
  · rw [if_pos h2] at hR
    cases hR
    refine fn_ok T Tryz.func152 (by kernel_rfl) rfl rfl rfl rfl fun C hC => ?_
    repeat' first | refine g_go T hC true 400 rfl rfl ?_ | (exfalso; exact absurd (by simpa using h) hk1) | (exfalso; exact absurd (by simpa using h) hk2) | refine g_cond rfl (fun h => ?_) (fun h => ?_) | refine g_end T hC (by kernel_rfl) ?_ | refine g_splitD (fun h => ?_) (fun h => ?_) | refine g_idx T hC rfl rfl rfl (Int.natCast_nonneg _) (map_at ht) rfl rfl ?_ | refine g_callR hC ((pskip_n hl hi (by assumption))) (nm [0]) rfl rfl (LeSs.refl _) rfl rfl rfl rfl rfl rfl rfl rfl ?_ | refine g_callR hC ((pskip_y hl h2)) (nm [0]) rfl rfl (LeSs.refl _) rfl rfl rfl rfl rfl rfl rfl rfl ?_ | refine g_retl T (.inl rfl) rfl ?_
    exact g_fin ⟨.inl rfl, id, _, rfl, le_ex0 _ _ _, ⟨rfl, trivial⟩, rfl, rfl⟩
  rw [if_neg h2] at hR
  by_cases h3 : isA l i (⟨#[110, 105, 108]⟩ : ByteArray) = true
  · rw [if_pos h3] at hR
    cases hR
    refine fn_ok T Tryz.func152 (by kernel_rfl) rfl rfl rfl rfl fun C hC => ?_
    repeat' first | refine g_go T hC true 400 rfl rfl ?_ | (exfalso; exact absurd (by simpa using h) hk1) | (exfalso; exact absurd (by simpa using h) hk2) | refine g_cond rfl (fun h => ?_) (fun h => ?_) | refine g_end T hC (by kernel_rfl) ?_ | refine g_splitD (fun h => ?_) (fun h => ?_) | refine g_idx T hC rfl rfl rfl (Int.natCast_nonneg _) (map_at ht) rfl rfl ?_ | refine g_callR hC ((pskip_n hl hi (by assumption))) (nm [0]) rfl rfl (LeSs.refl _) rfl rfl rfl rfl rfl rfl rfl rfl ?_ | refine g_callR hC ((pskip_y hl h3)) (nm [0]) rfl rfl (LeSs.refl _) rfl rfl rfl rfl rfl rfl rfl rfl ?_ | refine g_retl T (.inl rfl) rfl ?_
    exact g_fin ⟨.inl rfl, id, _, rfl, le_ex0 _ _ _, ⟨rfl, trivial⟩, rfl, rfl⟩
  rw [if_neg h3] at hR
  by_cases h4 : isA l i (⟨#[116, 104, 105, 115]⟩ : ByteArray) = true
  · rw [if_pos h4] at hR
    cases hR
    refine fn_ok T Tryz.func152 (by kernel_rfl) rfl rfl rfl rfl fun C hC => ?_
    repeat' first | refine g_go T hC true 400 rfl rfl ?_ | (exfalso; exact absurd (by simpa using h) hk1) | (exfalso; exact absurd (by simpa using h) hk2) | refine g_cond rfl (fun h => ?_) (fun h => ?_) | refine g_end T hC (by kernel_rfl) ?_ | refine g_splitD (fun h => ?_) (fun h => ?_) | refine g_idx T hC rfl rfl rfl (Int.natCast_nonneg _) (map_at ht) rfl rfl ?_ | refine g_callR hC ((pskip_n hl hi (by assumption))) (nm [0]) rfl rfl (LeSs.refl _) rfl rfl rfl rfl rfl rfl rfl rfl ?_ | refine g_callR hC ((pskip_y hl h4)) (nm [0]) rfl rfl (LeSs.refl _) rfl rfl rfl rfl rfl rfl rfl rfl ?_ | refine g_retl T (.inl rfl) rfl ?_
    exact g_fin ⟨.inl rfl, id, _, rfl, le_ex0 _ _ _, ⟨rfl, trivial⟩, rfl, rfl⟩
  rw [if_neg h4] at hR
  by_cases h5 : isA l i (⟨#[110, 101, 119]⟩ : ByteArray) = true
  · rw [if_pos h5] at hR
    obtain ⟨a, ha, rfl⟩ := go_map hR
    have hN := (pname_ok hl _ (isA_next hl h5) _ _ _ ha).2
    refine fn_ok T Tryz.func152 (by kernel_rfl) rfl rfl rfl rfl fun C hC => ?_
    repeat' first | refine g_go T hC true 400 rfl rfl ?_ | (exfalso; exact absurd (by simpa using h) hk1) | (exfalso; exact absurd (by simpa using h) hk2) | refine g_cond rfl (fun h => ?_) (fun h => ?_) | refine g_end T hC (by kernel_rfl) ?_ | refine g_splitD (fun h => ?_) (fun h => ?_) | refine g_idx T hC rfl rfl rfl (Int.natCast_nonneg _) (map_at ht) rfl rfl ?_ | refine g_callR hC ((pskip_n hl hi (by assumption))) (nm [0]) rfl rfl (LeSs.refl _) rfl rfl rfl rfl rfl rfl rfl rfl ?_ | refine g_callR hC ((pskip_y hl h5)) (nm [0]) rfl rfl (LeSs.refl _) rfl rfl rfl rfl rfl rfl rfl rfl ?_ | refine g_callR hC (hN) (nm [0]) rfl rfl (LeSs.refl _) rfl rfl rfl rfl rfl rfl rfl rfl ?_ | refine g_retl T (.inl rfl) rfl ?_
    exact g_fin ⟨.inl rfl, id, _, rfl, le_ex0 _ _ _, ⟨rfl, trivial⟩, rfl, rfl⟩
  rw [if_neg h5] at hR
  by_cases h6 : isA l i (⟨#[105, 102]⟩ : ByteArray) = true
  · rw [if_pos h6] at hR
    obtain ⟨a, ha, rfl⟩ := go_map hR
    have hN := (hF.parts _ 3 21 (by decide) (by decide) (isA_next hl h6) _ _ _ ha).2
    refine fn_ok T Tryz.func152 (by kernel_rfl) rfl rfl rfl rfl fun C hC => ?_
    repeat' first | refine g_go T hC true 400 rfl rfl ?_ | (exfalso; exact absurd (by simpa using h) hk1) | (exfalso; exact absurd (by simpa using h) hk2) | refine g_cond rfl (fun h => ?_) (fun h => ?_) | refine g_end T hC (by kernel_rfl) ?_ | refine g_splitD (fun h => ?_) (fun h => ?_) | refine g_idx T hC rfl rfl rfl (Int.natCast_nonneg _) (map_at ht) rfl rfl ?_ | refine g_callR hC ((pskip_n hl hi (by assumption))) (nm [0]) rfl rfl (LeSs.refl _) rfl rfl rfl rfl rfl rfl rfl rfl ?_ | refine g_callR hC ((pskip_y hl h6)) (nm [0]) rfl rfl (LeSs.refl _) rfl rfl rfl rfl rfl rfl rfl rfl ?_ | refine g_callR hC (hN) (nm [0]) rfl rfl (LeSs.refl _) rfl rfl rfl rfl rfl rfl rfl rfl ?_ | refine g_retl T (.inl rfl) rfl ?_
    exact g_fin ⟨.inl rfl, id, _, rfl, .refl _, ⟨rfl, trivial⟩, rfl, rfl⟩
  rw [if_neg h6] at hR
  by_cases h7 : isA l i (⟨#[109, 97, 120]⟩ : ByteArray) = true
  · rw [if_pos h7] at hR
    obtain ⟨a, ha, rfl⟩ := go_map hR
    have hN := (hF.parts _ 2 22 (by decide) (by decide) (isA_next hl h7) _ _ _ ha).2
    refine fn_ok T Tryz.func152 (by kernel_rfl) rfl rfl rfl rfl fun C hC => ?_
    repeat' first | refine g_go T hC true 400 rfl rfl ?_ | (exfalso; exact absurd (by simpa using h) hk1) | (exfalso; exact absurd (by simpa using h) hk2) | refine g_cond rfl (fun h => ?_) (fun h => ?_) | refine g_end T hC (by kernel_rfl) ?_ | refine g_splitD (fun h => ?_) (fun h => ?_) | refine g_idx T hC rfl rfl rfl (Int.natCast_nonneg _) (map_at ht) rfl rfl ?_ | refine g_callR hC ((pskip_n hl hi (by assumption))) (nm [0]) rfl rfl (LeSs.refl _) rfl rfl rfl rfl rfl rfl rfl rfl ?_ | refine g_callR hC ((pskip_y hl h7)) (nm [0]) rfl rfl (LeSs.refl _) rfl rfl rfl rfl rfl rfl rfl rfl ?_ | refine g_callR hC (hN) (nm [0]) rfl rfl (LeSs.refl _) rfl rfl rfl rfl rfl rfl rfl rfl ?_ | refine g_retl T (.inl rfl) rfl ?_
    exact g_fin ⟨.inl rfl, id, _, rfl, .refl _, ⟨rfl, trivial⟩, rfl, rfl⟩
  rw [if_neg h7] at hR
  by_cases h8 : isA l i (⟨#[109, 105, 110]⟩ : ByteArray) = true
  · rw [if_pos h8] at hR
    obtain ⟨a, ha, rfl⟩ := go_map hR
    have hN := (hF.parts _ 2 23 (by decide) (by decide) (isA_next hl h8) _ _ _ ha).2
    refine fn_ok T Tryz.func152 (by kernel_rfl) rfl rfl rfl rfl fun C hC => ?_
    repeat' first | refine g_go T hC true 400 rfl rfl ?_ | (exfalso; exact absurd (by simpa using h) hk1) | (exfalso; exact absurd (by simpa using h) hk2) | refine g_cond rfl (fun h => ?_) (fun h => ?_) | refine g_end T hC (by kernel_rfl) ?_ | refine g_splitD (fun h => ?_) (fun h => ?_) | refine g_idx T hC rfl rfl rfl (Int.natCast_nonneg _) (map_at ht) rfl rfl ?_ | refine g_callR hC ((pskip_n hl hi (by assumption))) (nm [0]) rfl rfl (LeSs.refl _) rfl rfl rfl rfl rfl rfl rfl rfl ?_ | refine g_callR hC ((pskip_y hl h8)) (nm [0]) rfl rfl (LeSs.refl _) rfl rfl rfl rfl rfl rfl rfl rfl ?_ | refine g_callR hC (hN) (nm [0]) rfl rfl (LeSs.refl _) rfl rfl rfl rfl rfl rfl rfl rfl ?_ | refine g_retl T (.inl rfl) rfl ?_
    exact g_fin ⟨.inl rfl, id, _, rfl, .refl _, ⟨rfl, trivial⟩, rfl, rfl⟩
  rw [if_neg h8] at hR
  by_cases h9 : isA l i (⟨#[108, 111, 103]⟩ : ByteArray) = true
  · rw [if_pos h9] at hR
    obtain ⟨a, ha, rfl⟩ := go_map hR
    have hN := (hF.parts _ 1 24 (by decide) (by decide) (isA_next hl h9) _ _ _ ha).2
    refine fn_ok T Tryz.func152 (by kernel_rfl) rfl rfl rfl rfl fun C hC => ?_
    repeat' first | refine g_go T hC true 400 rfl rfl ?_ | (exfalso; exact absurd (by simpa using h) hk1) | (exfalso; exact absurd (by simpa using h) hk2) | refine g_cond rfl (fun h => ?_) (fun h => ?_) | refine g_end T hC (by kernel_rfl) ?_ | refine g_splitD (fun h => ?_) (fun h => ?_) | refine g_idx T hC rfl rfl rfl (Int.natCast_nonneg _) (map_at ht) rfl rfl ?_ | refine g_callR hC ((pskip_n hl hi (by assumption))) (nm [0]) rfl rfl (LeSs.refl _) rfl rfl rfl rfl rfl rfl rfl rfl ?_ | refine g_callR hC ((pskip_y hl h9)) (nm [0]) rfl rfl (LeSs.refl _) rfl rfl rfl rfl rfl rfl rfl rfl ?_ | refine g_callR hC (hN) (nm [0]) rfl rfl (LeSs.refl _) rfl rfl rfl rfl rfl rfl rfl rfl ?_ | refine g_retl T (.inl rfl) rfl ?_
    exact g_fin ⟨.inl rfl, id, _, rfl, .refl _, ⟨rfl, trivial⟩, rfl, rfl⟩
  rw [if_neg h9] at hR
  by_cases h10 : isA l i (⟨#[40]⟩ : ByteArray) = true
  · rw [if_pos h10] at hR
    obtain ⟨y, k, b1, hp, hg, hb⟩ := go_key hR
    obtain ⟨hk, hE⟩ := pwhole_ok hl hF _ (isA_next hl h10) _ _ _ hp
    cases b1 with
    | false =>
      obtain ⟨u, k2, b2, h11, h12, h13⟩ := go_key (hg rfl)
      have hfin : xf = y ∧ jf = k2 ∧ bf = b2 := by
        cases b2 with
        | false => have e := h12 rfl; cases e; exact ⟨rfl, rfl, rfl⟩
        | true => exact h13 rfl
      obtain ⟨rfl, rfl, rfl⟩ := hfin
      have hT := (ptake_ok hl _ hk _ _ _ _ h11).2
      refine fn_ok T Tryz.func152 (by kernel_rfl) rfl rfl rfl rfl fun C hC => ?_
      repeat' first | refine g_go T hC true 400 rfl rfl ?_ | (exfalso; exact absurd (by simpa using h) hk1) | (exfalso; exact absurd (by simpa using h) hk2) | refine g_cond rfl (fun h => ?_) (fun h => ?_) | refine g_end T hC (by kernel_rfl) ?_ | refine g_splitD (fun h => ?_) (fun h => ?_) | refine g_idx T hC rfl rfl rfl (Int.natCast_nonneg _) (map_at ht) rfl rfl ?_ | refine g_callR hC ((pskip_n hl hi (by assumption))) (nm [0]) rfl rfl (LeSs.refl _) rfl rfl rfl rfl rfl rfl rfl rfl ?_ | refine g_callR hC ((pskip_y hl h10)) (nm [0]) rfl rfl (LeSs.refl _) rfl rfl rfl rfl rfl rfl rfl rfl ?_ | refine g_callR hC (hE) (nm [0]) rfl rfl (LeSs.refl _) rfl rfl rfl rfl rfl rfl rfl rfl ?_ | refine g_callR hC (hT) (nm [0]) rfl rfl (LeSs.refl _) rfl rfl rfl rfl rfl rfl rfl rfl ?_ | refine g_retl T (.inl rfl) rfl ?_
      exact g_fin ⟨.inl rfl, id, _, rfl, .refl _, ⟨rfl, trivial⟩, rfl, rfl⟩
    | true =>
      obtain ⟨rfl, rfl, rfl⟩ := hb rfl
      refine fn_ok T Tryz.func152 (by kernel_rfl) rfl rfl rfl rfl fun C hC => ?_
      repeat' first | refine g_go T hC true 400 rfl rfl ?_ | (exfalso; exact absurd (by simpa using h) hk1) | (exfalso; exact absurd (by simpa using h) hk2) | refine g_cond rfl (fun h => ?_) (fun h => ?_) | refine g_end T hC (by kernel_rfl) ?_ | refine g_splitD (fun h => ?_) (fun h => ?_) | refine g_idx T hC rfl rfl rfl (Int.natCast_nonneg _) (map_at ht) rfl rfl ?_ | refine g_callR hC ((pskip_n hl hi (by assumption))) (nm [0]) rfl rfl (LeSs.refl _) rfl rfl rfl rfl rfl rfl rfl rfl ?_ | refine g_callR hC ((pskip_y hl h10)) (nm [0]) rfl rfl (LeSs.refl _) rfl rfl rfl rfl rfl rfl rfl rfl ?_ | refine g_callR hC (hE) (nm [0]) rfl rfl (LeSs.refl _) rfl rfl rfl rfl rfl rfl rfl rfl ?_ | refine g_callR hC ((ptake_bad hl _ hk _)) (nm [0]) rfl rfl (LeSs.refl _) rfl rfl rfl rfl rfl rfl rfl rfl ?_ | refine g_retl T (.inl rfl) rfl ?_
      exact g_fin ⟨.inl rfl, id, _, rfl, .refl _, ⟨rfl, trivial⟩, rfl, rfl⟩
  rw [if_neg h10] at hR
  cases hR
  refine fn_ok T Tryz.func152 (by kernel_rfl) rfl rfl rfl rfl fun C hC => ?_
  repeat' first | refine g_go T hC true 400 rfl rfl ?_ | (exfalso; exact absurd (by simpa using h) hk1) | (exfalso; exact absurd (by simpa using h) hk2) | refine g_cond rfl (fun h => ?_) (fun h => ?_) | refine g_end T hC (by kernel_rfl) ?_ | refine g_splitD (fun h => ?_) (fun h => ?_) | refine g_idx T hC rfl rfl rfl (Int.natCast_nonneg _) (map_at ht) rfl rfl ?_ | refine g_callR hC ((pskip_n hl hi (by assumption))) (nm [0]) rfl rfl (LeSs.refl _) rfl rfl rfl rfl rfl rfl rfl rfl ?_ | refine g_retl T (.inl rfl) rfl ?_
  exact g_fin ⟨.inl rfl, id, _, rfl, le_ex0 _ _ _, ⟨rfl, trivial⟩, rfl, rfl⟩
theorem ex_all : ∀ f : Nat, EX l f := by
  intro f
  induction f using Nat.strongRecOn with
  | _ f ih =>
    cases f with
    | zero => exact ⟨(fun _ _ _ _ _ _ _ h => by simp only [exprJ] at h; cases h), (fun _ _ _ _ _ h => by simp only [postJ] at h; cases h), (fun _ _ _ _ _ h => by simp only [primJ] at h; cases h), (fun _ _ _ _ _ h => by simp only [argsJ] at h; cases h), (fun _ _ _ _ _ _ _ _ _ h => by simp only [partsJ] at h; cases h)⟩
    | succ f =>
      have ih' : ∀ g, g ≤ f → EX l g := fun g hg => ih g (by omega)
      exact ⟨fun n i hn hi => pexpr_step hl f ih' n i hn hi, fun i hi => ppost_step hl f ih' i hi, fun i hi => pprim_step hl f ih' i hi, fun i hi => pargs_step hl f ih' i hi, fun i k op h1 h3 hi => pparts_step hl f ih' i k op h1 h3 hi⟩
end
end Hw.Pa
namespace Hw.Pa
open Go Go.Proofs Hw.M

abbrev sgRow := Int × Int × Str
def signT : List sgRow := [(20, 1, (⟨#[111, 114]⟩ : ByteArray)), (19, 2, (⟨#[97, 110, 100]⟩ : ByteArray)), (14, 4, (⟨#[61, 61]⟩ : ByteArray)), (15, 4, (⟨#[33, 61]⟩ : ByteArray)), (16, 4, (⟨#[60]⟩ : ByteArray)), (17, 4, (⟨#[60, 61]⟩ : ByteArray)), (9, 5, (⟨#[43]⟩ : ByteArray)), (10, 5, (⟨#[45]⟩ : ByteArray)), (11, 6, (⟨#[42]⟩ : ByteArray)), (12, 6, (⟨#[47]⟩ : ByteArray)), (13, 6, (⟨#[37]⟩ : ByteArray))]
def sgR (x : sgRow) : List V := [.p (ki x.1), .p (ki x.2.1), .p (ks x.2.2)]
def signC : List V := signT.flatMap sgR
def sgn (op : Int) : Option sgRow := signT.find? fun x => decide (x.1 = op)
def signV (op : Int) : S := match sgn op with
  | some x => .tup [Sr x.2.2, I x.2.1, Bo true]
  | none => .tup [Sr (⟨#[]⟩ : ByteArray), I 0, Bo false]
def levS (op : Int) : Int := match sgn op with
  | some x => x.2.1
  | none => if op = 18 then 3 else if op = 8 then 7 else 8
theorem sgn_of (op : Int) : sgn op = if op = 20 then some (20, 1, (⟨#[111, 114]⟩ : ByteArray)) else if op = 19 then some (19, 2, (⟨#[97, 110, 100]⟩ : ByteArray)) else if op = 14 then some (14, 4, (⟨#[61, 61]⟩ : ByteArray)) else if op = 15 then some (15, 4, (⟨#[33, 61]⟩ : ByteArray)) else if op = 16 then some (16, 4, (⟨#[60]⟩ : ByteArray)) else if op = 17 then some (17, 4, (⟨#[60, 61]⟩ : ByteArray))
    else if op = 9 then some (9, 5, (⟨#[43]⟩ : ByteArray)) else if op = 10 then some (10, 5, (⟨#[45]⟩ : ByteArray)) else if op = 11 then some (11, 6, (⟨#[42]⟩ : ByteArray)) else if op = 12 then some (12, 6, (⟨#[47]⟩ : ByteArray)) else if op = 13 then some (13, 6, (⟨#[37]⟩ : ByteArray)) else none := by
  repeat' split
  all_goals first
    | (subst_vars; rfl)
    | simp [sgn, signT, List.find?, eq_comm, *]
def sgnS (op : Int) : Str := match sgn op with
  | some x => x.2.2
  | none => (⟨#[]⟩ : ByteArray)
theorem rsign_ok (op : Int) : FnOK Tryz.prog 52 [I op] [] (Sr (sgnS op)) [] := by
  refine fn_ok T Tryz.func52 (by kernel_rfl) rfl rfl rfl rfl fun C hC => ?_
  repeat' first | refine g_go T hC true 400 rfl rfl ?_ | refine g_cond rfl (fun h => ?_) (fun h => ?_)
  all_goals
    refine g_fin ⟨.inl rfl, id, _, rfl, .of ?_, trivial, rfl, rfl⟩
    simp only [sgnS, sgn_of, tupOf, S.ren, V.ren]
    simp_all
end Hw.Pa
namespace Hw.Pa
open Go Go.Proofs Hw.M

def isT (t : Tok) (s : Str) : Bool := (decide (t.k = 3) || decide (t.k = 4)) && decide (t.t = s)
def RK {α : Type} (f : FuncId) (args : List S) (enc : α → S) (r : PA α) : Prop :=
  (∀ x j, r = .ok x j → FnOK Tryz.prog f args [] (.tup [enc x, I (j : Nat), Bo true]) []) ∧ (∀ j, r = .no j → ∃ x, FnOK Tryz.prog f args [] (.tup [enc x, I (j : Nat), Bo false]) [])
def strsV (a : List Str) : PV := .sl 1 (a.map fun s => [ks s])
def allA (l : List Tok) : List Str → Nat → PA Unit
  | [], i => .ok () i
  | s :: r, i => (oneA l s i).bind fun _ i => allA l r i
section
variable {l : List Tok} (hl : GoodL l)
include hl
end
def ops12 : List Int := [9, 10, 11, 12, 13, 14, 15, 16, 17, 18, 19, 20]
def opC (t : Tok) (m op : Int) : Bool := (!decide (sgnS op = (⟨#[]⟩ : ByteArray)) && decide (levS op = m)) && isT t (sgnS op)
def opF (t : Tok) (m : Int) : Int := (ops12.find? (opC t m)).getD 0
end Hw.Pa
namespace Hw.Pa
open Go Go.Proofs Hw.M

def RA {α : Type} (l : List Tok) (r : PA α) : Prop := (∀ x j, r = .ok x j → j < l.length) ∧ (∀ j, r = .no j → j < l.length)
theorem RA.er {α : Type} {l : List Tok} {r : PJ α} (h : RG l r) : RA l (PJ.er r) := by
  rcases r with _ | ⟨x, j, _ | _⟩
  · exact ⟨(fun _ _ e => by cases e), fun _ e => by cases e⟩
  · exact ⟨(fun _ _ e => by cases e; exact h _ _ _ rfl), fun _ e => by cases e⟩
  · exact ⟨(fun _ _ e => by cases e), fun _ e => by cases e; exact h _ _ _ rfl⟩
def RK0 {α : Type} (f : FuncId) (args : List S) (enc : α → S) (z : α) (r : PA α) : Prop :=
  (∀ x j, r = .ok x j → FnOK Tryz.prog f args [] (.tup [enc x, I (j : Nat), Bo true]) []) ∧ (∀ j, r = .no j → FnOK Tryz.prog f args [] (.tup [enc z, I (j : Nat), Bo false]) [])
def pab {α : Type} (x : α) (j : Nat) : Bool → PA α
  | true => .ok x j
  | false => .no j
theorem RK0.mk {α : Type} {f : FuncId} {args : List S} {enc : α → S} {z : α} {r : PA α} (h : ∀ (x : α) (j : Nat) (b : Bool), r = pab x j b → (b = false → x = z) → FnOK Tryz.prog f args [] (.tup [enc x, I (j : Nat), Bo b]) []) : RK0 f args enc z r :=
  ⟨fun x j e => h x j true e (fun h => by cases h), fun j e => h z j false e fun _ => rfl⟩
theorem RK0.at {α : Type} {f : FuncId} {args : List S} {enc : α → S} {z : α} {r : PA α} (h : RK0 f args enc z r) {β : Type} {g : α → Nat → PA β} {x : β} {j : Nat} {b : Bool} (e : r.bind g = pab x j b) :
    (∃ y k, r = .ok y k ∧ g y k = pab x j b ∧ FnOK Tryz.prog f args [] (.tup [enc y, I (k : Nat), Bo true]) []) ∨ (r = .no j ∧ b = false ∧ FnOK Tryz.prog f args [] (.tup [enc z, I (j : Nat), Bo false]) []) := by
  cases r with
  | ok y k => exact .inl ⟨y, k, rfl, e, h.1 y k rfl⟩
  | no k =>
    cases b with
    | true => cases e
    | false => cases e; exact .inr ⟨rfl, rfl, h.2 _ rfl⟩
  | out => cases b <;> cases e
theorem RK.at {α : Type} {f : FuncId} {args : List S} {enc : α → S} {r : PA α} (h : RK f args enc r) {β : Type} {g : α → Nat → PA β} {x : β} {j : Nat} {b : Bool} (e : r.bind g = pab x j b) :
    (∃ y k, r = .ok y k ∧ g y k = pab x j b ∧ FnOK Tryz.prog f args [] (.tup [enc y, I (k : Nat), Bo true]) []) ∨ (r = .no j ∧ b = false ∧ ∃ z, FnOK Tryz.prog f args [] (.tup [enc z, I (j : Nat), Bo false]) []) := by
  cases r with
  | ok y k => exact .inl ⟨y, k, rfl, e, h.1 y k rfl⟩
  | no k =>
    cases b with
    | true => cases e
    | false => cases e; exact .inr ⟨rfl, rfl, h.2 _ rfl⟩
  | out => cases b <;> cases e
theorem RK0.fin {α : Type} {f : FuncId} {args : List S} {enc : α → S} {z : α} {r : PA α} (h : RK0 f args enc z r) {x : α} {j : Nat} {b : Bool} (e : r = pab x j b) (hz : b = false → x = z) : FnOK Tryz.prog f args [] (.tup [enc x, I (j : Nat), Bo b]) [] := by
  cases b with
  | true => exact h.1 _ _ e
  | false => rw [hz rfl]; exact h.2 _ e
structure ER (l : List Tok) (f : Nat) : Prop where
  lev : ∀ (n i : Nat), n ≤ 6 → i < l.length → RK0 92 [pS (toksP l), I (i : Nat), I ((n + 1 : Nat))] enE E0 (exprA l f n i)
  post : ∀ i, i < l.length → RK0 132 [pS (toksP l), I (i : Nat)] enE E0 (postA l f i)
  prim : ∀ i, i < l.length → RK 154 [pS (toksP l), I (i : Nat)] enE (primA l f i)
  args : ∀ i, i < l.length → ¬ isA l i (⟨#[41]⟩ : ByteArray) = true → RK0 171 [pS (toksP l), I (i : Nat)] (fun a => pS (exprsP a)) [] (argsP l f i [])
  fixed : ∀ (i k : Nat) (op : Int), 1 ≤ k → k ≤ 3 → i < l.length → RK 172 [pS (toksP l), I (i : Nat), I op, I (k : Nat)] enE ((partsA l f k i []).bind fun a i => .ok (.mk op 0 (⟨#[]⟩ : ByteArray) a) i)
theorem le_e0 : LeS (.agg [.p (ki 0), .p (ki 0), .p (ks (⟨#[]⟩ : ByteArray)), .p (.k (.slice none 0 0))]) (aggS (exprC E0)) := le_ex0 0 0 (⟨#[]⟩ : ByteArray)
section
variable {l : List Tok} (hl : GoodL l)
include hl
end
end Hw.Pa
namespace Hw.Pa
open Go Go.Proofs Hw.M

section
variable {l : List Tok} (hl : GoodL l)
include hl
end
end Hw.Pa
