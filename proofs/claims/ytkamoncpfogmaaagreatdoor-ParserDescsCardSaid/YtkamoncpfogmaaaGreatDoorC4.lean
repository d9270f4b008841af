/- The engine and the contracts. -/
import Derived.Test.YtkamoncpfogmaaaGreatDoorC3
import Derived.Test.YtkamoncpfogmaaaGreatDoorProg
import Derived.KernelRfl
import Derived.Shelf.Small.Strs
import Derived.Shelf.Strings.Prefix
import Derived.Shelf.Strconv.AtoiAll
import Derived.Test.YtkamoncpfogmaaaGreatDoorC1
import Derived.Test.YtkamoncpfogmaaaGreatDoorC2
import Derived.Test.YtkamoncpfogmaaaGreatDoorE3
set_option linter.unusedVariables false
set_option linter.unusedSimpArgs false
namespace Hw.Pa
open Go Go.Proofs Hw.M

def RA {α : Type} (l : List Tok) (r : PA α) : Prop := (∀ x j, r = .ok x j → j < l.length) ∧ (∀ j, r = .no j → j < l.length)
theorem RA.er {α : Type} {l : List Tok} {r : PJ α} (h : RG l r) : RA l (PJ.er r) := by
  rcases r with _ | ⟨x, j, _ | _⟩
  · exact ⟨(fun _ _ e => by cases e), fun _ e => by cases e⟩
  · exact ⟨(fun _ _ e => by cases e; exact h _ _ _ rfl), fun _ e => by cases e⟩
  · exact ⟨(fun _ _ e => by cases e), fun _ e => by cases e; exact h _ _ _ rfl⟩
def RK0 {α : Type} (f : FuncId) (args : List S) (enc : α → S) (z : α) (r : PA α) : Prop :=
  (∀ x j, r = .ok x j → FnOK Tryz.prog f args [] (.tup [enc x, I (j : Nat), Bo true]) []) ∧ (∀ j, r = .no j → FnOK Tryz.prog f args [] (.tup [enc z, I (j : Nat), Bo false]) [])
theorem RK0.rk {α : Type} {f : FuncId} {args : List S} {enc : α → S} {z : α} {r : PA α} (h : RK0 f args enc z r) : RK f args enc r := ⟨h.1, fun j e => ⟨z, h.2 j e⟩⟩
def pab {α : Type} (x : α) (j : Nat) : Bool → PA α
  | true => .ok x j
  | false => .no j
theorem RK0.mk {α : Type} {f : FuncId} {args : List S} {enc : α → S} {z : α} {r : PA α} (h : ∀ (x : α) (j : Nat) (b : Bool), r = pab x j b → (b = false → x = z) → FnOK Tryz.prog f args [] (.tup [enc x, I (j : Nat), Bo b]) []) : RK0 f args enc z r :=
  ⟨fun x j e => h x j true e (fun h => by cases h), fun j e => h z j false e fun _ => rfl⟩
theorem RK0.at {α : Type} {f : FuncId} {args : List S} {enc : α → S} {z : α} {r : PA α} (h : RK0 f args enc z r) {β : Type} {g : α → Nat → PA β} {x : β} {j : Nat} {b : Bool} (e : r.bind g = pab x j b) :
    (∃ y k, r = .ok y k ∧ g y k = pab x j b ∧ FnOK Tryz.prog f args [] (.tup [enc y, I (k : Nat), Bo true]) []) ∨ (r = .no j ∧ b = false ∧ FnOK Tryz.prog f args [] (.tup [enc z, I (j : Nat), Bo false]) []) := by
  cases r with
  | ok y k => exact .inl ⟨y, k, rfl, e, h.1 y k rfl⟩
  | no k =>
    cases b with
    | true => cases e
    | false => cases e; exact .inr ⟨rfl, rfl, h.2 _ rfl⟩
  | out => cases b <;> cases e
theorem RK.at {α : Type} {f : FuncId} {args : List S} {enc : α → S} {r : PA α} (h : RK f args enc r) {β : Type} {g : α → Nat → PA β} {x : β} {j : Nat} {b : Bool} (e : r.bind g = pab x j b) :
    (∃ y k, r = .ok y k ∧ g y k = pab x j b ∧ FnOK Tryz.prog f args [] (.tup [enc y, I (k : Nat), Bo true]) []) ∨ (r = .no j ∧ b = false ∧ ∃ z, FnOK Tryz.prog f args [] (.tup [enc z, I (j : Nat), Bo false]) []) := by
  cases r with
  | ok y k => exact .inl ⟨y, k, rfl, e, h.1 y k rfl⟩
  | no k =>
    cases b with
    | true => cases e
    | false => cases e; exact .inr ⟨rfl, rfl, h.2 _ rfl⟩
  | out => cases b <;> cases e
theorem RK0.fin {α : Type} {f : FuncId} {args : List S} {enc : α → S} {z : α} {r : PA α} (h : RK0 f args enc z r) {x : α} {j : Nat} {b : Bool} (e : r = pab x j b) (hz : b = false → x = z) : FnOK Tryz.prog f args [] (.tup [enc x, I (j : Nat), Bo b]) [] := by
  cases b with
  | true => exact h.1 _ _ e
  | false => rw [hz rfl]; exact h.2 _ e
theorem pab_ok {α : Type} {x y : α} {j k : Nat} {b : Bool} (h : PA.ok y k = pab x j b) : b = true ∧ x = y ∧ j = k := by
  cases b with
  | true => cases h; exact ⟨rfl, rfl, rfl⟩
  | false => cases h
theorem pab_no {α : Type} {x : α} {j k : Nat} {b : Bool} (h : PA.no k = pab x j b) : b = false ∧ j = k := by
  cases b with
  | true => cases h
  | false => cases h; exact ⟨rfl, rfl⟩
theorem pab_out {α : Type} {x : α} {j : Nat} {b : Bool} (h : PA.out = pab x j b) : False := by cases b <;> cases h
theorem bind_self {α : Type} (r : PA α) : r.bind PA.ok = r := by cases r <;> rfl
structure ER (l : List Tok) (f : Nat) : Prop where
  lev : ∀ (n i : Nat), n ≤ 6 → i < l.length → RK0 92 [pS (toksP l), I (i : Nat), I ((n + 1 : Nat))] enE E0 (exprA l f n i)
  post : ∀ i, i < l.length → RK0 132 [pS (toksP l), I (i : Nat)] enE E0 (postA l f i)
  prim : ∀ i, i < l.length → RK 154 [pS (toksP l), I (i : Nat)] enE (primA l f i)
  args : ∀ i, i < l.length → ¬ isA l i (⟨#[41]⟩ : ByteArray) = true → RK0 171 [pS (toksP l), I (i : Nat)] (fun a => pS (exprsP a)) [] (argsP l f i [])
  fixed : ∀ (i k : Nat) (op : Int), 1 ≤ k → k ≤ 3 → i < l.length → RK 172 [pS (toksP l), I (i : Nat), I op, I (k : Nat)] enE ((partsA l f k i []).bind fun a i => .ok (.mk op 0 (⟨#[]⟩ : ByteArray) a) i)
theorem le_e0 : LeS (.agg [.p (ki 0), .p (ki 0), .p (ks (⟨#[]⟩ : ByteArray)), .p (.k (.slice none 0 0))]) (aggS (exprC E0)) := le_ex0 0 0 (⟨#[]⟩ : ByteArray)
theorem le3 {j : Nat} {b : Bool} : LeS (.tup [.agg [.p (ki 0), .p (ki 0), .p (ks (⟨#[]⟩ : ByteArray)), .p (.k (.slice none 0 0))], I (j : Nat), Bo b]) (.tup [enE E0, I (j : Nat), Bo b]) := .tup (.cons le_e0 (.cons (.refl _) (.cons (.refl _) .nil)))
section
variable {l : List Tok} (hl : GoodL l)
include hl
theorem exprA_rg (f n i : Nat) (hi : i < l.length) : RA l (exprA l f n i) := by rw [← (er_expr f).1]; exact .er ((expr_rg hl f).1 n i hi)
theorem postA_rg (f i : Nat) (hi : i < l.length) : RA l (postA l f i) := by rw [← (er_expr f).2.2.1]; exact .er ((expr_rg hl f).2.2.1 i hi)
theorem primA_rg (f i : Nat) (hi : i < l.length) : RA l (primA l f i) := by rw [← (er_expr f).2.2.2.2.2.2]; exact .er ((expr_rg hl f).2.2.2.2.2.2 i hi)
theorem rExpr_ok {f : Nat} (hX : ER l f) (i : Nat) (hi : i < l.length) : RK0 47 [pS (toksP l), I (i : Nat)] enE E0 (exprA l f 0 i) := by
  have _ := hl
  refine .mk fun x j b e hz => ?_
  have hE := (hX.lev 0 i (by decide) hi).fin e hz
  refine fn_ok T Tryz.func47 (by kernel_rfl) rfl rfl rfl rfl fun C hC => ?_
  repeat' first | refine g_go T hC true 400 rfl rfl ?_ | refine g_cond rfl (fun h => ?_) (fun h => ?_) | refine g_call hC (hE) rfl rfl (LeSs.refl _) rfl rfl rfl ?_ | refine g_retl T (.inl rfl) rfl ?_
  exact g_fin ⟨.inl rfl, id, _, rfl, .refl _, trivial, rfl, rfl⟩
theorem rpost_step (f : Nat) (ih : ∀ g, g ≤ f → ER l g) (i : Nat) (hi : i < l.length) : RK0 132 [pS (toksP l), I (i : Nat)] enE E0 (postA l (f + 1) i) := by
  refine .mk fun xf jf bf hR hz => ?_
  have hll := hl.len
  simp only [postA] at hR
  rcases RK.at ((ih f (Nat.le_refl _)).prim i hi) hR with ⟨y, k, hp, hd, hP⟩ | ⟨hp, rfl, z, hP⟩
  rotate_left
  · rw [hz rfl]
    refine fn_ok T Tryz.func132 (by kernel_rfl) rfl rfl rfl rfl fun C hC => ?_
    repeat' first | refine g_go T hC true 400 rfl rfl ?_ | refine g_cond rfl (fun h => ?_) (fun h => ?_) | refine g_call hC (hP) rfl rfl (LeSs.refl _) rfl rfl rfl ?_ | refine g_retl T (.inl rfl) rfl ?_
    exact g_fin ⟨.inl rfl, id, _, rfl, le3, trivial, rfl, rfl⟩
  · have hk := (primA_rg hl f i hi).1 _ _ hp
    refine fn_ok T Tryz.func132 (by kernel_rfl) rfl rfl rfl rfl fun C hC => ?_
    repeat' first | refine g_go T hC true 400 rfl rfl ?_ | refine g_cond rfl (fun h => ?_) (fun h => ?_) | refine g_call hC (hP) rfl rfl (LeSs.refl _) rfl rfl rfl ?_
    refine g_loop (fun q : Ex × Nat × Nat => q.2.1 < l.length ∧ dotsA l q.2.2 q.1 q.2.1 = pab xf jf bf)
      (fun q => ([(0, pS (toksP l)), (1, I (q.2.1 : Nat)), (4, .one (.bx 1004 0)), (7, .one (.bx 1007 0))], [(1004, some z44), (1007, some (Res.box ((exprC q.1).map V.p)))])) (fun q => q.2.2) hC
      (y, k, f) ⟨hk, hd⟩ id ⟨rfl, ⟨rfl, rfl, rfl, rfl, trivial⟩, ⟨rfl, rfl, trivial⟩, rfl, fun _ _ => rfl⟩ ?_
    clear hk hd hp hP hR
    rintro ⟨y, k, g⟩ ⟨hk, hd⟩
    simp only at hk hd
    obtain ⟨t, ht⟩ := exists_at hk
    cases g with
    | zero => simp only [dotsA] at hd; exact (pab_out hd).elim
    | succ g =>
      simp only [dotsA] at hd
      by_cases hs : isA l k (⟨#[46]⟩ : ByteArray) = true
      · rw [if_pos hs] at hd
        have hk1 := isA_next hl hs
        rcases RK.at (rname_ok hl (k + 1) hk1) hd with ⟨s, k2, hn, hd2, hN⟩ | ⟨hn, rfl, z, hN⟩
        · rw [← wrapS (i := k) (by omega)] at hN
          have hk2 := name_lt2 hl hn
          repeat' first | refine g_go T hC true 400 rfl rfl ?_ | refine g_cond rfl (fun h => ?_) (fun h => ?_) | refine g_idx T hC rfl rfl rfl (Int.natCast_nonneg _) (map_at ht) rfl rfl ?_ | refine g_call hC ((rIs_y ht hs)) rfl rfl (LeSs.refl _) rfl rfl rfl ?_ | refine g_call hC (hN) rfl rfl (LeSs.refl _) rfl rfl rfl ?_ | refine g_lit T hC (rows := [exprR y]) rfl rfl rfl (by simp only [exprR_eq]; rfl) rfl rfl rfl rfl rfl ?_
          exact g_round (.mk 5 0 s [y], k2, g) ⟨hk2, hd2⟩ id (Nat.lt_succ_self _) ⟨rfl, ⟨rfl, rfl, rfl, rfl, trivial⟩, ⟨rfl, rfl, trivial⟩, rfl, fun _ _ => rfl⟩
        · rw [hz rfl]
          rw [← wrapS (i := k) (by omega)] at hN
          repeat' first | refine g_go T hC true 400 rfl rfl ?_ | refine g_cond rfl (fun h => ?_) (fun h => ?_) | refine g_idx T hC rfl rfl rfl (Int.natCast_nonneg _) (map_at ht) rfl rfl ?_ | refine g_call hC ((rIs_y ht hs)) rfl rfl (LeSs.refl _) rfl rfl rfl ?_ | refine g_call hC (hN) rfl rfl (LeSs.refl _) rfl rfl rfl ?_ | refine g_outR ?_ | refine g_retl T (.inl rfl) rfl ?_
          exact g_fin ⟨.inl rfl, id, _, rfl, le3, trivial, rfl, rfl⟩
      · rw [if_neg hs] at hd
        obtain ⟨rfl, rfl, rfl⟩ := pab_ok hd
        repeat' first | refine g_go T hC true 400 rfl rfl ?_ | refine g_cond rfl (fun h => ?_) (fun h => ?_) | refine g_idx T hC rfl rfl rfl (Int.natCast_nonneg _) (map_at ht) rfl rfl ?_ | refine g_call hC ((rIs_n ht hs)) rfl rfl (LeSs.refl _) rfl rfl rfl ?_ | refine g_outE ?_ | refine g_retl T (.inl rfl) rfl ?_
        exact g_fin ⟨.inl rfl, id, _, rfl, .refl _, trivial, rfl, rfl⟩
theorem rlev8 {f : Nat} (hX : ER l f) (i : Nat) (hi : i < l.length) : RK0 92 [pS (toksP l), I (i : Nat), I ((7 + 1 : Nat))] enE E0 (postA l f i) := by
  have _ := hl
  refine .mk fun x j b e hz => ?_
  have hE := (hX.post i hi).fin e hz
  refine fn_ok T Tryz.func92 (by kernel_rfl) rfl rfl rfl rfl fun C hC => ?_
  repeat' first | refine g_go T hC true 400 rfl rfl ?_ | (exfalso; simp at h; done) | refine g_cond rfl (fun h => ?_) (fun h => ?_) | refine g_splitG rfl rfl rfl (fun h => ?_) (fun h => ?_) | refine g_splitP rfl rfl (fun h => ?_) (fun h => ?_) | refine g_call hC (hE) rfl rfl (LeSs.refl _) rfl rfl rfl ?_ | refine g_retl T (.inl rfl) rfl ?_
  exact g_fin ⟨.inl rfl, id, _, rfl, .refl _, trivial, rfl, rfl⟩
end
end Hw.Pa
namespace Hw.Pa
open Go Go.Proofs Hw.M

theorem opsA_none {n : Nat} (h : n = 2 ∨ n = 6) (l : List Tok) (k : Nat) : opA l k n = none := by
  rcases h with rfl | rfl <;> rfl
section
variable {l : List Tok} (hl : GoodL l)
include hl
theorem rlev_main (f : Nat) (ih : ∀ g, g ≤ f → ER l g) (n i : Nat) (hn : n ≤ 6) (hi : i < l.length) {r : PA Ex} (hr : RK0 92 [pS (toksP l), I (i : Nat), I ((n + 1 + 1 : Nat))] enE E0 r) (hg : RA l r)
    (h2 : n = 2 → ¬ isA l i (⟨#[110, 111, 116]⟩ : ByteArray) = true) (h6 : n = 6 → ¬ isA l i (⟨#[45]⟩ : ByteArray) = true) :
    RK0 92 [pS (toksP l), I (i : Nat), I ((n + 1 : Nat))] enE E0 (r.bind fun x i => if n = 2 ∨ n = 6 then .ok x i else moreA l f n x i) := by
  refine .mk fun xf jf bf hR hz => ?_
  have hll := hl.len
  obtain ⟨t, ht⟩ := exists_at hi
  rw [← wrapS (i := n + 1) (by omega)] at hr
  have hN : ((n + 1 : Nat) : Int) = 7 → ¬ isA l i (⟨#[45]⟩ : ByteArray) = true := fun h => h6 (by omega)
  have hM : ((n + 1 : Nat) : Int) = 3 → ¬ isA l i (⟨#[110, 111, 116]⟩ : ByteArray) = true := fun h => h2 (by omega)
  have h8 : ¬ (7 : Int) < ((n + 1 : Nat) : Int) := by omega
  rcases RK0.at hr hR with ⟨y, k, hp, hd, hP⟩ | ⟨hp, rfl, hP⟩
  · have hk := hg.1 _ _ hp
    refine fn_ok T Tryz.func92 (by kernel_rfl) rfl rfl rfl rfl fun C hC => ?_
    repeat' first | refine g_go T hC true 400 rfl rfl ?_ | (exfalso; exact absurd (of_decide_eq_true h) h8) | refine g_cond rfl (fun h => ?_) (fun h => ?_) | refine g_splitG rfl rfl rfl (fun h => ?_) (fun h => ?_) | refine g_splitP rfl rfl (fun h => ?_) (fun h => ?_) | refine g_idx T hC rfl rfl rfl (Int.natCast_nonneg _) (map_at ht) rfl rfl ?_ | refine g_call hC ((rIs_n ht (hN (of_decide_eq_true (by assumption))))) rfl rfl (LeSs.refl _) rfl rfl rfl ?_ | refine g_call hC ((rIs_n ht (hM (of_decide_eq_true (by assumption))))) rfl rfl (LeSs.refl _) rfl rfl rfl ?_ | refine g_call hC (hP) rfl rfl (LeSs.refl _) rfl rfl rfl ?_
    all_goals clear hP hr hN hM
    all_goals
      refine g_loop (fun q : Ex × Nat × Nat => q.2.1 < l.length ∧ q.2.2 ≤ f ∧ (if n = 2 ∨ n = 6 then .ok q.1 q.2.1 else moreA l q.2.2 n q.1 q.2.1) = pab xf jf bf)
        (fun q => ([(0, pS (toksP l)), (1, I (q.2.1 : Nat)), (2, I ((n + 1 : Nat))), (6, .one (.bx 1006 0)), (13, .one (.bx 1013 0))], [(1006, some z44), (1013, some (Res.box ((exprC q.1).map V.p)))])) (fun q => q.2.2) hC
        (y, k, f) ⟨hk, Nat.le_refl _, hd⟩ id ⟨rfl, ⟨rfl, rfl, rfl, rfl, rfl, trivial⟩, ⟨rfl, rfl, trivial⟩, rfl, fun _ _ => rfl⟩ ?_
      rintro ⟨y, k, g⟩ ⟨hk, hgf, hd⟩
      simp only at hk hgf hd
      obtain ⟨u, hu⟩ := exists_at hk
      have hO := rop_ok u ((n + 1 : Nat) : Int)
      rw [opF_A hu n hn] at hO
      cases ho : opA l k n with
      | none =>
        have hfin : PA.ok y k = pab xf jf bf := by
          split at hd
          · exact hd
          · cases g with
            | zero => simp only [moreA] at hd; exact (pab_out hd).elim
            | succ g => simp only [moreA] at hd; rw [ho] at hd; exact hd
        obtain ⟨rfl, rfl, rfl⟩ := pab_ok hfin
        rw [ho] at hO
        repeat' first | refine g_go T hC true 400 rfl rfl ?_ | (exfalso; simp at h; done) | refine g_cond rfl (fun h => ?_) (fun h => ?_) | refine g_splitG rfl rfl rfl (fun h => ?_) (fun h => ?_) | refine g_splitP rfl rfl (fun h => ?_) (fun h => ?_) | refine g_idx T hC rfl rfl rfl (Int.natCast_nonneg _) (map_at hu) rfl rfl ?_ | refine g_call hC (hO) rfl rfl (LeSs.refl _) rfl rfl rfl ?_ | refine g_retl T (.inl rfl) rfl ?_ | refine g_outR ?_
        exact g_fin ⟨.inl rfl, id, _, rfl, .refl _, trivial, rfl, rfl⟩
      | some op =>
        have hop := opA_pos ho
        have hc : ¬ (n = 2 ∨ n = 6) := fun e => by rw [opsA_none e] at ho; cases ho
        rw [if_neg hc] at hd
        cases g with
        | zero => simp only [moreA] at hd; exact (pab_out hd).elim
        | succ g =>
          simp only [moreA] at hd
          rw [ho] at hd
          simp only at hd
          rw [ho] at hO
          have hk1 := opA_next hl ho
          have hE := (ih g (by omega)).lev (n + 1) (k + 1) (by omega) hk1
          rw [← wrapS (i := n + 1) (by omega), ← wrapS (i := k) (by omega)] at hE
          rcases RK0.at hE hd with ⟨z, k2, hz1, hd2, hE⟩ | ⟨_, rfl, hE⟩
          · have hk2 := (exprA_rg hl g (n + 1) (k + 1) hk1).1 _ _ hz1
            by_cases h3 : n = 3
            · rw [if_pos h3] at hd2
              obtain ⟨rfl, rfl, rfl⟩ := pab_ok hd2
              repeat' first | refine g_go T hC true 400 rfl rfl ?_ | (exfalso; exact absurd (show ((n + 1 : Nat) : Int) = 4 by omega) (of_decide_eq_false h)) | (exfalso; exact absurd (of_decide_eq_true h) hop) | refine g_cond rfl (fun h => ?_) (fun h => ?_) | refine g_splitG rfl rfl rfl (fun h => ?_) (fun h => ?_) | refine g_splitP rfl rfl (fun h => ?_) (fun h => ?_) | refine g_idx T hC rfl rfl rfl (Int.natCast_nonneg _) (map_at hu) rfl rfl ?_ | refine g_call hC (hO) rfl rfl (LeSs.refl _) rfl rfl rfl ?_ | refine g_call hC (hE) rfl rfl (LeSs.refl _) rfl rfl rfl ?_ | refine g_lit T hC (rows := [exprR y, exprR z]) rfl rfl rfl (by simp only [exprR_eq]; rfl) rfl rfl rfl rfl rfl ?_ | refine g_retl T (.inl rfl) rfl ?_ | refine g_outR ?_
              exact g_fin ⟨.inl rfl, id, _, rfl, .refl _, trivial, rfl, rfl⟩
            · rw [if_neg h3] at hd2
              repeat' first | refine g_go T hC true 400 rfl rfl ?_ | (exfalso; exact absurd (of_decide_eq_true h) (show ¬ ((n + 1 : Nat) : Int) = 4 by omega)) | (exfalso; exact absurd (of_decide_eq_true h) hop) | refine g_cond rfl (fun h => ?_) (fun h => ?_) | refine g_splitG rfl rfl rfl (fun h => ?_) (fun h => ?_) | refine g_splitP rfl rfl (fun h => ?_) (fun h => ?_) | refine g_idx T hC rfl rfl rfl (Int.natCast_nonneg _) (map_at hu) rfl rfl ?_ | refine g_call hC (hO) rfl rfl (LeSs.refl _) rfl rfl rfl ?_ | refine g_call hC (hE) rfl rfl (LeSs.refl _) rfl rfl rfl ?_ | refine g_lit T hC (rows := [exprR y, exprR z]) rfl rfl rfl (by simp only [exprR_eq]; rfl) rfl rfl rfl rfl rfl ?_ | refine g_retl T (.inl rfl) rfl ?_ | refine g_outR ?_
              exact g_round (.mk op 0 (⟨#[]⟩ : ByteArray) [y, z], k2, g) ⟨hk2, by simp only; omega, by rw [if_neg hc]; exact hd2⟩ id (Nat.lt_succ_self _) ⟨rfl, ⟨rfl, rfl, rfl, rfl, rfl, trivial⟩, ⟨rfl, rfl, trivial⟩, rfl, fun _ _ => rfl⟩
          · rw [hz rfl]
            repeat' first | refine g_go T hC true 400 rfl rfl ?_ | (exfalso; exact absurd (of_decide_eq_true h) hop) | refine g_cond rfl (fun h => ?_) (fun h => ?_) | refine g_splitG rfl rfl rfl (fun h => ?_) (fun h => ?_) | refine g_splitP rfl rfl (fun h => ?_) (fun h => ?_) | refine g_idx T hC rfl rfl rfl (Int.natCast_nonneg _) (map_at hu) rfl rfl ?_ | refine g_call hC (hO) rfl rfl (LeSs.refl _) rfl rfl rfl ?_ | refine g_call hC (hE) rfl rfl (LeSs.refl _) rfl rfl rfl ?_ | refine g_retl T (.inl rfl) rfl ?_ | refine g_outR ?_
            exact g_fin ⟨.inl rfl, id, _, rfl, le3, trivial, rfl, rfl⟩
  · rw [hz rfl]
    refine fn_ok T Tryz.func92 (by kernel_rfl) rfl rfl rfl rfl fun C hC => ?_
    repeat' first | refine g_go T hC true 400 rfl rfl ?_ | (exfalso; exact absurd (of_decide_eq_true h) h8) | refine g_cond rfl (fun h => ?_) (fun h => ?_) | refine g_splitG rfl rfl rfl (fun h => ?_) (fun h => ?_) | refine g_splitP rfl rfl (fun h => ?_) (fun h => ?_) | refine g_idx T hC rfl rfl rfl (Int.natCast_nonneg _) (map_at ht) rfl rfl ?_ | refine g_call hC ((rIs_n ht (hN (of_decide_eq_true (by assumption))))) rfl rfl (LeSs.refl _) rfl rfl rfl ?_ | refine g_call hC ((rIs_n ht (hM (of_decide_eq_true (by assumption))))) rfl rfl (LeSs.refl _) rfl rfl rfl ?_ | refine g_call hC (hP) rfl rfl (LeSs.refl _) rfl rfl rfl ?_ | refine g_retl T (.inl rfl) rfl ?_
    all_goals exact g_fin ⟨.inl rfl, id, _, rfl, le3, trivial, rfl, rfl⟩
theorem rlev_step (f : Nat) (ih : ∀ g, g ≤ f → ER l g) (n i : Nat) (hn : n ≤ 6) (hi : i < l.length) : RK0 92 [pS (toksP l), I (i : Nat), I ((n + 1 : Nat))] enE E0 (exprA l (f + 1) n i) := by
  have hll := hl.len
  have hF := ih f (Nat.le_refl _)
  obtain ⟨t, ht⟩ := exists_at hi
  simp only [exprA]
  by_cases h2 : n = 2
  · subst h2
    rw [if_pos rfl]
    by_cases hs : isA l i (⟨#[110, 111, 116]⟩ : ByteArray) = true
    · rw [if_pos hs]
      refine .mk fun xf jf bf hR hz => ?_
      have hE := hF.lev 2 (i + 1) (by decide) (isA_next hl hs)
      rw [← wrapS (i := i) (by omega)] at hE
      rcases RK0.at hE hR with ⟨y, k, _, e, hE⟩ | ⟨_, rfl, hE⟩
      · obtain ⟨rfl, rfl, rfl⟩ := pab_ok e
        refine fn_ok T Tryz.func92 (by kernel_rfl) rfl rfl rfl rfl fun C hC => ?_
        repeat' first | refine g_go T hC true 400 rfl rfl ?_ | (exfalso; simp at h; done) | refine g_cond rfl (fun h => ?_) (fun h => ?_) | refine g_splitG rfl rfl rfl (fun h => ?_) (fun h => ?_) | refine g_splitP rfl rfl (fun h => ?_) (fun h => ?_) | refine g_idx T hC rfl rfl rfl (Int.natCast_nonneg _) (map_at ht) rfl rfl ?_ | refine g_call hC ((rIs_y ht hs)) rfl rfl (LeSs.refl _) rfl rfl rfl ?_ | refine g_call hC (hE) rfl rfl (LeSs.refl _) rfl rfl rfl ?_ | refine g_lit T hC (rows := [exprR y]) rfl rfl rfl (by simp only [exprR_eq]; rfl) rfl rfl rfl rfl rfl ?_ | refine g_retl T (.inl rfl) rfl ?_
        exact g_fin ⟨.inl rfl, id, _, rfl, .refl _, trivial, rfl, rfl⟩
      · rw [hz rfl]
        refine fn_ok T Tryz.func92 (by kernel_rfl) rfl rfl rfl rfl fun C hC => ?_
        repeat' first | refine g_go T hC true 400 rfl rfl ?_ | (exfalso; simp at h; done) | refine g_cond rfl (fun h => ?_) (fun h => ?_) | refine g_splitG rfl rfl rfl (fun h => ?_) (fun h => ?_) | refine g_splitP rfl rfl (fun h => ?_) (fun h => ?_) | refine g_idx T hC rfl rfl rfl (Int.natCast_nonneg _) (map_at ht) rfl rfl ?_ | refine g_call hC ((rIs_y ht hs)) rfl rfl (LeSs.refl _) rfl rfl rfl ?_ | refine g_call hC (hE) rfl rfl (LeSs.refl _) rfl rfl rfl ?_ | refine g_retl T (.inl rfl) rfl ?_
        exact g_fin ⟨.inl rfl, id, _, rfl, le3, trivial, rfl, rfl⟩
    · rw [if_neg hs]
      have := rlev_main hl f ih 2 i (by decide) hi (hF.lev 3 i (by decide) hi) (exprA_rg hl f 3 i hi) (fun _ => hs) (fun h => by cases h)
      simp only [true_or, if_true] at this
      rw [bind_self] at this
      exact this
  rw [if_neg h2]
  by_cases h6 : n = 6
  · subst h6
    rw [if_pos rfl]
    by_cases hs : isA l i (⟨#[45]⟩ : ByteArray) = true
    · rw [if_pos hs]
      refine .mk fun xf jf bf hR hz => ?_
      have hE := hF.lev 6 (i + 1) (by decide) (isA_next hl hs)
      rw [← wrapS (i := i) (by omega)] at hE
      rcases RK0.at hE hR with ⟨y, k, _, e, hE⟩ | ⟨_, rfl, hE⟩
      · obtain ⟨rfl, rfl, rfl⟩ := pab_ok e
        refine fn_ok T Tryz.func92 (by kernel_rfl) rfl rfl rfl rfl fun C hC => ?_
        repeat' first | refine g_go T hC true 400 rfl rfl ?_ | (exfalso; simp at h; done) | refine g_cond rfl (fun h => ?_) (fun h => ?_) | refine g_splitG rfl rfl rfl (fun h => ?_) (fun h => ?_) | refine g_splitP rfl rfl (fun h => ?_) (fun h => ?_) | refine g_idx T hC rfl rfl rfl (Int.natCast_nonneg _) (map_at ht) rfl rfl ?_ | refine g_call hC ((rIs_y ht hs)) rfl rfl (LeSs.refl _) rfl rfl rfl ?_ | refine g_call hC (hE) rfl rfl (LeSs.refl _) rfl rfl rfl ?_ | refine g_lit T hC (rows := [exprR y]) rfl rfl rfl (by simp only [exprR_eq]; rfl) rfl rfl rfl rfl rfl ?_ | refine g_retl T (.inl rfl) rfl ?_
        exact g_fin ⟨.inl rfl, id, _, rfl, .refl _, trivial, rfl, rfl⟩
      · rw [hz rfl]
        refine fn_ok T Tryz.func92 (by kernel_rfl) rfl rfl rfl rfl fun C hC => ?_
        repeat' first | refine g_go T hC true 400 rfl rfl ?_ | (exfalso; simp at h; done) | refine g_cond rfl (fun h => ?_) (fun h => ?_) | refine g_splitG rfl rfl rfl (fun h => ?_) (fun h => ?_) | refine g_splitP rfl rfl (fun h => ?_) (fun h => ?_) | refine g_idx T hC rfl rfl rfl (Int.natCast_nonneg _) (map_at ht) rfl rfl ?_ | refine g_call hC ((rIs_y ht hs)) rfl rfl (LeSs.refl _) rfl rfl rfl ?_ | refine g_call hC (hE) rfl rfl (LeSs.refl _) rfl rfl rfl ?_ | refine g_retl T (.inl rfl) rfl ?_
        exact g_fin ⟨.inl rfl, id, _, rfl, le3, trivial, rfl, rfl⟩
    · rw [if_neg hs]
      have := rlev_main hl f ih 6 i (by decide) hi (rlev8 hl hF i hi) (postA_rg hl f i hi) (fun h => by cases h) (fun _ => hs)
      simp only [or_true, if_true] at this
      rw [bind_self] at this
      exact this
  rw [if_neg h6]
  have := rlev_main hl f ih n i hn hi (hF.lev (n + 1) i (by omega) hi) (exprA_rg hl f (n + 1) i hi) (fun h => absurd h h2) (fun h => absurd h h6)
  rw [show (fun (x : Ex) (i : Nat) => if n = 2 ∨ n = 6 then PA.ok x i else moreA l f n x i) = fun x i => moreA l f n x i from by funext x i; rw [if_neg (by omega)]] at this
  exact this
end
end Hw.Pa
namespace Hw.Pa
open Go Go.Proofs Hw.M

def fixZ (l : List Tok) (op : Int) : Nat → Nat → Nat → List Ex → Ex
  | 0, _, _, _ => E0
  | f + 1, k, i, acc => if k = 0 then .mk op 0 (⟨#[]⟩ : ByteArray) acc
    else match oneA l (if acc.length = 0 then (⟨#[40]⟩ : ByteArray) else (⟨#[44]⟩ : ByteArray)) i with
      | .ok _ i => match exprA l f 0 i with
        | .ok x i => fixZ l op f (k - 1) i (acc ++ [x])
        | _ => E0
      | _ => E0
section
variable {l : List Tok} (hl : GoodL l)
include hl
theorem rargs_step (f : Nat) (ih : ∀ g, g ≤ f → ER l g) (i : Nat) (hi : i < l.length) (h0 : ¬ isA l i (⟨#[41]⟩ : ByteArray) = true) : RK0 171 [pS (toksP l), I (i : Nat)] (fun a => pS (exprsP a)) [] (argsP l (f + 1) i []) := by
  refine .mk fun xf jf bf hR hz => ?_
  have hll := hl.len
  simp only [argsP] at hR
  rw [if_neg h0] at hR
  refine fn_ok T Tryz.func171 (by kernel_rfl) rfl rfl rfl rfl fun C hC => ?_
  repeat' first | refine g_go T hC true 400 rfl rfl ?_ | refine g_cond rfl (fun h => ?_) (fun h => ?_)
  have hR2 : (exprA l f 0 i).bind (fun x i => argsP l f i ([] ++ [x])) = pab xf jf bf := hR
  clear hR
  refine g_adopt hC rfl 101 4 rfl [(7, .one (.ar 101))] ⟨⟨_, rfl, AdS.nil⟩, trivial⟩ [] trivial ?_
  refine g_loop (fun q : List Ex × Nat × Nat => q.2.1 < l.length ∧ q.2.2 ≤ f ∧ q.1.length ≤ q.2.1 ∧ (exprA l q.2.2 0 q.2.1).bind (fun x i => argsP l q.2.2 i (q.1 ++ [x])) = pab xf jf bf)
    (fun q => ([(0, pS (toksP l)), (1, I (q.2.1 : Nat)), (7, .one (.ar 101))], [(101, some (Res.arr 4 (q.1.map exprR)))])) (fun q => q.2.2) hC
    ([], i, f) ⟨hi, Nat.le_refl _, Nat.zero_le _, hR2⟩ id ⟨rfl, ⟨rfl, rfl, rfl, trivial⟩, ⟨rfl, trivial⟩, rfl, fun _ _ => rfl⟩ ?_
  clear hR2 h0 hi
  rintro ⟨acc, k, g⟩ ⟨hk, hgf, hak, hd⟩
  simp only at hk hgf hak hd
  have hal : (acc.map exprR).length = acc.length := List.length_map _
  rcases RK0.at (rExpr_ok hl (ih g hgf) k hk) hd with ⟨y, k2, hy, hd2, hE⟩ | ⟨_, rfl, hE⟩
  rotate_left
  · rw [hz rfl]
    repeat' first | refine g_go T hC true 400 rfl rfl ?_ | refine g_cond rfl (fun h => ?_) (fun h => ?_) | refine g_call hC (hE) rfl rfl (LeSs.refl _) rfl rfl rfl ?_ | refine g_retl T (.inl rfl) rfl ?_ | refine g_outR ?_
    exact g_fin ⟨.inl rfl, id, _, rfl, .tup (.cons (.one (.nil 4)) (.cons (.refl _) (.cons (.refl _) .nil))), trivial, rfl, rfl⟩
  have hk2 := (exprA_rg hl g 0 k hk).1 _ _ hy
  have hkk := ((expr_fwd g).1 _ _ _ _ hy).1
  have hal' : (acc ++ [y]).length = acc.length + 1 := by simp
  obtain ⟨t, ht⟩ := exists_at hk2
  cases g with
  | zero => simp only [argsP] at hd2; exact (pab_out hd2).elim
  | succ g =>
    simp only [argsP] at hd2
    by_cases hs : isA l k2 (⟨#[41]⟩ : ByteArray) = true
    · rw [if_pos hs] at hd2
      obtain ⟨rfl, rfl, rfl⟩ := pab_ok hd2
      repeat' first | refine g_go T hC true 400 rfl rfl ?_ | refine g_cond rfl (fun h => ?_) (fun h => ?_) | refine g_call hC (hE) rfl rfl (LeSs.refl _) rfl rfl rfl ?_ | refine g_lit T hC (rows := [exprR y]) rfl rfl rfl (by simp only [exprR_eq]; rfl) rfl rfl rfl rfl rfl ?_ | (refine g_append T 102 hC (rows := acc.map exprR) (rows2 := [exprR y]) (rows3 := (acc ++ [y]).map exprR) (bytes := 56) rfl rfl rfl rfl (SrcS.sl (T.es_ok _ _ rfl)) (by rw [List.map_append]; rfl) rfl rfl rfl (by kernel_rfl) (by rw [hal, List.length_singleton]; omega) (by rw [hal, List.length_singleton]; omega) rfl rfl rfl ?_) | refine g_idx T hC rfl rfl rfl (Int.natCast_nonneg _) (map_at ht) rfl rfl ?_ | refine g_call hC ((rIs_y ht hs)) rfl rfl (LeSs.refl _) rfl rfl rfl ?_ | refine g_retl T (.inl rfl) rfl ?_ | refine g_outR ?_
      rw [wrapS (by omega)]
      refine g_freeze rfl (id := 102) (e := 4) (rows := (acc ++ [y]).map exprR) rfl [(4, pS (exprsP (acc ++ [y])))] ⟨⟨_, rfl, FrS.ar⟩, trivial⟩ [] trivial ?_
      exact g_fin ⟨.inl rfl, id, _, rfl, .refl _, trivial, rfl, rfl⟩
    · rw [if_neg hs, if_neg (by omega)] at hd2
      by_cases hc : isA l k2 (⟨#[44]⟩ : ByteArray) = true
      · have hd3 : (exprA l g 0 (k2 + 1)).bind (fun x i => argsP l g i ((acc ++ [y]) ++ [x])) = pab xf jf bf := by unfold oneA at hd2; rw [if_pos hc] at hd2; exact hd2
        repeat' first | refine g_go T hC true 400 rfl rfl ?_ | refine g_cond rfl (fun h => ?_) (fun h => ?_) | refine g_call hC (hE) rfl rfl (LeSs.refl _) rfl rfl rfl ?_ | refine g_lit T hC (rows := [exprR y]) rfl rfl rfl (by simp only [exprR_eq]; rfl) rfl rfl rfl rfl rfl ?_ | (refine g_append T 102 hC (rows := acc.map exprR) (rows2 := [exprR y]) (rows3 := (acc ++ [y]).map exprR) (bytes := 56) rfl rfl rfl rfl (SrcS.sl (T.es_ok _ _ rfl)) (by rw [List.map_append]; rfl) rfl rfl rfl (by kernel_rfl) (by rw [hal, List.length_singleton]; omega) (by rw [hal, List.length_singleton]; omega) rfl rfl rfl ?_) | refine g_idx T hC rfl rfl rfl (Int.natCast_nonneg _) (map_at ht) rfl rfl ?_ | refine g_call hC ((rIs_n ht hs)) rfl rfl (LeSs.refl _) rfl rfl rfl ?_ | refine g_call hC ((rIs_y ht hc)) rfl rfl (LeSs.refl _) rfl rfl rfl ?_
        rw [wrapS (i := k2) (by omega)]
        exact g_round (acc ++ [y], k2 + 1, g) ⟨isA_next hl hc, by simp only; omega, by simp only; omega, hd3⟩ (mvP 101 102) (Nat.lt_succ_self _) ⟨rfl, ⟨rfl, rfl, rfl, trivial⟩, ⟨rfl, trivial⟩, rfl, fun i hi => mvP_low (by omega) hi⟩
      · have hd3 : PA.no k2 = pab xf jf bf := by unfold oneA at hd2; rw [if_neg hc] at hd2; exact hd2
        obtain ⟨rfl, rfl⟩ := pab_no hd3
        rw [hz rfl]
        repeat' first | refine g_go T hC true 400 rfl rfl ?_ | refine g_cond rfl (fun h => ?_) (fun h => ?_) | refine g_call hC (hE) rfl rfl (LeSs.refl _) rfl rfl rfl ?_ | refine g_lit T hC (rows := [exprR y]) rfl rfl rfl (by simp only [exprR_eq]; rfl) rfl rfl rfl rfl rfl ?_ | (refine g_append T 102 hC (rows := acc.map exprR) (rows2 := [exprR y]) (rows3 := (acc ++ [y]).map exprR) (bytes := 56) rfl rfl rfl rfl (SrcS.sl (T.es_ok _ _ rfl)) (by rw [List.map_append]; rfl) rfl rfl rfl (by kernel_rfl) (by rw [hal, List.length_singleton]; omega) (by rw [hal, List.length_singleton]; omega) rfl rfl rfl ?_) | refine g_idx T hC rfl rfl rfl (Int.natCast_nonneg _) (map_at ht) rfl rfl ?_ | refine g_call hC ((rIs_n ht hs)) rfl rfl (LeSs.refl _) rfl rfl rfl ?_ | refine g_call hC ((rIs_n ht hc)) rfl rfl (LeSs.refl _) rfl rfl rfl ?_ | refine g_retl T (.inl rfl) rfl ?_ | refine g_outR ?_
        exact g_fin ⟨.inl rfl, id, _, rfl, .tup (.cons (.one (.nil 4)) (.cons (.refl _) (.cons (.refl _) .nil))), trivial, rfl, rfl⟩
theorem rfixed_step (f : Nat) (ih : ∀ g, g ≤ f → ER l g) (i k : Nat) (op : Int) (hk1 : 1 ≤ k) (hk3 : k ≤ 3) (hi : i < l.length) : RK 172 [pS (toksP l), I (i : Nat), I op, I (k : Nat)] enE ((partsA l (f + 1) k i []).bind fun a i => .ok (.mk op 0 (⟨#[]⟩ : ByteArray) a) i) := by
  refine RK0.rk (z := fixZ l op (f + 1) k i []) (.mk fun xf jf bf hR hz => ?_)
  have hll := hl.len
  refine fn_ok T Tryz.func172 (by kernel_rfl) rfl rfl rfl rfl fun C hC => ?_
  repeat' first | refine g_go T hC true 400 rfl rfl ?_ | refine g_cond rfl (fun h => ?_) (fun h => ?_)
  refine g_adopt hC rfl 101 4 rfl [] trivial [(1011, [.p (ki op), .p (ki 0), .p (ks (⟨#[]⟩ : ByteArray)), .ar 101])] ⟨⟨_, rfl, by decide, .cons (.refl _) (.cons (.refl _) (.cons (.refl _) (.cons .nil .nil)))⟩, trivial⟩ ?_
  refine g_loop (fun q : List Ex × Nat × Nat => q.1.length ≤ k ∧ q.2.1 < l.length ∧ q.2.2 ≤ f + 1 ∧ (partsA l q.2.2 (k - q.1.length) q.2.1 q.1).bind (fun a i => .ok (.mk op 0 (⟨#[]⟩ : ByteArray) a) i) = pab xf jf bf ∧ (bf = false → xf = fixZ l op q.2.2 (k - q.1.length) q.2.1 q.1))
    (fun q => ([(0, pS (toksP l)), (1, I (q.2.1 : Nat)), (3, I (k : Nat)), (8, .one (.bx 1008 0)), (11, .one (.bx 1011 0)), (12, I (q.1.length : Nat))], [(1008, some z44), (1011, some (Res.box [.p (ki op), .p (ki 0), .p (ks (⟨#[]⟩ : ByteArray)), .ar 101])), (101, some (Res.arr 4 (q.1.map exprR)))])) (fun q => k - q.1.length) hC
    ([], i, f + 1) ⟨Nat.zero_le _, hi, Nat.le_refl _, hR, hz⟩ id ⟨rfl, ⟨rfl, rfl, rfl, rfl, rfl, rfl, trivial⟩, ⟨rfl, rfl, rfl, trivial⟩, rfl, fun _ _ => rfl⟩ ?_
  clear hR hz hi
  rintro ⟨acc, j, g⟩ ⟨hck, hj, hgf, hd, hz⟩
  simp only at hck hj hgf hd hz
  have hal : (acc.map exprR).length = acc.length := List.length_map _
  cases g with
  | zero => simp only [partsA] at hd; exact (pab_out hd).elim
  | succ g =>
  simp only [partsA] at hd
  simp only [fixZ] at hz
  refine g_run' T hC true 200 rfl ?_
  refine g_cond rfl (fun hh => ?_) (fun hh => ?_)
  rotate_left
  · have hge : k - acc.length = 0 := by have := of_decide_eq_false hh; (try dsimp only at this); omega
    clear hh
    rw [if_pos hge] at hd hz
    refine g_freeze rfl (id := 101) (e := 4) (rows := acc.map exprR) rfl [] trivial [(1011, [.p (ki op), .p (ki 0), .p (ks (⟨#[]⟩ : ByteArray)), .p (exprsP acc)])] ⟨⟨_, rfl, by decide, .cons (.refl _) (.cons (.refl _) (.cons (.refl _) (.cons .ar .nil)))⟩, trivial⟩ ?_
    unfold oneA at hd
    by_cases hs : isA l j (⟨#[41]⟩ : ByteArray) = true
    · rw [if_pos hs] at hd
      obtain ⟨rfl, rfl, rfl⟩ := pab_ok hd
      repeat' first | refine g_go T hC true 400 rfl rfl ?_ | refine g_cond rfl (fun h => ?_) (fun h => ?_) | refine g_outE ?_ | refine g_call hC ((rone_y hl hs)) rfl rfl (LeSs.refl _) rfl rfl rfl ?_ | refine g_retl T (.inl rfl) rfl ?_
      exact g_fin ⟨.inl rfl, id, _, rfl, .refl _, trivial, rfl, rfl⟩
    · rw [if_neg hs] at hd
      obtain ⟨rfl, rfl⟩ := pab_no hd
      rw [hz rfl]
      repeat' first | refine g_go T hC true 400 rfl rfl ?_ | refine g_cond rfl (fun h => ?_) (fun h => ?_) | refine g_outE ?_ | refine g_call hC ((rone_n hl hj hs)) rfl rfl (LeSs.refl _) rfl rfl rfl ?_ | refine g_retl T (.inl rfl) rfl ?_
      exact g_fin ⟨.inl rfl, id, _, rfl, .refl _, trivial, rfl, rfl⟩
  · have hlt : acc.length < k := by have := of_decide_eq_true hh; (try dsimp only at this); omega
    clear hh
    rw [if_neg (by omega)] at hd hz
    by_cases h0 : acc.length = 0
    · rw [if_pos h0] at hd hz
      unfold oneA at hd hz
      by_cases hs : isA l j (⟨#[40]⟩ : ByteArray) = true
      · rw [if_pos hs] at hd hz
        simp only [PA.bind] at hd
        simp only at hz
        rcases RK0.at (rExpr_ok hl (ih g (by omega)) (j + 1) (isA_next hl hs)) (β := Ex) (g := fun x i => (partsA l g (k - acc.length - 1) i (acc ++ [x])).bind fun a i => .ok (.mk op 0 (⟨#[]⟩ : ByteArray) a) i) (x := xf) (j := jf) (b := bf) (by
            rw [← hd]; cases exprA l g 0 (j + 1) <;> rfl) with ⟨y, k2, hy, hd2, hE⟩ | ⟨hy, rfl, hE⟩
        · rw [hy] at hz
          simp only at hz
          have hk2 := (exprA_rg hl g 0 (j + 1) (isA_next hl hs)).1 _ _ hy
          have hal' : (acc ++ [y]).length = acc.length + 1 := by simp
          repeat' first | refine g_go T hC true 400 rfl rfl ?_ | (exfalso; have h' := of_decide_eq_false h; (try dsimp only at h'); omega) | refine g_cond rfl (fun h => ?_) (fun h => ?_) | refine g_call hC ((rone_y hl hs)) rfl rfl (LeSs.refl _) rfl rfl rfl ?_ | refine g_call hC (hE) rfl rfl (LeSs.refl _) rfl rfl rfl ?_ | refine g_lit T hC (rows := [exprR y]) rfl rfl rfl (by simp only [exprR_eq]; rfl) rfl rfl rfl rfl rfl ?_ | (refine g_append T 102 hC (rows := acc.map exprR) (rows2 := [exprR y]) (rows3 := (acc ++ [y]).map exprR) (bytes := 56) rfl rfl rfl rfl (SrcS.sl (T.es_ok _ _ rfl)) (by rw [List.map_append]; rfl) rfl rfl rfl (by kernel_rfl) (by rw [hal, List.length_singleton]; omega) (by rw [hal, List.length_singleton]; omega) rfl rfl rfl ?_)
          dsimp only
          rw [wrapS (i := acc.length) (by omega), show ((acc.length + 1 : Nat) : Int) = ((acc ++ [y]).length : Int) by simp]
          exact g_round (acc ++ [y], k2, g) ⟨by simp only; omega, hk2, by simp only; omega, by simp only; rw [hal', ← Nat.sub_sub]; exact hd2, fun h => by simp only; rw [hal', ← Nat.sub_sub]; exact hz h⟩ (mvP 101 102) (by simp only; omega) ⟨rfl, ⟨rfl, rfl, rfl, rfl, rfl, rfl, trivial⟩, ⟨rfl, rfl, rfl, trivial⟩, rfl, fun i hi => mvP_low (by omega) hi⟩
        · rw [hy] at hz
          rw [hz rfl]
          repeat' first | refine g_go T hC true 400 rfl rfl ?_ | (exfalso; have h' := of_decide_eq_false h; (try dsimp only at h'); omega) | refine g_cond rfl (fun h => ?_) (fun h => ?_) | refine g_call hC ((rone_y hl hs)) rfl rfl (LeSs.refl _) rfl rfl rfl ?_ | refine g_call hC (hE) rfl rfl (LeSs.refl _) rfl rfl rfl ?_ | refine g_retl T (.inl rfl) rfl ?_ | refine g_outR ?_
          exact g_fin ⟨.inl rfl, id, _, rfl, le3, trivial, rfl, rfl⟩
      · rw [if_neg hs] at hd hz
        obtain ⟨rfl, rfl⟩ := pab_no hd
        rw [hz rfl]
        repeat' first | refine g_go T hC true 400 rfl rfl ?_ | (exfalso; have h' := of_decide_eq_false h; (try dsimp only at h'); omega) | refine g_cond rfl (fun h => ?_) (fun h => ?_) | refine g_call hC ((rone_n hl hj hs)) rfl rfl (LeSs.refl _) rfl rfl rfl ?_ | refine g_retl T (.inl rfl) rfl ?_ | refine g_outR ?_
        exact g_fin ⟨.inl rfl, id, _, rfl, le3, trivial, rfl, rfl⟩
    · rw [if_neg h0] at hd hz
      unfold oneA at hd hz
      by_cases hs : isA l j (⟨#[44]⟩ : ByteArray) = true
      · rw [if_pos hs] at hd hz
        simp only [PA.bind] at hd
        simp only at hz
        rcases RK0.at (rExpr_ok hl (ih g (by omega)) (j + 1) (isA_next hl hs)) (β := Ex) (g := fun x i => (partsA l g (k - acc.length - 1) i (acc ++ [x])).bind fun a i => .ok (.mk op 0 (⟨#[]⟩ : ByteArray) a) i) (x := xf) (j := jf) (b := bf) (by
            rw [← hd]; cases exprA l g 0 (j + 1) <;> rfl) with ⟨y, k2, hy, hd2, hE⟩ | ⟨hy, rfl, hE⟩
        · rw [hy] at hz
          simp only at hz
          have hk2 := (exprA_rg hl g 0 (j + 1) (isA_next hl hs)).1 _ _ hy
          have hal' : (acc ++ [y]).length = acc.length + 1 := by simp
          repeat' first | refine g_go T hC true 400 rfl rfl ?_ | (exfalso; have h' := of_decide_eq_true h; (try dsimp only at h'); omega) | refine g_cond rfl (fun h => ?_) (fun h => ?_) | refine g_call hC ((rone_y hl hs)) rfl rfl (LeSs.refl _) rfl rfl rfl ?_ | refine g_call hC (hE) rfl rfl (LeSs.refl _) rfl rfl rfl ?_ | refine g_lit T hC (rows := [exprR y]) rfl rfl rfl (by simp only [exprR_eq]; rfl) rfl rfl rfl rfl rfl ?_ | (refine g_append T 102 hC (rows := acc.map exprR) (rows2 := [exprR y]) (rows3 := (acc ++ [y]).map exprR) (bytes := 56) rfl rfl rfl rfl (SrcS.sl (T.es_ok _ _ rfl)) (by rw [List.map_append]; rfl) rfl rfl rfl (by kernel_rfl) (by rw [hal, List.length_singleton]; omega) (by rw [hal, List.length_singleton]; omega) rfl rfl rfl ?_)
          dsimp only
          rw [wrapS (i := acc.length) (by omega), show ((acc.length + 1 : Nat) : Int) = ((acc ++ [y]).length : Int) by simp]
          exact g_round (acc ++ [y], k2, g) ⟨by simp only; omega, hk2, by simp only; omega, by simp only; rw [hal', ← Nat.sub_sub]; exact hd2, fun h => by simp only; rw [hal', ← Nat.sub_sub]; exact hz h⟩ (mvP 101 102) (by simp only; omega) ⟨rfl, ⟨rfl, rfl, rfl, rfl, rfl, rfl, trivial⟩, ⟨rfl, rfl, rfl, trivial⟩, rfl, fun i hi => mvP_low (by omega) hi⟩
        · rw [hy] at hz
          rw [hz rfl]
          repeat' first | refine g_go T hC true 400 rfl rfl ?_ | (exfalso; have h' := of_decide_eq_true h; (try dsimp only at h'); omega) | refine g_cond rfl (fun h => ?_) (fun h => ?_) | refine g_call hC ((rone_y hl hs)) rfl rfl (LeSs.refl _) rfl rfl rfl ?_ | refine g_call hC (hE) rfl rfl (LeSs.refl _) rfl rfl rfl ?_ | refine g_retl T (.inl rfl) rfl ?_ | refine g_outR ?_
          exact g_fin ⟨.inl rfl, id, _, rfl, le3, trivial, rfl, rfl⟩
      · rw [if_neg hs] at hd hz
        obtain ⟨rfl, rfl⟩ := pab_no hd
        rw [hz rfl]
        repeat' first | refine g_go T hC true 400 rfl rfl ?_ | (exfalso; have h' := of_decide_eq_true h; (try dsimp only at h'); omega) | refine g_cond rfl (fun h => ?_) (fun h => ?_) | refine g_call hC ((rone_n hl hj hs)) rfl rfl (LeSs.refl _) rfl rfl rfl ?_ | refine g_retl T (.inl rfl) rfl ?_ | refine g_outR ?_
        exact g_fin ⟨.inl rfl, id, _, rfl, le3, trivial, rfl, rfl⟩
end
end Hw.Pa
namespace Hw.Pa
open Go Go.Proofs Hw.M

theorem RK.mk' {f : FuncId} {args : List S} {enc : Ex → S} {r : PA Ex} (h : ∀ (b : Bool) (x : Ex) (j : Nat), r = pab x j b → ∃ y, (b = true → y = x) ∧ FnOK Tryz.prog f args [] (.tup [enc y, I (j : Nat), Bo b]) []) : RK f args enc r :=
  ⟨fun x j e => by obtain ⟨y, h1, h2⟩ := h true x j e; rw [h1 rfl] at h2; exact h2, fun j e => by obtain ⟨y, _, h2⟩ := h false E0 j e; exact ⟨y, h2⟩⟩
theorem isA_eq {l : List Tok} {i : Nat} {t : Tok} (ht : l[i]? = some t) (hk : t.k = 3 ∨ t.k = 4) (s : Str) : isA l i s = decide (t.t = s) := by
  rw [isA_T ht]; unfold isT; rcases hk with h | h <;> simp [h]
theorem le1 {n : Int} {s : Str} {op : Int} {j : Nat} {b : Bool} : LeS (.tup [.agg [.p (ki op), .p (ki n), .p (ks s), .p (.k (.slice none 0 0))], I (j : Nat), Bo b]) (.tup [enE (.mk op n s []), I (j : Nat), Bo b]) := .tup (.cons (le_ex0 _ _ _) (.cons (.refl _) (.cons (.refl _) .nil)))
section
variable {l : List Tok} (hl : GoodL l)
include hl
set_option maxHeartbeats 1000000 in
theorem rprim_step (f : Nat) (ih : ∀ g, g ≤ f → ER l g) (i : Nat) (hi : i < l.length) : RK 154 [pS (toksP l), I (i : Nat)] enE (primA l (f + 1) i) := by
  refine .mk' fun bf xf jf hR => ?_
  have hll := hl.len
  have hF := ih f (Nat.le_refl _)
  obtain ⟨⟨tk, ts, tn, tl, tc⟩, ht⟩ := exists_at hi
  have hw : IntKind.i64.wrap ((i : Int) + 1) = ((i + 1 : Nat) : Int) := wrapS (by omega)
  simp only [primA] at hR
  rw [ht] at hR
  simp only at hR
  by_cases hk2 : tk = 2
  · subst hk2
    rw [if_pos rfl] at hR
    obtain ⟨rfl, rfl, rfl⟩ := pab_ok hR
    refine ⟨_, fun _ => rfl, ?_⟩
    refine fn_ok T Tryz.func154 (by kernel_rfl) rfl rfl rfl rfl fun C hC => ?_
    repeat' first | refine g_go T hC true 400 rfl rfl ?_ | (exfalso; simp at h; done) | refine g_cond rfl (fun h => ?_) (fun h => ?_) | refine g_splitG rfl rfl rfl (fun h => ?_) (fun h => ?_) | refine g_splitP rfl rfl (fun h => ?_) (fun h => ?_) | refine g_idx T hC rfl rfl rfl (Int.natCast_nonneg _) (map_at ht) rfl rfl ?_ | refine g_retl T (.inl rfl) rfl ?_
    rw [hw]
    exact g_fin ⟨.inl rfl, id, _, rfl, le1, trivial, rfl, rfl⟩
  rw [if_neg hk2] at hR
  by_cases hk1 : tk = 1
  · subst hk1
    rw [if_pos rfl] at hR
    have hnx : i + 1 < l.length := hl.next ht (by show (1 : Int) ≠ 5; decide)
    obtain ⟨u, hu⟩ := exists_at hnx
    by_cases hs : isA l (i + 1) (⟨#[40]⟩ : ByteArray) = true
    · rw [if_pos hs] at hR
      have hi2 := isA_next hl hs
      obtain ⟨v, hv⟩ := exists_at hi2
      have hw2 : IntKind.i64.wrap ((i : Int) + 2) = ((i + 1 + 1 : Nat) : Int) := by rw [show (i : Int) + 2 = ((i + 1 : Nat) : Int) + 1 by omega]; exact wrapS (by omega)
      have hw3 : IntKind.i64.wrap ((i : Int) + 3) = ((i + 1 + 1 + 1 : Nat) : Int) := by rw [show (i : Int) + 3 = ((i + 1 + 1 : Nat) : Int) + 1 by omega]; exact wrapS (by omega)
      by_cases hc : isA l (i + 1 + 1) (⟨#[41]⟩ : ByteArray) = true
      · have hA : argsP l f (i + 2) [] = .ok [] (i + 3) ∨ argsP l f (i + 2) [] = .out := by
          cases f with
          | zero => exact .inr (by simp only [argsP])
          | succ f => exact .inl (by simp only [argsP]; rw [if_pos hc])
        rcases hA with hA | hA
        · rw [hA] at hR
          obtain ⟨rfl, rfl, rfl⟩ := pab_ok hR
          refine ⟨_, fun _ => rfl, ?_⟩
          refine fn_ok T Tryz.func154 (by kernel_rfl) rfl rfl rfl rfl fun C hC => ?_
          repeat' first | refine g_go T hC true 400 rfl rfl ?_ | (exfalso; simp at h; done) | refine g_cond rfl (fun h => ?_) (fun h => ?_) | refine g_splitG rfl rfl rfl (fun h => ?_) (fun h => ?_) | refine g_splitP rfl rfl (fun h => ?_) (fun h => ?_) | refine g_idx T hC rfl rfl rfl (Int.natCast_nonneg _) (map_at ht) rfl rfl ?_ | refine g_idx T hC (i := IntKind.i64.wrap ((i : Int) + 1)) rfl rfl rfl (by rw [hw]; exact Int.natCast_nonneg _) (by rw [hw]; exact map_at hu) rfl rfl ?_ | refine g_call hC ((rIs_y hu hs)) rfl rfl (LeSs.refl _) rfl rfl rfl ?_ | refine g_idx T hC (i := IntKind.i64.wrap ((i : Int) + 2)) rfl rfl rfl (by rw [hw2]; exact Int.natCast_nonneg _) (by rw [hw2]; exact map_at hv) rfl rfl ?_ | refine g_call hC ((rIs_y hv hc)) rfl rfl (LeSs.refl _) rfl rfl rfl ?_ | refine g_retl T (.inl rfl) rfl ?_
          rw [hw3]
          exact g_fin ⟨.inl rfl, id, _, rfl, le1, trivial, rfl, rfl⟩
        · rw [hA] at hR; exact (pab_out hR).elim
      · have hA := hF.args (i + 1 + 1) hi2 hc
        rw [← hw2] at hA
        rcases RK0.at hA hR with ⟨y, k, _, e, hE⟩ | ⟨_, rfl, hE⟩
        · obtain ⟨rfl, rfl, rfl⟩ := pab_ok e
          refine ⟨_, fun _ => rfl, ?_⟩
          refine fn_ok T Tryz.func154 (by kernel_rfl) rfl rfl rfl rfl fun C hC => ?_
          repeat' first | refine g_go T hC true 400 rfl rfl ?_ | (exfalso; simp at h; done) | refine g_cond rfl (fun h => ?_) (fun h => ?_) | refine g_splitG rfl rfl rfl (fun h => ?_) (fun h => ?_) | refine g_splitP rfl rfl (fun h => ?_) (fun h => ?_) | refine g_idx T hC rfl rfl rfl (Int.natCast_nonneg _) (map_at ht) rfl rfl ?_ | refine g_idx T hC (i := IntKind.i64.wrap ((i : Int) + 1)) rfl rfl rfl (by rw [hw]; exact Int.natCast_nonneg _) (by rw [hw]; exact map_at hu) rfl rfl ?_ | refine g_call hC ((rIs_y hu hs)) rfl rfl (LeSs.refl _) rfl rfl rfl ?_ | refine g_idx T hC (i := IntKind.i64.wrap ((i : Int) + 2)) rfl rfl rfl (by rw [hw2]; exact Int.natCast_nonneg _) (by rw [hw2]; exact map_at hv) rfl rfl ?_ | refine g_call hC ((rIs_n hv hc)) rfl rfl (LeSs.refl _) rfl rfl rfl ?_ | refine g_call hC (hE) rfl rfl (LeSs.refl _) rfl rfl rfl ?_ | refine g_retl T (.inl rfl) rfl ?_
          exact g_fin ⟨.inl rfl, id, _, rfl, .refl _, trivial, rfl, rfl⟩
        · refine ⟨.mk 7 0 ts [], (fun h => by cases h), ?_⟩
          refine fn_ok T Tryz.func154 (by kernel_rfl) rfl rfl rfl rfl fun C hC => ?_
          repeat' first | refine g_go T hC true 400 rfl rfl ?_ | (exfalso; simp at h; done) | refine g_cond rfl (fun h => ?_) (fun h => ?_) | refine g_splitG rfl rfl rfl (fun h => ?_) (fun h => ?_) | refine g_splitP rfl rfl (fun h => ?_) (fun h => ?_) | refine g_idx T hC rfl rfl rfl (Int.natCast_nonneg _) (map_at ht) rfl rfl ?_ | refine g_idx T hC (i := IntKind.i64.wrap ((i : Int) + 1)) rfl rfl rfl (by rw [hw]; exact Int.natCast_nonneg _) (by rw [hw]; exact map_at hu) rfl rfl ?_ | refine g_call hC ((rIs_y hu hs)) rfl rfl (LeSs.refl _) rfl rfl rfl ?_ | refine g_idx T hC (i := IntKind.i64.wrap ((i : Int) + 2)) rfl rfl rfl (by rw [hw2]; exact Int.natCast_nonneg _) (by rw [hw2]; exact map_at hv) rfl rfl ?_ | refine g_call hC ((rIs_n hv hc)) rfl rfl (LeSs.refl _) rfl rfl rfl ?_ | refine g_call hC (hE) rfl rfl (LeSs.refl _) rfl rfl rfl ?_ | refine g_retl T (.inl rfl) rfl ?_
          exact g_fin ⟨.inl rfl, id, _, rfl, .refl _, trivial, rfl, rfl⟩
    · rw [if_neg hs] at hR
      obtain ⟨rfl, rfl, rfl⟩ := pab_ok hR
      refine ⟨_, fun _ => rfl, ?_⟩
      refine fn_ok T Tryz.func154 (by kernel_rfl) rfl rfl rfl rfl fun C hC => ?_
      repeat' first | refine g_go T hC true 400 rfl rfl ?_ | (exfalso; simp at h; done) | refine g_cond rfl (fun h => ?_) (fun h => ?_) | refine g_splitG rfl rfl rfl (fun h => ?_) (fun h => ?_) | refine g_splitP rfl rfl (fun h => ?_) (fun h => ?_) | refine g_idx T hC rfl rfl rfl (Int.natCast_nonneg _) (map_at ht) rfl rfl ?_ | refine g_idx T hC (i := IntKind.i64.wrap ((i : Int) + 1)) rfl rfl rfl (by rw [hw]; exact Int.natCast_nonneg _) (by rw [hw]; exact map_at hu) rfl rfl ?_ | refine g_call hC ((rIs_n hu hs)) rfl rfl (LeSs.refl _) rfl rfl rfl ?_ | refine g_retl T (.inl rfl) rfl ?_
      rw [hw]
      exact g_fin ⟨.inl rfl, id, _, rfl, le1, trivial, rfl, rfl⟩
  rw [if_neg hk1] at hR
  by_cases hk : tk = 3 ∨ tk = 4
  rotate_left
  · have hno : ∀ s, ¬ isA l i s = true := fun s h => hk (by rw [isA_T ht] at h; unfold isT at h; simp only [Bool.and_eq_true, Bool.or_eq_true, decide_eq_true_eq] at h; exact h.1)
    simp only [if_neg (hno _)] at hR
    obtain ⟨rfl, rfl⟩ := pab_no hR
    refine ⟨E0, (fun h => by cases h), ?_⟩
    have h3 : ¬ tk = 3 := fun h => hk (.inl h)
    have h4 : ¬ tk = 4 := fun h => hk (.inr h)
    refine fn_ok T Tryz.func154 (by kernel_rfl) rfl rfl rfl rfl fun C hC => ?_
    repeat' first | refine g_go T hC true 400 rfl rfl ?_ | (exfalso; simp at h; contradiction) | (exfalso; have h' := of_decide_eq_true h; contradiction) | refine g_cond rfl (fun h => ?_) (fun h => ?_) | refine g_splitG rfl rfl rfl (fun h => ?_) (fun h => ?_) | refine g_splitP rfl rfl (fun h => ?_) (fun h => ?_) | refine g_idx T hC rfl rfl rfl (Int.natCast_nonneg _) (map_at ht) rfl rfl ?_ | refine g_retl T (.inl rfl) rfl ?_
    all_goals exact g_fin ⟨.inl rfl, id, _, rfl, le3, trivial, rfl, rfl⟩
  simp only [isA_eq ht hk] at hR
  have hN : i + 1 < l.length := hl.next ht (by show tk ≠ 5; omega)
  have hname := rname_ok hl (i + 1) hN
  have hE0 := rExpr_ok hl hF (i + 1) hN
  have hF3 := hF.fixed (i + 1) 3 21 (by decide) (by decide) hN
  have hF2 := hF.fixed (i + 1) 2 22 (by decide) (by decide) hN
  have hF23 := hF.fixed (i + 1) 2 23 (by decide) (by decide) hN
  have hF1 := hF.fixed (i + 1) 1 24 (by decide) (by decide) hN
  rw [← hw] at hname hE0 hF3 hF2 hF23 hF1
  by_cases hs : ts = (⟨#[116, 114, 117, 101]⟩ : ByteArray)
  · subst hs
    simp only [String.reduceEq, decide_true, if_true] at hR
    obtain ⟨rfl, rfl, rfl⟩ := pab_ok hR
    refine ⟨_, fun _ => rfl, ?_⟩
    rcases hk with rfl | rfl
    all_goals
      refine fn_ok T Tryz.func154 (by kernel_rfl) rfl rfl rfl rfl fun C hC => ?_
      repeat' first | refine g_go T hC true 400 rfl rfl ?_ | (exfalso; simp at h; done) | refine g_cond rfl (fun h => ?_) (fun h => ?_) | refine g_splitG rfl rfl rfl (fun h => ?_) (fun h => ?_) | refine g_splitP rfl rfl (fun h => ?_) (fun h => ?_) | refine g_idx T hC rfl rfl rfl (Int.natCast_nonneg _) (map_at ht) rfl rfl ?_ | refine g_retl T (.inl rfl) rfl ?_
      rw [hw]
      exact g_fin ⟨.inl rfl, id, _, rfl, le1, trivial, rfl, rfl⟩
  have q_true := hs
  rw [if_neg (by simpa using hs)] at hR
  clear hs
  by_cases hs : ts = (⟨#[102, 97, 108, 115, 101]⟩ : ByteArray)
  · subst hs
    simp only [String.reduceEq, decide_true, if_true] at hR
    obtain ⟨rfl, rfl, rfl⟩ := pab_ok hR
    refine ⟨_, fun _ => rfl, ?_⟩
    rcases hk with rfl | rfl
    all_goals
      refine fn_ok T Tryz.func154 (by kernel_rfl) rfl rfl rfl rfl fun C hC => ?_
      repeat' first | refine g_go T hC true 400 rfl rfl ?_ | (exfalso; simp at h; done) | refine g_cond rfl (fun h => ?_) (fun h => ?_) | refine g_splitG rfl rfl rfl (fun h => ?_) (fun h => ?_) | refine g_splitP rfl rfl (fun h => ?_) (fun h => ?_) | refine g_idx T hC rfl rfl rfl (Int.natCast_nonneg _) (map_at ht) rfl rfl ?_ | refine g_retl T (.inl rfl) rfl ?_
      rw [hw]
      exact g_fin ⟨.inl rfl, id, _, rfl, le1, trivial, rfl, rfl⟩
  have q_false := hs
  rw [if_neg (by simpa using hs)] at hR
  clear hs
  by_cases hs : ts = (⟨#[110, 105, 108]⟩ : ByteArray)
  · subst hs
    simp only [String.reduceEq, decide_true, if_true] at hR
    obtain ⟨rfl, rfl, rfl⟩ := pab_ok hR
    refine ⟨_, fun _ => rfl, ?_⟩
    rcases hk with rfl | rfl
    all_goals
      refine fn_ok T Tryz.func154 (by kernel_rfl) rfl rfl rfl rfl fun C hC => ?_
      repeat' first | refine g_go T hC true 400 rfl rfl ?_ | (exfalso; simp at h; done) | refine g_cond rfl (fun h => ?_) (fun h => ?_) | refine g_splitG rfl rfl rfl (fun h => ?_) (fun h => ?_) | refine g_splitP rfl rfl (fun h => ?_) (fun h => ?_) | refine g_idx T hC rfl rfl rfl (Int.natCast_nonneg _) (map_at ht) rfl rfl ?_ | refine g_retl T (.inl rfl) rfl ?_
      rw [hw]
      exact g_fin ⟨.inl rfl, id, _, rfl, le1, trivial, rfl, rfl⟩
  have q_nil := hs
  rw [if_neg (by simpa using hs)] at hR
  clear hs
  by_cases hs : ts = (⟨#[116, 104, 105, 115]⟩ : ByteArray)
  · subst hs
    simp only [String.reduceEq, decide_true, if_true] at hR
    obtain ⟨rfl, rfl, rfl⟩ := pab_ok hR
    refine ⟨_, fun _ => rfl, ?_⟩
    rcases hk with rfl | rfl
    all_goals
      refine fn_ok T Tryz.func154 (by kernel_rfl) rfl rfl rfl rfl fun C hC => ?_
      repeat' first | refine g_go T hC true 400 rfl rfl ?_ | (exfalso; simp at h; done) | refine g_cond rfl (fun h => ?_) (fun h => ?_) | refine g_splitG rfl rfl rfl (fun h => ?_) (fun h => ?_) | refine g_splitP rfl rfl (fun h => ?_) (fun h => ?_) | refine g_idx T hC rfl rfl rfl (Int.natCast_nonneg _) (map_at ht) rfl rfl ?_ | refine g_retl T (.inl rfl) rfl ?_
      rw [hw]
      exact g_fin ⟨.inl rfl, id, _, rfl, le1, trivial, rfl, rfl⟩
  have q_this := hs
  rw [if_neg (by simpa using hs)] at hR
  clear hs
  by_cases hs : ts = (⟨#[110, 101, 119]⟩ : ByteArray)
  · subst hs
    simp only [String.reduceEq, decide_true, if_true] at hR
    rcases RK.at hname hR with ⟨y, k, _, e, hE⟩ | ⟨_, rfl, z, hE⟩
    · obtain ⟨rfl, rfl, rfl⟩ := pab_ok e
      refine ⟨_, fun _ => rfl, ?_⟩
      rcases hk with rfl | rfl
      all_goals
        refine fn_ok T Tryz.func154 (by kernel_rfl) rfl rfl rfl rfl fun C hC => ?_
        repeat' first | refine g_go T hC true 400 rfl rfl ?_ | (exfalso; simp at h; done) | refine g_cond rfl (fun h => ?_) (fun h => ?_) | refine g_splitG rfl rfl rfl (fun h => ?_) (fun h => ?_) | refine g_splitP rfl rfl (fun h => ?_) (fun h => ?_) | refine g_idx T hC rfl rfl rfl (Int.natCast_nonneg _) (map_at ht) rfl rfl ?_ | refine g_call hC (hE) rfl rfl (LeSs.refl _) rfl rfl rfl ?_ | refine g_retl T (.inl rfl) rfl ?_
        exact g_fin ⟨.inl rfl, id, _, rfl, le1, trivial, rfl, rfl⟩
    · refine ⟨.mk 6 0 z [], (fun h => by cases h), ?_⟩
      rcases hk with rfl | rfl
      all_goals
        refine fn_ok T Tryz.func154 (by kernel_rfl) rfl rfl rfl rfl fun C hC => ?_
        repeat' first | refine g_go T hC true 400 rfl rfl ?_ | (exfalso; simp at h; done) | refine g_cond rfl (fun h => ?_) (fun h => ?_) | refine g_splitG rfl rfl rfl (fun h => ?_) (fun h => ?_) | refine g_splitP rfl rfl (fun h => ?_) (fun h => ?_) | refine g_idx T hC rfl rfl rfl (Int.natCast_nonneg _) (map_at ht) rfl rfl ?_ | refine g_call hC (hE) rfl rfl (LeSs.refl _) rfl rfl rfl ?_ | refine g_retl T (.inl rfl) rfl ?_
        exact g_fin ⟨.inl rfl, id, _, rfl, le1, trivial, rfl, rfl⟩
  have q_new := hs
  rw [if_neg (by simpa using hs)] at hR
  clear hs
  by_cases hs : ts = (⟨#[105, 102]⟩ : ByteArray)
  · subst hs
    simp only [String.reduceEq, decide_true, if_true] at hR
    rcases RK.at (g := PA.ok) hF3 (by rw [bind_self]; exact hR) with ⟨y, k, _, e, hE⟩ | ⟨_, rfl, z, hE⟩
    · obtain ⟨rfl, rfl, rfl⟩ := pab_ok e
      refine ⟨_, fun _ => rfl, ?_⟩
      rcases hk with rfl | rfl
      all_goals
        refine fn_ok T Tryz.func154 (by kernel_rfl) rfl rfl rfl rfl fun C hC => ?_
        repeat' first | refine g_go T hC true 400 rfl rfl ?_ | (exfalso; simp at h; done) | refine g_cond rfl (fun h => ?_) (fun h => ?_) | refine g_splitG rfl rfl rfl (fun h => ?_) (fun h => ?_) | refine g_splitP rfl rfl (fun h => ?_) (fun h => ?_) | refine g_idx T hC rfl rfl rfl (Int.natCast_nonneg _) (map_at ht) rfl rfl ?_ | refine g_call hC (hE) rfl rfl (LeSs.refl _) rfl rfl rfl ?_ | refine g_retl T (.inl rfl) rfl ?_
        exact g_fin ⟨.inl rfl, id, _, rfl, .refl _, trivial, rfl, rfl⟩
    · refine ⟨z, (fun h => by cases h), ?_⟩
      rcases hk with rfl | rfl
      all_goals
        refine fn_ok T Tryz.func154 (by kernel_rfl) rfl rfl rfl rfl fun C hC => ?_
        repeat' first | refine g_go T hC true 400 rfl rfl ?_ | (exfalso; simp at h; done) | refine g_cond rfl (fun h => ?_) (fun h => ?_) | refine g_splitG rfl rfl rfl (fun h => ?_) (fun h => ?_) | refine g_splitP rfl rfl (fun h => ?_) (fun h => ?_) | refine g_idx T hC rfl rfl rfl (Int.natCast_nonneg _) (map_at ht) rfl rfl ?_ | refine g_call hC (hE) rfl rfl (LeSs.refl _) rfl rfl rfl ?_ | refine g_retl T (.inl rfl) rfl ?_
        exact g_fin ⟨.inl rfl, id, _, rfl, .refl _, trivial, rfl, rfl⟩
  have q_if := hs
  rw [if_neg (by simpa using hs)] at hR
  clear hs
  by_cases hs : ts = (⟨#[109, 97, 120]⟩ : ByteArray)
  · subst hs
    simp only [String.reduceEq, decide_true, if_true] at hR
    rcases RK.at (g := PA.ok) hF2 (by rw [bind_self]; exact hR) with ⟨y, k, _, e, hE⟩ | ⟨_, rfl, z, hE⟩
    · obtain ⟨rfl, rfl, rfl⟩ := pab_ok e
      refine ⟨_, fun _ => rfl, ?_⟩
      rcases hk with rfl | rfl
      all_goals
        refine fn_ok T Tryz.func154 (by kernel_rfl) rfl rfl rfl rfl fun C hC => ?_
        repeat' first | refine g_go T hC true 400 rfl rfl ?_ | (exfalso; simp at h; done) | refine g_cond rfl (fun h => ?_) (fun h => ?_) | refine g_splitG rfl rfl rfl (fun h => ?_) (fun h => ?_) | refine g_splitP rfl rfl (fun h => ?_) (fun h => ?_) | refine g_idx T hC rfl rfl rfl (Int.natCast_nonneg _) (map_at ht) rfl rfl ?_ | refine g_call hC (hE) rfl rfl (LeSs.refl _) rfl rfl rfl ?_ | refine g_retl T (.inl rfl) rfl ?_
        exact g_fin ⟨.inl rfl, id, _, rfl, .refl _, trivial, rfl, rfl⟩
    · refine ⟨z, (fun h => by cases h), ?_⟩
      rcases hk with rfl | rfl
      all_goals
        refine fn_ok T Tryz.func154 (by kernel_rfl) rfl rfl rfl rfl fun C hC => ?_
        repeat' first | refine g_go T hC true 400 rfl rfl ?_ | (exfalso; simp at h; done) | refine g_cond rfl (fun h => ?_) (fun h => ?_) | refine g_splitG rfl rfl rfl (fun h => ?_) (fun h => ?_) | refine g_splitP rfl rfl (fun h => ?_) (fun h => ?_) | refine g_idx T hC rfl rfl rfl (Int.natCast_nonneg _) (map_at ht) rfl rfl ?_ | refine g_call hC (hE) rfl rfl (LeSs.refl _) rfl rfl rfl ?_ | refine g_retl T (.inl rfl) rfl ?_
        exact g_fin ⟨.inl rfl, id, _, rfl, .refl _, trivial, rfl, rfl⟩
  have q_max := hs
  rw [if_neg (by simpa using hs)] at hR
  clear hs
  by_cases hs : ts = (⟨#[109, 105, 110]⟩ : ByteArray)
  · subst hs
    simp only [String.reduceEq, decide_true, if_true] at hR
    rcases RK.at (g := PA.ok) hF23 (by rw [bind_self]; exact hR) with ⟨y, k, _, e, hE⟩ | ⟨_, rfl, z, hE⟩
    · obtain ⟨rfl, rfl, rfl⟩ := pab_ok e
      refine ⟨_, fun _ => rfl, ?_⟩
      rcases hk with rfl | rfl
      all_goals
        refine fn_ok T Tryz.func154 (by kernel_rfl) rfl rfl rfl rfl fun C hC => ?_
        repeat' first | refine g_go T hC true 400 rfl rfl ?_ | (exfalso; simp at h; done) | refine g_cond rfl (fun h => ?_) (fun h => ?_) | refine g_splitG rfl rfl rfl (fun h => ?_) (fun h => ?_) | refine g_splitP rfl rfl (fun h => ?_) (fun h => ?_) | refine g_idx T hC rfl rfl rfl (Int.natCast_nonneg _) (map_at ht) rfl rfl ?_ | refine g_call hC (hE) rfl rfl (LeSs.refl _) rfl rfl rfl ?_ | refine g_retl T (.inl rfl) rfl ?_
        exact g_fin ⟨.inl rfl, id, _, rfl, .refl _, trivial, rfl, rfl⟩
    · refine ⟨z, (fun h => by cases h), ?_⟩
      rcases hk with rfl | rfl
      all_goals
        refine fn_ok T Tryz.func154 (by kernel_rfl) rfl rfl rfl rfl fun C hC => ?_
        repeat' first | refine g_go T hC true 400 rfl rfl ?_ | (exfalso; simp at h; done) | refine g_cond rfl (fun h => ?_) (fun h => ?_) | refine g_splitG rfl rfl rfl (fun h => ?_) (fun h => ?_) | refine g_splitP rfl rfl (fun h => ?_) (fun h => ?_) | refine g_idx T hC rfl rfl rfl (Int.natCast_nonneg _) (map_at ht) rfl rfl ?_ | refine g_call hC (hE) rfl rfl (LeSs.refl _) rfl rfl rfl ?_ | refine g_retl T (.inl rfl) rfl ?_
        exact g_fin ⟨.inl rfl, id, _, rfl, .refl _, trivial, rfl, rfl⟩
  have q_min := hs
  rw [if_neg (by simpa using hs)] at hR
  clear hs
  by_cases hs : ts = (⟨#[108, 111, 103]⟩ : ByteArray)
  · subst hs
    simp only [String.reduceEq, decide_true, if_true] at hR
    rcases RK.at (g := PA.ok) hF1 (by rw [bind_self]; exact hR) with ⟨y, k, _, e, hE⟩ | ⟨_, rfl, z, hE⟩
    · obtain ⟨rfl, rfl, rfl⟩ := pab_ok e
      refine ⟨_, fun _ => rfl, ?_⟩
      rcases hk with rfl | rfl
      all_goals
        refine fn_ok T Tryz.func154 (by kernel_rfl) rfl rfl rfl rfl fun C hC => ?_
        repeat' first | refine g_go T hC true 400 rfl rfl ?_ | (exfalso; simp at h; done) | refine g_cond rfl (fun h => ?_) (fun h => ?_) | refine g_splitG rfl rfl rfl (fun h => ?_) (fun h => ?_) | refine g_splitP rfl rfl (fun h => ?_) (fun h => ?_) | refine g_idx T hC rfl rfl rfl (Int.natCast_nonneg _) (map_at ht) rfl rfl ?_ | refine g_call hC (hE) rfl rfl (LeSs.refl _) rfl rfl rfl ?_ | refine g_retl T (.inl rfl) rfl ?_
        exact g_fin ⟨.inl rfl, id, _, rfl, .refl _, trivial, rfl, rfl⟩
    · refine ⟨z, (fun h => by cases h), ?_⟩
      rcases hk with rfl | rfl
      all_goals
        refine fn_ok T Tryz.func154 (by kernel_rfl) rfl rfl rfl rfl fun C hC => ?_
        repeat' first | refine g_go T hC true 400 rfl rfl ?_ | (exfalso; simp at h; done) | refine g_cond rfl (fun h => ?_) (fun h => ?_) | refine g_splitG rfl rfl rfl (fun h => ?_) (fun h => ?_) | refine g_splitP rfl rfl (fun h => ?_) (fun h => ?_) | refine g_idx T hC rfl rfl rfl (Int.natCast_nonneg _) (map_at ht) rfl rfl ?_ | refine g_call hC (hE) rfl rfl (LeSs.refl _) rfl rfl rfl ?_ | refine g_retl T (.inl rfl) rfl ?_
        exact g_fin ⟨.inl rfl, id, _, rfl, .refl _, trivial, rfl, rfl⟩
  have q_log := hs
  rw [if_neg (by simpa using hs)] at hR
  clear hs
  by_cases hs : ts = (⟨#[40]⟩ : ByteArray)
  · subst hs
    simp only [String.reduceEq, decide_true, if_true] at hR
    rcases RK0.at hE0 hR with ⟨y, k, hy, hd, hE⟩ | ⟨_, rfl, hE⟩
    · have hkk := (exprA_rg hl f 0 (i + 1) hN).1 _ _ hy
      unfold oneA at hd
      by_cases hs : isA l k (⟨#[41]⟩ : ByteArray) = true
      · rw [if_pos hs] at hd
        obtain ⟨rfl, rfl, rfl⟩ := pab_ok hd
        refine ⟨_, fun _ => rfl, ?_⟩
        rcases hk with rfl | rfl
        all_goals
          refine fn_ok T Tryz.func154 (by kernel_rfl) rfl rfl rfl rfl fun C hC => ?_
          repeat' first | refine g_go T hC true 400 rfl rfl ?_ | (exfalso; simp at h; done) | refine g_cond rfl (fun h => ?_) (fun h => ?_) | refine g_splitG rfl rfl rfl (fun h => ?_) (fun h => ?_) | refine g_splitP rfl rfl (fun h => ?_) (fun h => ?_) | refine g_idx T hC rfl rfl rfl (Int.natCast_nonneg _) (map_at ht) rfl rfl ?_ | refine g_call hC (hE) rfl rfl (LeSs.refl _) rfl rfl rfl ?_ | refine g_call hC ((rone_y hl hs)) rfl rfl (LeSs.refl _) rfl rfl rfl ?_ | refine g_retl T (.inl rfl) rfl ?_
          exact g_fin ⟨.inl rfl, id, _, rfl, .refl _, trivial, rfl, rfl⟩
      · rw [if_neg hs] at hd
        obtain ⟨rfl, rfl⟩ := pab_no hd
        refine ⟨y, (fun h => by cases h), ?_⟩
        rcases hk with rfl | rfl
        all_goals
          refine fn_ok T Tryz.func154 (by kernel_rfl) rfl rfl rfl rfl fun C hC => ?_
          repeat' first | refine g_go T hC true 400 rfl rfl ?_ | (exfalso; simp at h; done) | refine g_cond rfl (fun h => ?_) (fun h => ?_) | refine g_splitG rfl rfl rfl (fun h => ?_) (fun h => ?_) | refine g_splitP rfl rfl (fun h => ?_) (fun h => ?_) | refine g_idx T hC rfl rfl rfl (Int.natCast_nonneg _) (map_at ht) rfl rfl ?_ | refine g_call hC (hE) rfl rfl (LeSs.refl _) rfl rfl rfl ?_ | refine g_call hC ((rone_n hl hkk hs)) rfl rfl (LeSs.refl _) rfl rfl rfl ?_ | refine g_retl T (.inl rfl) rfl ?_
          exact g_fin ⟨.inl rfl, id, _, rfl, .refl _, trivial, rfl, rfl⟩
    · refine ⟨E0, (fun h => by cases h), ?_⟩
      rcases hk with rfl | rfl
      all_goals
        refine fn_ok T Tryz.func154 (by kernel_rfl) rfl rfl rfl rfl fun C hC => ?_
        repeat' first | refine g_go T hC true 400 rfl rfl ?_ | (exfalso; simp at h; done) | refine g_cond rfl (fun h => ?_) (fun h => ?_) | refine g_splitG rfl rfl rfl (fun h => ?_) (fun h => ?_) | refine g_splitP rfl rfl (fun h => ?_) (fun h => ?_) | refine g_idx T hC rfl rfl rfl (Int.natCast_nonneg _) (map_at ht) rfl rfl ?_ | refine g_call hC (hE) rfl rfl (LeSs.refl _) rfl rfl rfl ?_ | refine g_retl T (.inl rfl) rfl ?_
        exact g_fin ⟨.inl rfl, id, _, rfl, le3, trivial, rfl, rfl⟩
  have hpar := hs
  rw [if_neg (by simpa using hs)] at hR
  clear hs
  obtain ⟨rfl, rfl⟩ := pab_no hR
  refine ⟨E0, (fun h => by cases h), ?_⟩
  rcases hk with rfl | rfl
  all_goals
    refine fn_ok T Tryz.func154 (by kernel_rfl) rfl rfl rfl rfl fun C hC => ?_
    repeat' first | refine g_go T hC true 400 rfl rfl ?_ | (exfalso; have h' := of_decide_eq_true h; dsimp only at h'; contradiction) | (exfalso; have h' := of_decide_eq_true h; contradiction) | (exfalso; simp at h; done) | refine g_cond rfl (fun h => ?_) (fun h => ?_) | refine g_splitG rfl rfl rfl (fun h => ?_) (fun h => ?_) | refine g_splitP rfl rfl (fun h => ?_) (fun h => ?_) | refine g_idx T hC rfl rfl rfl (Int.natCast_nonneg _) (map_at ht) rfl rfl ?_ | refine g_retl T (.inl rfl) rfl ?_
    exact g_fin ⟨.inl rfl, id, _, rfl, le3, trivial, rfl, rfl⟩
theorem er_all : ∀ f : Nat, ER l f := by
  intro f
  induction f using Nat.strongRecOn with
  | _ f ih =>
    cases f with
    | zero => exact ⟨(fun _ _ _ _ => ⟨(fun _ _ h => by simp only [exprA] at h; cases h), fun _ h => by simp only [exprA] at h; cases h⟩), (fun _ _ => ⟨(fun _ _ h => by simp only [postA] at h; cases h), fun _ h => by simp only [postA] at h; cases h⟩), (fun _ _ => ⟨(fun _ _ h => by simp only [primA] at h; cases h), fun _ h => by simp only [primA] at h; cases h⟩), (fun _ _ _ => ⟨(fun _ _ h => by simp only [argsP] at h; cases h), fun _ h => by simp only [argsP] at h; cases h⟩), (fun _ _ _ _ _ _ => ⟨(fun _ _ h => by simp only [partsA, PA.bind] at h; cases h), fun _ h => by simp only [partsA, PA.bind] at h; cases h⟩)⟩
    | succ f =>
      have ih' : ∀ g, g ≤ f → ER l g := fun g hg => ih g (by omega)
      exact ⟨fun n i hn hi => rlev_step hl f ih' n i hn hi, fun i hi => rpost_step hl f ih' i hi, fun i hi => rprim_step hl f ih' i hi, fun i hi h0 => rargs_step hl f ih' i hi h0, fun i k op h1 h3 hi => rfixed_step hl f ih' i k op h1 h3 hi⟩
end
end Hw.Pa
/- The library's functions at this program: their numbers. -/
namespace Hw.Pa
open Go Go.Proofs Go.Shelf
def laysIdx_ren : Go.Shelf.Ren := ⟨fun | 137 => 97 | 217 => 140 | 266 => 161 | n => n, fun | 9 => 9 | 5 => 5 | 3 => 3 | n => n, fun | n => n⟩
theorem laysIdx : Go.Proofs.Lays.n137 Tryz.prog laysIdx_ren where
  mixed := by kernel_rfl
  f137 := Tryz.func97.trans (congrArg some (by kernel_rfl))
  f217 := Tryz.func140.trans (congrArg some (by kernel_rfl))
  f266 := Tryz.func161.trans (congrArg some (by kernel_rfl))
  t3 := Tryz.underlying3
  a3 := Tryz.isAgg3
  z3 := Tryz.sizeOf3
  v3 := Tryz.zeroValue3
  t5 := Tryz.underlying5
  a5 := Tryz.isAgg5
  z5 := Tryz.sizeOf5
  v5 := Tryz.zeroValue5
  t9 := Tryz.underlying9
  a9 := Tryz.isAgg9
  z9 := Tryz.sizeOf9
  v9 := Tryz.zeroValue9
def laysPre_ren : Go.Shelf.Ren := ⟨fun | 99 => 96 | 206 => 139 | n => n, fun | 9 => 9 | 4 => 4 | 3 => 3 | n => n, fun | n => n⟩
theorem laysPre : Go.Proofs.Lays.n99 Tryz.prog laysPre_ren where
  mixed := by kernel_rfl
  f99 := Tryz.func96.trans (congrArg some (by kernel_rfl))
  f206 := Tryz.func139.trans (congrArg some (by kernel_rfl))
  t3 := Tryz.underlying3
  a3 := Tryz.isAgg3
  z3 := Tryz.sizeOf3
  v3 := Tryz.zeroValue3
  t4 := Tryz.underlying4
  a4 := Tryz.isAgg4
  z4 := Tryz.sizeOf4
  v4 := Tryz.zeroValue4
  t9 := Tryz.underlying9
  a9 := Tryz.isAgg9
  z9 := Tryz.sizeOf9
  v9 := Tryz.zeroValue9
end Hw.Pa
/- The library's functions at this program: their numbers. -/
namespace Hw.Pa
open Go Go.Proofs Go.Shelf
def laysAtoi_ren : Go.Shelf.Ren := ⟨fun | 172 => 138 | 244 => 159 | 245 => 160 | 247 => 176 | 279 => 177 | 280 => 178 | 281 => 179 | 282 => 180 | 287 => 189 | 316 => 190 | 171 => 59 | 205 => 191 | 321 => 196 | 322 => 197 | 243 => 99 | 246 => 142 | 283 => 162 | 284 => 163 | 285 => 164 | 286 => 165 | 129 => 182 | 317 => 181 | 318 => 183 | 319 => 184 | 320 => 185 | 337 => 192 | 338 => 193 | n => n, fun | 9 => 9 | 3 => 3 | 75 => 122 | 76 => 124 | 4 => 4 | 5 => 5 | 167 => 214 | 37 => 118 | 0 => 0 | 85 => 215 | 2 => 2 | 168 => 217 | 53 => 198 | 175 => 232 | 46 => 194 | 210 => 235 | 127 => 154 | 145 => 252 | 143 => 250 | 21 => 21 | 171 => 197 | 173 => 201 | 212 => 221 | 51 => 222 | 20 => 20 | 213 => 223 | 232 => 253 | 233 => 254 | 80 => 75 | n => n, fun | 15 => 4 | 16 => 5 | 17 => 2 | 18 => 6 | 19 => 7 | n => n⟩
theorem laysAtoi : Go.Proofs.LaysC.n172 Tryz.prog laysAtoi_ren where
  mixed := by kernel_rfl
  f129 := Tryz.func182.trans (congrArg some (by kernel_rfl))
  f171 := Tryz.func59.trans (congrArg some (by kernel_rfl))
  f172 := Tryz.func138.trans (congrArg some (by kernel_rfl))
  f205 := Tryz.func191.trans (congrArg some (by kernel_rfl))
  f243 := Tryz.func99.trans (congrArg some (by kernel_rfl))
  f244 := Tryz.func159.trans (congrArg some (by kernel_rfl))
  f245 := Tryz.func160.trans (congrArg some (by kernel_rfl))
  f246 := Tryz.func142.trans (congrArg some (by kernel_rfl))
  f247 := Tryz.func176.trans (congrArg some (by kernel_rfl))
  f279 := Tryz.func177.trans (congrArg some (by kernel_rfl))
  f280 := Tryz.func178.trans (congrArg some (by kernel_rfl))
  f281 := Tryz.func179.trans (congrArg some (by kernel_rfl))
  f282 := Tryz.func180.trans (congrArg some (by kernel_rfl))
  f283 := Tryz.func162.trans (congrArg some (by kernel_rfl))
  f284 := Tryz.func163.trans (congrArg some (by kernel_rfl))
  f285 := Tryz.func164.trans (congrArg some (by kernel_rfl))
  f286 := Tryz.func165.trans (congrArg some (by kernel_rfl))
  f287 := Tryz.func189.trans (congrArg some (by kernel_rfl))
  f316 := Tryz.func190.trans (congrArg some (by kernel_rfl))
  f317 := Tryz.func181.trans (congrArg some (by kernel_rfl))
  f318 := Tryz.func183.trans (congrArg some (by kernel_rfl))
  f319 := Tryz.func184.trans (congrArg some (by kernel_rfl))
  f320 := Tryz.func185.trans (congrArg some (by kernel_rfl))
  f321 := Tryz.func196.trans (congrArg some (by kernel_rfl))
  f322 := Tryz.func197.trans (congrArg some (by kernel_rfl))
  f337 := Tryz.func192.trans (congrArg some (by kernel_rfl))
  f338 := Tryz.func193.trans (congrArg some (by kernel_rfl))
  t0 := Tryz.underlying0
  a0 := Tryz.isAgg0
  z0 := Tryz.sizeOf0
  v0 := Tryz.zeroValue0
  t2 := Tryz.underlying2
  a2 := Tryz.isAgg2
  z2 := Tryz.sizeOf2
  v2 := Tryz.zeroValue2
  t3 := Tryz.underlying3
  a3 := Tryz.isAgg3
  z3 := Tryz.sizeOf3
  v3 := Tryz.zeroValue3
  t4 := Tryz.underlying4
  a4 := Tryz.isAgg4
  z4 := Tryz.sizeOf4
  v4 := Tryz.zeroValue4
  t5 := Tryz.underlying5
  a5 := Tryz.isAgg5
  z5 := Tryz.sizeOf5
  v5 := Tryz.zeroValue5
  t9 := Tryz.underlying9
  a9 := Tryz.isAgg9
  z9 := Tryz.sizeOf9
  v9 := Tryz.zeroValue9
  t20 := Tryz.underlying20
  a20 := Tryz.isAgg20
  z20 := Tryz.sizeOf20
  v20 := Tryz.zeroValue20
  t21 := Tryz.underlying21
  a21 := Tryz.isAgg21
  z21 := Tryz.sizeOf21
  v21 := Tryz.zeroValue21
  t37 := Tryz.underlying118
  a37 := Tryz.isAgg118
  z37 := Tryz.sizeOf118
  v37 := Tryz.zeroValue118
  t46 := Tryz.underlying194
  a46 := Tryz.isAgg194
  z46 := Tryz.sizeOf194
  v46 := Tryz.zeroValue194
  t51 := Tryz.underlying222
  a51 := Tryz.isAgg222
  z51 := Tryz.sizeOf222
  v51 := Tryz.zeroValue222
  t53 := Tryz.underlying198
  a53 := Tryz.isAgg198
  z53 := Tryz.sizeOf198
  v53 := Tryz.zeroValue198
  t75 := Tryz.underlying122
  a75 := Tryz.isAgg122
  z75 := Tryz.sizeOf122
  v75 := Tryz.zeroValue122
  t76 := Tryz.underlying124
  a76 := Tryz.isAgg124
  z76 := Tryz.sizeOf124
  v76 := Tryz.zeroValue124
  t85 := Tryz.underlying215
  a85 := Tryz.isAgg215
  z85 := Tryz.sizeOf215
  v85 := Tryz.zeroValue215
  t127 := Tryz.underlying154
  a127 := Tryz.isAgg154
  z127 := Tryz.sizeOf154
  v127 := Tryz.zeroValue154
  t143 := Tryz.underlying250
  a143 := Tryz.isAgg250
  z143 := Tryz.sizeOf250
  v143 := Tryz.zeroValue250
  t145 := Tryz.underlying252
  a145 := Tryz.isAgg252
  z145 := Tryz.sizeOf252
  v145 := Tryz.zeroValue252
  t167 := Tryz.underlying214
  a167 := Tryz.isAgg214
  z167 := Tryz.sizeOf214
  v167 := Tryz.zeroValue214
  t168 := Tryz.underlying217
  a168 := Tryz.isAgg217
  z168 := Tryz.sizeOf217
  v168 := Tryz.zeroValue217
  t171 := Tryz.underlying197
  a171 := Tryz.isAgg197
  z171 := Tryz.sizeOf197
  v171 := Tryz.zeroValue197
  t173 := Tryz.underlying201
  a173 := Tryz.isAgg201
  z173 := Tryz.sizeOf201
  v173 := Tryz.zeroValue201
  t175 := Tryz.underlying232
  a175 := Tryz.isAgg232
  z175 := Tryz.sizeOf232
  v175 := Tryz.zeroValue232
  t210 := Tryz.underlying235
  a210 := Tryz.isAgg235
  z210 := Tryz.sizeOf235
  v210 := Tryz.zeroValue235
  t212 := Tryz.underlying221
  a212 := Tryz.isAgg221
  z212 := Tryz.sizeOf221
  v212 := Tryz.zeroValue221
  t213 := Tryz.underlying223
  a213 := Tryz.isAgg223
  z213 := Tryz.sizeOf223
  t232 := Tryz.underlying253
  a232 := Tryz.isAgg253
  z232 := Tryz.sizeOf253
  v232 := Tryz.zeroValue253
  t233 := Tryz.underlying254
  a233 := Tryz.isAgg254
  z233 := Tryz.sizeOf254
  v233 := Tryz.zeroValue254
  g15 := by kernel_rfl
  g16 := by kernel_rfl
  g17 := by kernel_rfl
  g18 := by kernel_rfl
  g19 := by kernel_rfl
  t80 := Tryz.underlying75
  a80 := Tryz.isAgg75
  z80 := Tryz.sizeOf75
  v80 := Tryz.zeroValue75
  i0 := by kernel_rfl
  i2 := by kernel_rfl
  i3 := by kernel_rfl
  i4 := by kernel_rfl
  i5 := by kernel_rfl
  i9 := by kernel_rfl
  i20 := by kernel_rfl
  i21 := by kernel_rfl
  i37 := by kernel_rfl
  i46 := by kernel_rfl
  i51 := by kernel_rfl
  i53 := by kernel_rfl
  i75 := by kernel_rfl
  i76 := by kernel_rfl
  i80 := by kernel_rfl
  i85 := by kernel_rfl
  i127 := by kernel_rfl
  i143 := by kernel_rfl
  i145 := by kernel_rfl
  i167 := by kernel_rfl
  i168 := by kernel_rfl
  i171 := by kernel_rfl
  i173 := by kernel_rfl
  i175 := by kernel_rfl
  i210 := by kernel_rfl
  i212 := by kernel_rfl
  i232 := by kernel_rfl
  i233 := by kernel_rfl
  m15 := by kernel_rfl
  m16 := by kernel_rfl
  m17 := by kernel_rfl
  m18 := by kernel_rfl
  m19 := by kernel_rfl
  c0 := by kernel_rfl
  c2 := by kernel_rfl
  c3 := by kernel_rfl
  c4 := by kernel_rfl
  c5 := by kernel_rfl
  c9 := by kernel_rfl
  c20 := by kernel_rfl
  c21 := by kernel_rfl
  c37 := by kernel_rfl
  c46 := by kernel_rfl
  c51 := by kernel_rfl
  c53 := by kernel_rfl
  c75 := by kernel_rfl
  c76 := by kernel_rfl
  c80 := by kernel_rfl
  c85 := by kernel_rfl
  c127 := by kernel_rfl
  c143 := by kernel_rfl
  c145 := by kernel_rfl
  c167 := by kernel_rfl
  c168 := by kernel_rfl
  c171 := by kernel_rfl
  c173 := by kernel_rfl
  c175 := by kernel_rfl
  c210 := by kernel_rfl
  c212 := by kernel_rfl
  c213 := by kernel_rfl
  c232 := by kernel_rfl
  c233 := by kernel_rfl
end Hw.Pa
namespace Hw.Pa
open Go Go.Proofs Go.Shelf Hw.M

theorem callOKL {f : FuncId} {fn : Func} (h : Tryz.prog.funcs[f]? = some fn) (h1 : (fn.name == "runtime.NumGoroutine") = false) (h2 : fn.body.isNone = false) : CallOK Tryz.prog f := ⟨fn, h, h1, h2⟩
theorem hasPrefixL_ok (s p : Str) : FnOK Tryz.prog 96 [Sr s, Sr p] [] (Bo ((lst p).isPrefixOf (lst s))) [] :=
  @fn_pureL _ _ [.string s, .string p] _ (callOKL Tryz.func96 (by kernel_rfl) (by kernel_rfl)) (fun w _ => Any.strings_HasPrefix laysPre s p w) rfl
theorem indexByte_ok (s : Str) (c : UInt8) : FnOK Tryz.prog 97 [Sr s, uc c.toNat] [] (I (Lib.indexByte (lst s) c)) [] :=
  @fn_pureL _ _ [.string s, .int .u8 c.toNat] _ (callOKL Tryz.func97 (by kernel_rfl) (by kernel_rfl)) (fun w _ => by
    have := Any.strings_IndexByte laysIdx s c.toNat w
    have e : ((c.toNat : Int).toNat).toUInt8 = c := by simp
    rw [e] at this
    exact this) rfl
theorem atoi_ok {s : Str} {v : Int} (h : Lib.atoiAll (lst s) = .ok v) (hs : s.size ≤ 1000000) : FnOK Tryz.prog 138 [Sr s] [] (.tup [I v, .one (.p (.k .nilIface))]) [] := by
  refine ⟨callOKL Tryz.func138 (by kernel_rfl) (by kernel_rfl), fun M ρ w xs hx _ hI hG => ?_⟩
  obtain rfl := reps_k (av := [.string s]) hx
  refine (Any.strconv_Atoi_ok laysAtoi s (by omega) v h w).mono fun e w' ⟨he, hw⟩ => ?_
  have hb : RowKit.Below w.heap.size w w' := by
    rcases hw with rfl | ⟨t, rfl⟩
    · exact RowKit.Below.refl _ _
    · exact Lib.bytesWorld_below w _ t
  exact ⟨_, M, ρ, he, ret_below hI hb (by simp only [RepS]; exact ⟨[.int .i64 v, .nilIface], rfl, by simp only [RepSs, RepS, RepV, RepPV]; exact ⟨⟨trivial, rfl⟩, ⟨trivial, rfl⟩, trivial⟩⟩)⟩
theorem atoi_range {s : Str} (h : Lib.atoiAll (lst s) = .range) (hs : s.size ≤ 1000000) (hn : Lib.atoiSat (lst s) = 9223372036854775807) : FnOK Tryz.prog 138 [Sr s] [] (.tup [I 9223372036854775807, .one (.ar 0)]) [(0, .ifc)] := by
  refine ⟨callOKL Tryz.func138 (by kernel_rfl) (by kernel_rfl), fun M ρ w xs hx hT hI hG => ?_⟩
  obtain rfl := reps_k (av := [.string s]) hx
  obtain ⟨te, pe, hev⟩ := hG.er 5 (by simp [G3])
  have hv := hI _ _ _ hev
  refine (Any.strconv_Atoi_range laysAtoi s (by omega) h _ w hv (.inr ⟨te, pe, rfl⟩)).mono fun e w' ⟨N, he, _, _, hb⟩ => ?_
  have hn' : Lib.atoiSat s.data.toList = 9223372036854775807 := hn
  rw [hn'] at he
  have only : ∀ i r, tg (tb [(0, Res.ifc)]) i = some r → i = 0 ∧ r = .ifc := fun i r hi => by
    simp only [tb, tg_cons] at hi
    split at hi
    · rename_i e; exact ⟨e.symm, (Option.some.inj hi).symm⟩
    · cases hi
  have nob : ∀ {i r b}, tg (tb [(0, Res.ifc)]) i = some r → Bk (upd ρ 0 (.iface (laysAtoi_ren.t 168) (.pointer (some ⟨N, 0, none⟩))) i) b → False := fun {i r b} hi hb => by
    obtain ⟨rfl, _⟩ := only i r hi
    rw [upd_same] at hb
    simp [Bk, blk] at hb
  refine ⟨_, M, upd ρ 0 (.iface (laysAtoi_ren.t 168) (.pointer (some ⟨N, 0, none⟩))), he, ?_⟩
  refine ⟨?_, ⟨fun i r hi => ?_, fun i j ri rj b hi _ _ hb _ => nob hi hb, fun i r b hi hb => (nob hi hb).elim⟩, fun b o u hu => by rw [cell_of_heap (hb.block b (cell_lt (hI b o u hu)))]; exact hI b o u hu, MLe.refl M, fun b o u hu => .inl hu,
    fun b ⟨i, r, hi, hb⟩ => (nob hi hb).elim, fun b h _ => hb.block b h, hb.size, hb.os, hb.tape, hb.output, fun id hid => by simp [RL.ids] at hid⟩
  · simp only [RepS]
    exact ⟨[.int .i64 9223372036854775807, .iface (laysAtoi_ren.t 168) (.pointer (some ⟨N, 0, none⟩))], rfl, by simp only [RepSs, RepS, RepV, RepPV]; exact ⟨⟨trivial, rfl⟩, ⟨by rw [upd_same], rfl⟩, trivial⟩⟩
  · obtain ⟨rfl, rfl⟩ := only i r hi
    exact ⟨_, _, upd_same _ _ _⟩
theorem lst_at {s : Str} {i : Nat} {b : UInt8} (h : (lst s)[i]? = some b) : s[((i : Nat) : Int).toNat]? = some b := by
  have hlt : i < s.data.size := by
    have := (List.getElem?_eq_some_iff.1 h).1
    simpa [lst] using this
  have : s.data[i] = b := by unfold lst at h; rw [Array.getElem?_toList, Array.getElem?_eq_getElem hlt] at h; exact Option.some.inj h
  have hlt' : i < s.size := hlt
  simp only [Int.toNat_natCast]
  rw [getElem?_pos s i hlt']
  exact congrArg some this
theorem class_dig (c : Int) : decide (classS c = 3) = isDigit c := by
  unfold classS isDigit
  by_cases h1 : c = 32
  · subst h1; rfl
  by_cases h2 : c = 9
  · subst h2; rfl
  by_cases h3 : c = 13
  · subst h3; rfl
  by_cases h4 : c = 10
  · subst h4; rfl
  simp only [h1, h2, h3, h4, if_false]
  by_cases h5 : (decide (97 ≤ c) && decide (c ≤ 122)) = true
  · rw [if_pos h5]
    simp only [Bool.and_eq_true, decide_eq_true_eq] at h5
    rw [decide_eq_false (show ¬ c ≤ 57 by omega)]; simp
  · rw [if_neg h5]
    by_cases h6 : (decide (65 ≤ c) && decide (c ≤ 90)) = true
    · rw [if_pos h6]
      simp only [Bool.and_eq_true, decide_eq_true_eq] at h6
      rw [decide_eq_false (show ¬ c ≤ 57 by omega)]; simp
    · rw [if_neg h6]
      by_cases h7 : (decide (48 ≤ c) && decide (c ≤ 57)) = true
      · rw [if_pos h7, h7]; rfl
      · rw [if_neg h7]
        have h7' : (decide (48 ≤ c) && decide (c ≤ 57)) = false := by simpa using h7
        rw [h7']
        by_cases h8 : c = 95
        · rw [if_pos h8]; rfl
        · rw [if_neg h8]; rfl
def numNo (w : By) : Bool := decide (w = []) || (decide (1 < w.length) && decide (w.head? = some 48))
theorem numOk_eq (w : By) : numOk w = (!numNo w && w.all dB && decide (numV w 0 ≤ 1099511627776)) := by
  unfold numOk numNo; cases decide (w = []) <;> cases (decide (1 < w.length) && decide (w.head? = some 48)) <;> simp
def intF (w : By) : Int := if (!numNo w && w.all dB) = true then intN w else 0
theorem sat_digits {w : By} (hne : w ≠ []) (hd : w.all dB = true) : Lib.atoiSat w = 9223372036854775807 := by
  cases w with
  | nil => exact absurd rfl hne
  | cons c r =>
    have hc := dB_iff.1 (by simp only [List.all_cons, Bool.and_eq_true] at hd; exact hd.1)
    exact Lib.atoiSat_other c r (by omega)
theorem integer_ok (s : Str) (hs : s.size ≤ 1000000) : FnOK Tryz.prog 95 [Sr s] [] (.tup [I (intF (lst s)), .bq (numOk (lst s))]) [] := by
  have hl := lst_len s
  have no : numNo (lst s) = true → intF (lst s) = 0 ∧ numOk (lst s) = false := fun h => by
    rw [numOk_eq]; unfold intF; rw [h]; simp
  by_cases h0 : s = ⟨#[]⟩
  · obtain ⟨e1, e2⟩ := no (by rw [h0]; rfl)
    rw [e1, e2]
    refine fn_ok T Tryz.func95 (by kernel_rfl) rfl rfl rfl rfl fun C hC => ?_
    repeat' first | refine g_go T hC true 400 rfl rfl ?_ | refine g_cond rfl (fun h => ?_) (fun h => ?_) | refine g_splitG rfl rfl rfl (fun h => ?_) (fun h => ?_) | refine g_splitP rfl rfl (fun h => ?_) (fun h => ?_)
    all_goals first
      | exact g_fin ⟨.inl rfl, id, _, rfl, LeS.tup (.cons (.refl _) (.cons (.qb rfl) .nil)), trivial, rfl, rfl⟩
      | (exfalso; simp_all; done)
  have hne : lst s ≠ [] := fun e => h0 (by rw [← str_lst s, e]; rfl)
  have hpos : 0 < (lst s).length := List.length_pos_iff.2 hne
  obtain ⟨b, hb⟩ := exists_at hpos
  have hhd : (lst s).head? = some b := by rw [List.head?_eq_getElem?]; exact hb
  by_cases h1 : (decide (1 < (lst s).length) && decide ((lst s).head? = some 48)) = true
  · obtain ⟨e1, e2⟩ := no (by unfold numNo; rw [h1]; simp)
    rw [e1, e2]
    simp only [Bool.and_eq_true, decide_eq_true_eq, hhd, Option.some.injEq] at h1
    obtain ⟨h1, rfl⟩ := h1
    refine fn_ok T Tryz.func95 (by kernel_rfl) rfl rfl rfl rfl fun C hC => ?_
    repeat' first | refine g_go T hC true 400 rfl rfl ?_ | refine g_cond rfl (fun h => ?_) (fun h => ?_) | refine g_splitG rfl rfl rfl (fun h => ?_) (fun h => ?_) | refine g_splitP rfl rfl (fun h => ?_) (fun h => ?_) | refine g_idxS T hC rfl rfl rfl (Int.le_refl _) (lst_at hb) rfl rfl ?_
    all_goals first
      | exact g_fin ⟨.inl rfl, id, _, rfl, LeS.tup (.cons (.refl _) (.cons (.qb rfl) .nil)), trivial, rfl, rfl⟩
      | (exfalso; simp_all; done)
      | (exfalso; simp only [decide_eq_true_eq, decide_eq_false_iff_not] at *; omega)
      | (exfalso; revert h; decide)
  have hnn : numNo (lst s) = false := by
    unfold numNo
    rw [decide_eq_false hne]; simpa using h1
  have hif : intF (lst s) = if (lst s).all dB = true then intN (lst s) else 0 := by unfold intF; rw [hnn]; simp
  have hok : numOk (lst s) = ((lst s).all dB && decide (numV (lst s) 0 ≤ 1099511627776)) := by rw [numOk_eq, hnn]; rfl
  have h48 : 1 < (lst s).length → b ≠ 48 := fun h e => h1 (by rw [hhd, e]; simp [h])
  rw [hif, hok]
  clear no h1 hhd
  refine fn_ok T Tryz.func95 (by kernel_rfl) rfl rfl rfl rfl fun C hC => ?_
  repeat' first | refine g_go T hC true 400 rfl rfl ?_ | refine g_cond rfl (fun h => ?_) (fun h => ?_) | refine g_splitG rfl rfl rfl (fun h => ?_) (fun h => ?_) | refine g_splitP rfl rfl (fun h => ?_) (fun h => ?_) | refine g_idxS T hC rfl rfl rfl (Int.le_refl _) (lst_at hb) rfl rfl ?_
  all_goals first
    | (exfalso; simp_all; done)
    | (exfalso; simp only [decide_eq_true_eq, decide_eq_false_iff_not] at *; refine h48 (by omega) ?_; apply UInt8.toNat_inj.1; have h48' : (48 : UInt8).toNat = 48 := rfl; omega)
    | skip
  all_goals
    refine g_loop (fun i : Nat => i ≤ s.size ∧ ((lst s).take i).all dB = true) (fun i => ([(0, Sr s), (20, I s.size), (21, I i)], [])) (fun i => s.size - i) hC
      0 ⟨Nat.zero_le _, by simp⟩ id ⟨rfl, ⟨rfl, rfl, rfl, trivial⟩, trivial, rfl, fun _ _ => rfl⟩ ?_
    rintro i ⟨hi, hn⟩
    refine g_run' T hC true 200 rfl ?_
    refine g_cond rfl (fun hh => ?_) (fun hh => ?_)
    · have hlt : i < (lst s).length := by have := of_decide_eq_true hh; omega
      clear hh
      obtain ⟨x, hx⟩ := exists_at hlt
      repeat' first | refine g_go T hC true 400 rfl rfl ?_ | refine g_cond rfl (fun h => ?_) (fun h => ?_) | refine g_splitG rfl rfl rfl (fun h => ?_) (fun h => ?_) | refine g_splitP rfl rfl (fun h => ?_) (fun h => ?_) | refine g_idxS T hC rfl rfl rfl (Int.natCast_nonneg _) (lst_at hx) rfl rfl ?_ | refine g_call hC (class_ok _) rfl rfl (LeSs.refl _) rfl rfl rfl ?_ | refine g_outR ?_
      all_goals first
        | (have hd : dB x = false := by unfold dB; rw [← class_dig]; simpa using h
           rw [all_no hx hd]
           exact g_fin ⟨.inl rfl, id, _, rfl, LeS.tup (.cons (.refl _) (.cons (.qb rfl) .nil)), trivial, rfl, rfl⟩)
        | (have hd : dB x = true := by unfold dB; rw [← class_dig]; simpa using h
           rw [wrapS (by omega)]
           refine g_round (i + 1) ⟨by omega, ?_⟩ id (by omega) ⟨rfl, ⟨rfl, rfl, rfl, trivial⟩, trivial, rfl, fun _ _ => rfl⟩
           rw [all_take hx, hn, hd]; rfl)
    · have hge : ¬ i < (lst s).length := by have := of_decide_eq_false hh; omega
      have hall := all_end (p := dB) (by omega) hn
      clear hh
      rw [hall, Bool.true_and]
      have ha := atoi_digits hne hall
      have hsat := sat_digits hne hall
      by_cases hv : numV (lst s) 0 ≤ 9223372036854775807
      · rw [if_pos hv] at ha
        have hA := atoi_ok ha hs
        have hi' : intN (lst s) = numV (lst s) 0 := by unfold intN; rw [if_pos hv]
        rw [hi', if_pos rfl]
        repeat' first | refine g_go T hC true 400 rfl rfl ?_ | refine g_cond rfl (fun h => ?_) (fun h => ?_) | refine g_splitG rfl rfl rfl (fun h => ?_) (fun h => ?_) | refine g_splitP rfl rfl (fun h => ?_) (fun h => ?_) | refine g_outE ?_ | refine g_call hC (hA) rfl rfl (LeSs.refl _) rfl rfl rfl ?_ | refine g_ifnE hC rfl (by kernel_rfl) rfl rfl ?_
        all_goals first
          | exact g_fin ⟨.inl rfl, id, _, rfl, LeS.tup (.cons (.refl _) (.cons (.qq rfl) .nil)), trivial, rfl, rfl⟩
          | (exfalso; simp_all; done)
      · rw [if_neg hv] at ha
        have hA := atoi_range ha hs hsat
        have hi' : intN (lst s) = 9223372036854775807 := by unfold intN; rw [if_neg hv]
        rw [hi', decide_eq_false (show ¬ numV (lst s) 0 ≤ 1099511627776 by omega), if_pos rfl]
        repeat' first | refine g_go T hC true 400 rfl rfl ?_ | refine g_cond rfl (fun h => ?_) (fun h => ?_) | refine g_splitG rfl rfl rfl (fun h => ?_) (fun h => ?_) | refine g_splitP rfl rfl (fun h => ?_) (fun h => ?_) | refine g_outE ?_ | (refine g_callR hC hA (nm [140]) rfl rfl (LeSs.refl _) rfl rfl rfl rfl rfl rfl rfl rfl ?_) | refine g_ifcE hC rfl rfl (by kernel_rfl) rfl rfl ?_
        all_goals first
          | exact g_fin ⟨.inl rfl, id, _, rfl, LeS.tup (.cons (.refl _) (.cons (.qb rfl) .nil)), trivial, rfl, rfl⟩
          | (exfalso; simp_all; done)

theorem lst_extract (s : Str) (i j : Nat) : lst (s.extract i j) = ((lst s).drop i).take (j - i) := by
  simp only [lst, ByteArray.data_extract, Array.toList_extract, List.extract_eq_take_drop]
theorem extract_str (s : Str) (i j : Nat) : s.extract i j = strOf (((lst s).drop i).take (j - i)) := by rw [← lst_extract, str_lst]

theorem symL_char {c : UInt8} {r : By} (h : ∀ y ∈ [(⟨#[61, 61]⟩ : ByteArray), (⟨#[33, 61]⟩ : ByteArray), (⟨#[60, 61]⟩ : ByteArray), (⟨#[45, 62]⟩ : ByteArray)], (lst y).isPrefixOf (c :: r) = false) : symL (c :: r) = if 0 ≤ Lib.indexByte (lst (⟨#[40, 41, 123, 125, 91, 93, 44, 59, 58, 46, 61, 60, 43, 45, 42, 47, 37]⟩ : Str)) c then some (strOf [c]) else none := by
  have key : ∀ i : Fin 256, (([(⟨#[40]⟩ : ByteArray), (⟨#[41]⟩ : ByteArray), ⟨#[123]⟩, ⟨#[125]⟩, (⟨#[91]⟩ : ByteArray), (⟨#[93]⟩ : ByteArray), (⟨#[44]⟩ : ByteArray), (⟨#[59]⟩ : ByteArray), (⟨#[58]⟩ : ByteArray), (⟨#[46]⟩ : ByteArray), (⟨#[61]⟩ : ByteArray), (⟨#[60]⟩ : ByteArray), (⟨#[43]⟩ : ByteArray), (⟨#[45]⟩ : ByteArray), (⟨#[42]⟩ : ByteArray), (⟨#[47]⟩ : ByteArray), (⟨#[37]⟩ : ByteArray)] : List Str).find? fun y => (lst y).isPrefixOf [UInt8.ofNat i.val]) =
      if 0 ≤ Lib.indexByte (lst (⟨#[40, 41, 123, 125, 91, 93, 44, 59, 58, 46, 61, 60, 43, 45, 42, 47, 37]⟩ : Str)) (UInt8.ofNat i.val) then some (strOf [UInt8.ofNat i.val]) else none := by decide +kernel
  have hci : UInt8.ofNat c.toNat = c := by simp
  have hk := key ⟨c.toNat, c.toNat_lt⟩
  simp only [hci] at hk
  rw [← hk]
  have e : syms = [(⟨#[61, 61]⟩ : ByteArray), (⟨#[33, 61]⟩ : ByteArray), (⟨#[60, 61]⟩ : ByteArray), (⟨#[45, 62]⟩ : ByteArray)] ++ [(⟨#[40]⟩ : ByteArray), (⟨#[41]⟩ : ByteArray), ⟨#[123]⟩, ⟨#[125]⟩, (⟨#[91]⟩ : ByteArray), (⟨#[93]⟩ : ByteArray), (⟨#[44]⟩ : ByteArray), (⟨#[59]⟩ : ByteArray), (⟨#[58]⟩ : ByteArray), (⟨#[46]⟩ : ByteArray), (⟨#[61]⟩ : ByteArray), (⟨#[60]⟩ : ByteArray), (⟨#[43]⟩ : ByteArray), (⟨#[45]⟩ : ByteArray), (⟨#[42]⟩ : ByteArray), (⟨#[47]⟩ : ByteArray), (⟨#[37]⟩ : ByteArray)] := rfl
  unfold symL
  rw [e, List.find?_append]
  have hn : ([(⟨#[61, 61]⟩ : ByteArray), (⟨#[33, 61]⟩ : ByteArray), (⟨#[60, 61]⟩ : ByteArray), (⟨#[45, 62]⟩ : ByteArray)] : List Str).find? (fun y => (lst y).isPrefixOf (c :: r)) = none := by
    rw [List.find?_eq_none]
    intro y hy
    rw [h y hy]; simp
  rw [hn, Option.none_or]
  have one : ∀ y ∈ ([(⟨#[40]⟩ : ByteArray), (⟨#[41]⟩ : ByteArray), ⟨#[123]⟩, ⟨#[125]⟩, (⟨#[91]⟩ : ByteArray), (⟨#[93]⟩ : ByteArray), (⟨#[44]⟩ : ByteArray), (⟨#[59]⟩ : ByteArray), (⟨#[58]⟩ : ByteArray), (⟨#[46]⟩ : ByteArray), (⟨#[61]⟩ : ByteArray), (⟨#[60]⟩ : ByteArray), (⟨#[43]⟩ : ByteArray), (⟨#[45]⟩ : ByteArray), (⟨#[42]⟩ : ByteArray), (⟨#[47]⟩ : ByteArray), (⟨#[37]⟩ : ByteArray)] : List Str), (lst y).length = 1 := by decide +kernel
  have : ∀ l : List Str, (∀ y ∈ l, (lst y).length = 1) → l.find? (fun y => (lst y).isPrefixOf (c :: r)) = l.find? (fun y => (lst y).isPrefixOf [c]) := fun l => by
    induction l with
    | nil => intro _; rfl
    | cons y l ih =>
      intro hl
      have hy := hl y (by simp)
      have e2 : (lst y).isPrefixOf (c :: r) = (lst y).isPrefixOf [c] := by
        match lst y, hy with
        | [u], _ => rfl
        | [], hy => simp at hy
        | _ :: _ :: _, hy => simp at hy
      rw [List.find?_cons, List.find?_cons, e2, ih fun z hz => hl z (by simp [hz])]
  exact this _ one
theorem symL_nil : symL [] = none := by decide +kernel
theorem symbol_ok (s : Str) : FnOK Tryz.prog 55 [Sr s] [] (Sr ((symL (lst s)).getD (⟨#[]⟩ : ByteArray))) [] := by
  have hl := lst_len s
  have hP := fun y : Str => hasPrefixL_ok s y
  refine fn_ok T Tryz.func55 (by kernel_rfl) rfl rfl rfl rfl fun C hC => ?_
  repeat' first | refine g_go T hC true 400 rfl rfl ?_ | refine g_cond rfl (fun h => ?_) (fun h => ?_) | refine g_splitG rfl rfl rfl (fun h => ?_) (fun h => ?_) | refine g_splitP rfl rfl (fun h => ?_) (fun h => ?_) | (refine g_buildA (vs := [.p (ks (⟨#[61, 61]⟩ : ByteArray)), .p (ks (⟨#[33, 61]⟩ : ByteArray)), .p (ks (⟨#[60, 61]⟩ : ByteArray)), .p (ks (⟨#[45, 62]⟩ : ByteArray))]) (len := 4) (e := 1) (el := 9) (zs := List.replicate 4 (.p (ks (⟨#[]⟩ : ByteArray)))) hC rfl (by kernel_rfl) (by kernel_rfl) (by kernel_rfl) rfl (by kernel_rfl) rfl rfl ?_)
  refine g_loop (fun i : Nat => i ≤ 4 ∧ ∀ y ∈ ([(⟨#[61, 61]⟩ : ByteArray), (⟨#[33, 61]⟩ : ByteArray), (⟨#[60, 61]⟩ : ByteArray), (⟨#[45, 62]⟩ : ByteArray)] : List Str).take i, (lst y).isPrefixOf (lst s) = false) (fun i => ([(0, Sr s), (5, .agg [.p (ks (⟨#[61, 61]⟩ : ByteArray)), .p (ks (⟨#[33, 61]⟩ : ByteArray)), .p (ks (⟨#[60, 61]⟩ : ByteArray)), .p (ks (⟨#[45, 62]⟩ : ByteArray))]), (6, I i)], [])) (fun i => 4 - i) hC
    0 ⟨Nat.zero_le _, by simp⟩ id ⟨rfl, ⟨rfl, rfl, rfl, trivial⟩, trivial, rfl, fun _ _ => rfl⟩ ?_
  rintro i ⟨hi, hn⟩
  refine g_run' T hC true 200 rfl ?_
  refine g_cond rfl (fun hh => ?_) (fun hh => ?_)
  · have hlt : i < 4 := by have := of_decide_eq_true hh; omega
    clear hh
    obtain ⟨y, hy⟩ := exists_at (l := ([(⟨#[61, 61]⟩ : ByteArray), (⟨#[33, 61]⟩ : ByteArray), (⟨#[60, 61]⟩ : ByteArray), (⟨#[45, 62]⟩ : ByteArray)] : List Str)) (i := i) (by simpa using hlt)
    have hyv : ([.p (ks (⟨#[61, 61]⟩ : ByteArray)), .p (ks (⟨#[33, 61]⟩ : ByteArray)), .p (ks (⟨#[60, 61]⟩ : ByteArray)), .p (ks (⟨#[45, 62]⟩ : ByteArray))] : List V)[((i : Nat) : Int).toNat]? = some (.p (ks y)) := by
      have : ([.p (ks (⟨#[61, 61]⟩ : ByteArray)), .p (ks (⟨#[33, 61]⟩ : ByteArray)), .p (ks (⟨#[60, 61]⟩ : ByteArray)), .p (ks (⟨#[45, 62]⟩ : ByteArray))] : List V) = ([(⟨#[61, 61]⟩ : ByteArray), (⟨#[33, 61]⟩ : ByteArray), (⟨#[60, 61]⟩ : ByteArray), (⟨#[45, 62]⟩ : ByteArray)] : List Str).map fun y => V.p (ks y) := rfl
      rw [this, List.getElem?_map, Int.toNat_natCast, hy]; rfl
    have hPy := hP y
    cases hp : (lst y).isPrefixOf (lst s) with
    | true =>
      rw [hp] at hPy
      have hsy : symL (lst s) = some y := by
        unfold symL
        have e : syms = ([(⟨#[61, 61]⟩ : ByteArray), (⟨#[33, 61]⟩ : ByteArray), (⟨#[60, 61]⟩ : ByteArray), (⟨#[45, 62]⟩ : ByteArray)] : List Str) ++ [(⟨#[40]⟩ : ByteArray), (⟨#[41]⟩ : ByteArray), ⟨#[123]⟩, ⟨#[125]⟩, (⟨#[91]⟩ : ByteArray), (⟨#[93]⟩ : ByteArray), (⟨#[44]⟩ : ByteArray), (⟨#[59]⟩ : ByteArray), (⟨#[58]⟩ : ByteArray), (⟨#[46]⟩ : ByteArray), (⟨#[61]⟩ : ByteArray), (⟨#[60]⟩ : ByteArray), (⟨#[43]⟩ : ByteArray), (⟨#[45]⟩ : ByteArray), (⟨#[42]⟩ : ByteArray), (⟨#[47]⟩ : ByteArray), (⟨#[37]⟩ : ByteArray)] := rfl
        rw [e, List.find?_append]
        have : ([(⟨#[61, 61]⟩ : ByteArray), (⟨#[33, 61]⟩ : ByteArray), (⟨#[60, 61]⟩ : ByteArray), (⟨#[45, 62]⟩ : ByteArray)] : List Str).find? (fun y => (lst y).isPrefixOf (lst s)) = some y := by
          rw [List.find?_eq_some_iff_getElem]
          refine ⟨hp, i, by simpa using hlt, ?_, fun j hj => ?_⟩
          · have := (List.getElem?_eq_some_iff.1 hy).2; exact this
          · have := hn (([(⟨#[61, 61]⟩ : ByteArray), (⟨#[33, 61]⟩ : ByteArray), (⟨#[60, 61]⟩ : ByteArray), (⟨#[45, 62]⟩ : ByteArray)] : List Str)[j]'(by simp; omega)) (List.mem_take_iff_getElem.2 ⟨j, by simp; omega, rfl⟩)
            rw [this]; rfl
        rw [this]; rfl
      rw [hsy]
      repeat' first | refine g_go T hC true 400 rfl rfl ?_ | refine g_cond rfl (fun h => ?_) (fun h => ?_) | refine g_splitG rfl rfl rfl (fun h => ?_) (fun h => ?_) | refine g_splitP rfl rfl (fun h => ?_) (fun h => ?_) | (refine g_index1 (len := 4) (el := 9) hC rfl rfl (by kernel_rfl) (by kernel_rfl) (by kernel_rfl) (Int.natCast_nonneg _) (by omega) hyv rfl rfl ?_) | refine g_call hC (hPy) rfl rfl (LeSs.refl _) rfl rfl rfl ?_ | refine g_outR ?_
      exact g_fin ⟨.inl rfl, id, _, rfl, .refl _, trivial, rfl, rfl⟩
    | false =>
      rw [hp] at hPy
      repeat' first | refine g_go T hC true 400 rfl rfl ?_ | refine g_cond rfl (fun h => ?_) (fun h => ?_) | refine g_splitG rfl rfl rfl (fun h => ?_) (fun h => ?_) | refine g_splitP rfl rfl (fun h => ?_) (fun h => ?_) | (refine g_index1 (len := 4) (el := 9) hC rfl rfl (by kernel_rfl) (by kernel_rfl) (by kernel_rfl) (Int.natCast_nonneg _) (by omega) hyv rfl rfl ?_) | refine g_call hC (hPy) rfl rfl (LeSs.refl _) rfl rfl rfl ?_
      rw [wrapS (by omega)]
      refine g_round (i + 1) ⟨by omega, fun z hz => ?_⟩ id (by omega) ⟨rfl, ⟨rfl, rfl, rfl, trivial⟩, trivial, rfl, fun _ _ => rfl⟩
      rw [List.take_add_one, hy] at hz
      rcases List.mem_append.1 hz with hz | hz
      · exact hn z hz
      · simp only [Option.toList_some, List.mem_singleton] at hz; subst hz; exact hp
  · have hge : i = 4 := by have := of_decide_eq_false hh; omega
    subst hge
    clear hh
    have hn4 : ∀ y ∈ ([(⟨#[61, 61]⟩ : ByteArray), (⟨#[33, 61]⟩ : ByteArray), (⟨#[60, 61]⟩ : ByteArray), (⟨#[45, 62]⟩ : ByteArray)] : List Str), (lst y).isPrefixOf (lst s) = false := fun y hy => hn y (by simpa using hy)
    match hls : lst s with
    | [] =>
      have h0 : s = ⟨#[]⟩ := by rw [← str_lst s, hls]; rfl
      subst h0
      rw [symL_nil]
      repeat' first | refine g_go T hC true 400 rfl rfl ?_ | refine g_cond rfl (fun h => ?_) (fun h => ?_) | refine g_splitG rfl rfl rfl (fun h => ?_) (fun h => ?_) | refine g_splitP rfl rfl (fun h => ?_) (fun h => ?_) | refine g_outE ?_
      all_goals first
        | exact g_fin ⟨.inl rfl, id, _, rfl, .refl _, trivial, rfl, rfl⟩
        | (exfalso; simp_all; done)
    | c :: r =>
      rw [hls] at hn4 hl
      have hsz : 1 ≤ s.size := by simp only [List.length_cons] at hl; omega
      have hc0 : (lst s)[0]? = some c := by rw [hls]; rfl
      have hI := indexByte_ok ⟨#[40, 41, 123, 125, 91, 93, 44, 59, 58, 46, 61, 60, 43, 45, 42, 47, 37]⟩ c
      have hne : s ≠ ⟨#[]⟩ := fun e => by subst e; simp [lst] at hls
      rw [symL_char hn4]
      generalize Lib.indexByte (lst (⟨#[40, 41, 123, 125, 91, 93, 44, 59, 58, 46, 61, 60, 43, 45, 42, 47, 37]⟩ : Str)) c = q at hI
      have hx : s.extract 0 (1 : Int).toNat = strOf [c] := by
        rw [extract_str, hls]; rfl
      repeat' first | refine g_go T hC true 400 rfl rfl ?_ | refine g_cond rfl (fun h => ?_) (fun h => ?_) | refine g_splitG rfl rfl rfl (fun h => ?_) (fun h => ?_) | refine g_splitP rfl rfl (fun h => ?_) (fun h => ?_) | refine g_outE ?_ | refine g_idxS T hC rfl rfl rfl (Int.le_refl _) (lst_at hc0) rfl rfl ?_ | refine g_call hC (hI) rfl rfl (LeSs.refl _) rfl rfl rfl ?_ | (refine g_slTo hC rfl rfl (by kernel_rfl) (by decide) (by omega) rfl rfl ?_)
      all_goals first
        | (rw [if_pos (by simpa using h), hx]
           exact g_fin ⟨.inl rfl, id, _, rfl, .refl _, trivial, rfl, rfl⟩)
        | (rw [if_neg (by simpa using h)]
           exact g_fin ⟨.inl rfl, id, _, rfl, .refl _, trivial, rfl, rfl⟩)
        | (exfalso; simp_all; done)

def tokC (k : Int) (t : Str) (n ln cl : Int) : List PV := [ki k, ks t, ki n, ki ln, ki cl]
theorem lexWord_ok (s : Str) (hs : s.size ≤ 1000000) : (∀ t, clsT (lst s) = some t → FnOK Tryz.prog 54 [Sr s] [] (.tup [aggS (tokC t.1 t.2.1 t.2.2 0 0), Bo true]) []) ∧ (clsT (lst s) = none → FnOK Tryz.prog 54 [Sr s] [] (.tup [aggS (tokC 2 (⟨#[]⟩ : ByteArray) (intF (lst s)) 0 0), Bo false]) []) := by
  have hK := lexKeyword_ok s
  have hN := lexName_ok s
  have hI := integer_ok s hs
  have hif : numOk (lst s) = true → intF (lst s) = numV (lst s) 0 := fun h => by
    rw [numOk_eq] at h
    simp only [Bool.and_eq_true, decide_eq_true_eq] at h
    unfold intF intN
    rw [if_pos (by simp [h.1.1, h.1.2]), if_pos (by omega)]
  unfold clsT
  rw [str_lst]
  cases hk : isKeyword s with
  | true =>
    rw [hk] at hK
    refine ⟨fun t ht => ?_, fun h => by simp at h⟩
    rw [if_pos rfl] at ht
    obtain rfl := Option.some.inj ht
    refine fn_ok T Tryz.func54 (by kernel_rfl) rfl rfl rfl rfl fun C hC => ?_
    repeat' first | refine g_go T hC true 400 rfl rfl ?_ | refine g_cond rfl (fun h => ?_) (fun h => ?_) | refine g_call hC (hK) rfl rfl (LeSs.refl _) rfl rfl rfl ?_
    all_goals first
      | exact g_fin ⟨.inl rfl, id, _, rfl, .refl _, trivial, rfl, rfl⟩
      | (exfalso; simp_all; done)
  | false =>
  rw [hk] at hK
  cases hn : isName s with
  | true =>
    rw [hn] at hN
    refine ⟨fun t ht => ?_, fun h => by simp at h⟩
    simp only [Bool.false_eq_true, if_false, if_true] at ht
    obtain rfl := Option.some.inj ht
    refine fn_ok T Tryz.func54 (by kernel_rfl) rfl rfl rfl rfl fun C hC => ?_
    repeat' first | refine g_go T hC true 400 rfl rfl ?_ | refine g_cond rfl (fun h => ?_) (fun h => ?_) | refine g_call hC (hK) rfl rfl (LeSs.refl _) rfl rfl rfl ?_ | refine g_call hC (hN) rfl rfl (LeSs.refl _) rfl rfl rfl ?_
    all_goals first
      | exact g_fin ⟨.inl rfl, id, _, rfl, .refl _, trivial, rfl, rfl⟩
      | (exfalso; simp_all; done)
  | false =>
  rw [hn] at hN
  cases ho : numOk (lst s) with
  | true =>
    rw [ho, hif ho] at hI
    refine ⟨fun t ht => ?_, fun h => by simp at h⟩
    simp only [Bool.false_eq_true, if_false, if_true] at ht
    obtain rfl := Option.some.inj ht
    refine fn_ok T Tryz.func54 (by kernel_rfl) rfl rfl rfl rfl fun C hC => ?_
    repeat' first | refine g_go T hC true 400 rfl rfl ?_ | refine g_cond rfl (fun h => ?_) (fun h => ?_) | refine g_call hC (hK) rfl rfl (LeSs.refl _) rfl rfl rfl ?_ | refine g_call hC (hN) rfl rfl (LeSs.refl _) rfl rfl rfl ?_ | refine g_call hC (hI) rfl rfl (LeSs.refl _) rfl rfl rfl ?_
    all_goals first
      | exact g_fin ⟨.inl rfl, id, _, rfl, LeS.tup (.cons (.refl _) (.cons (.bq rfl) .nil)), trivial, rfl, rfl⟩
      | exact g_fin ⟨.inl rfl, id, _, rfl, .refl _, trivial, rfl, rfl⟩
      | (exfalso; simp_all; done)
  | false =>
    rw [ho] at hI
    refine ⟨fun t ht => by simp at ht, fun _ => ?_⟩
    refine fn_ok T Tryz.func54 (by kernel_rfl) rfl rfl rfl rfl fun C hC => ?_
    repeat' first | refine g_go T hC true 400 rfl rfl ?_ | refine g_cond rfl (fun h => ?_) (fun h => ?_) | refine g_call hC (hK) rfl rfl (LeSs.refl _) rfl rfl rfl ?_ | refine g_call hC (hN) rfl rfl (LeSs.refl _) rfl rfl rfl ?_ | refine g_call hC (hI) rfl rfl (LeSs.refl _) rfl rfl rfl ?_
    all_goals first
      | exact g_fin ⟨.inl rfl, id, _, rfl, LeS.tup (.cons (.refl _) (.cons (.bq rfl) .nil)), trivial, rfl, rfl⟩
      | exact g_fin ⟨.inl rfl, id, _, rfl, .refl _, trivial, rfl, rfl⟩
      | (exfalso; simp_all; done)
end Hw.Pa
namespace Hw.Pa
open Go Go.Proofs Go.Shelf Hw.M

theorem numV_append : ∀ (a b : By) (n : Int), numV (a ++ b) n = numV b (numV a n)
  | [], _, _ => rfl
  | x :: a, b, n => by simp only [List.cons_append, numV]; exact numV_append a b _
theorem numV_snoc {w : By} {i : Nat} {x : UInt8} (h : w[i]? = some x) : numV (w.take (i + 1)) 0 = numV (w.take i) 0 * 10 + ((x.toNat : Int) - 48) := by
  rw [List.take_add_one, h, Option.toList_some, numV_append]; rfl
theorem numV_ge {w : By} (h : w.all dB = true) : 0 ≤ numV w 0 := by
  have := numV_nat w 0 h
  have e0 : ((0 : Nat) : Int) = 0 := rfl
  rw [e0] at this; omega
theorem numV_take_le {w : By} (h : w.all dB = true) (k : Nat) : numV (w.take k) 0 ≤ numV w 0 := by
  have h1 := numV_nat w 0 h
  have ht : (w.take k).all dB = true := by rw [List.all_eq_true] at h ⊢; exact fun x hx => h x (List.mem_of_mem_take hx)
  have h2 := numV_nat (w.take k) 0 ht
  have h3 := natV_take w k 0
  have e0 : ((0 : Nat) : Int) = 0 := rfl
  rw [e0] at h1 h2; omega
def numR (w : By) : Int := if numOk w = true then numV w 0 else 0
theorem rNumber_ok (s : Str) (hs : s.size ≤ 1000000) : FnOK Tryz.prog 113 [Sr s] [] (.tup [I (numR (lst s)), .bq (numOk (lst s))]) [] := by
  have hl := lst_len s
  have no : numOk (lst s) = false → numR (lst s) = 0 := fun h => by unfold numR; rw [h]; simp
  by_cases h0 : s = ⟨#[]⟩
  · have hn : numOk (lst s) = false := by rw [h0]; rfl
    rw [no hn, hn]
    subst h0
    refine fn_ok T Tryz.func113 (by kernel_rfl) rfl rfl rfl rfl fun C hC => ?_
    repeat' first | refine g_go T hC true 400 rfl rfl ?_ | refine g_cond rfl (fun h => ?_) (fun h => ?_) | refine g_splitG rfl rfl rfl (fun h => ?_) (fun h => ?_) | refine g_splitP rfl rfl (fun h => ?_) (fun h => ?_)
    all_goals first
      | exact g_fin ⟨.inl rfl, id, _, rfl, LeS.tup (.cons (.refl _) (.cons (.qb rfl) .nil)), trivial, rfl, rfl⟩
      | (exfalso; simp at h; done)
      | (exfalso; rename_i hf; revert hf; decide)
      | (exfalso; rename_i hf _; revert hf; decide)
      | (exfalso; revert h; decide)
      | (exfalso; simp_all; done)
  have hne : lst s ≠ [] := fun e => h0 (by rw [← str_lst s, e]; rfl)
  have hpos : 0 < (lst s).length := List.length_pos_iff.2 hne
  obtain ⟨b, hb⟩ := exists_at hpos
  have hhd : (lst s).head? = some b := by rw [List.head?_eq_getElem?]; exact hb
  by_cases h1 : (decide (1 < (lst s).length) && decide ((lst s).head? = some 48)) = true
  · have hn : numOk (lst s) = false := by unfold numOk; rw [h1]; simp
    rw [no hn, hn]
    simp only [Bool.and_eq_true, decide_eq_true_eq, hhd, Option.some.injEq] at h1
    obtain ⟨h1, rfl⟩ := h1
    refine fn_ok T Tryz.func113 (by kernel_rfl) rfl rfl rfl rfl fun C hC => ?_
    repeat' first | refine g_go T hC true 400 rfl rfl ?_ | refine g_cond rfl (fun h => ?_) (fun h => ?_) | refine g_splitG rfl rfl rfl (fun h => ?_) (fun h => ?_) | refine g_splitP rfl rfl (fun h => ?_) (fun h => ?_) | refine g_idxS T hC rfl rfl rfl (Int.le_refl _) (lst_at hb) rfl rfl ?_
    all_goals first
      | exact g_fin ⟨.inl rfl, id, _, rfl, LeS.tup (.cons (.refl _) (.cons (.qb rfl) .nil)), trivial, rfl, rfl⟩
      | (exfalso; simp only [decide_eq_true_eq, decide_eq_false_iff_not] at *; omega)
      | (exfalso; revert h; decide)
      | (exfalso; simp_all; done)
  have hok : numOk (lst s) = ((lst s).all dB && decide (numV (lst s) 0 ≤ 1099511627776)) := by
    unfold numOk
    rw [decide_eq_false hne]
    have : (decide (1 < (lst s).length) && decide ((lst s).head? = some 48)) = false := by simpa using h1
    rw [this]; rfl
  have h48 : 1 < (lst s).length → b ≠ 48 := fun h e => h1 (by rw [hhd, e]; simp [h])
  clear h1 hhd
  refine fn_ok T Tryz.func113 (by kernel_rfl) rfl rfl rfl rfl fun C hC => ?_
  repeat' first | refine g_go T hC true 400 rfl rfl ?_ | refine g_cond rfl (fun h => ?_) (fun h => ?_) | refine g_splitG rfl rfl rfl (fun h => ?_) (fun h => ?_) | refine g_splitP rfl rfl (fun h => ?_) (fun h => ?_) | refine g_idxS T hC rfl rfl rfl (Int.le_refl _) (lst_at hb) rfl rfl ?_
  all_goals first
    | (exfalso; simp only [decide_eq_true_eq, decide_eq_false_iff_not] at *; omega)
    | (exfalso; simp only [decide_eq_true_eq, decide_eq_false_iff_not] at *; refine h48 (by omega) ?_; apply UInt8.toNat_inj.1; have h48' : (48 : UInt8).toNat = 48 := rfl; omega)
    | skip
  all_goals
    refine g_loop (fun i : Nat => i ≤ s.size ∧ ((lst s).take i).all dB = true ∧ numV ((lst s).take i) 0 ≤ 1099511627776) (fun i => ([(0, Sr s), (4, I (numV ((lst s).take i) 0)), (5, I i)], [])) (fun i => s.size - i) hC
      0 ⟨Nat.zero_le _, by simp, by simp [numV]⟩ id ⟨rfl, ⟨rfl, rfl, rfl, trivial⟩, trivial, rfl, fun _ _ => rfl⟩ ?_
    rintro i ⟨hi, hn, hm⟩
    refine g_run' T hC true 200 rfl ?_
    refine g_cond rfl (fun hh => ?_) (fun hh => ?_)
    · have hlt : i < (lst s).length := by have := of_decide_eq_true hh; omega
      clear hh
      obtain ⟨x, hx⟩ := exists_at hlt
      have hsn := numV_snoc hx
      have hge := numV_ge hn
      cases hd : dB x with
      | false =>
        have hD := digit_ok (x.toNat : Int)
        rw [show isDigit (x.toNat : Int) = false from hd] at hD
        have hnn : numOk (lst s) = false := by rw [hok, all_no hx hd]; rfl
        rw [no hnn, hnn]
        repeat' first | refine g_go T hC true 400 rfl rfl ?_ | refine g_cond rfl (fun h => ?_) (fun h => ?_) | refine g_splitG rfl rfl rfl (fun h => ?_) (fun h => ?_) | refine g_splitP rfl rfl (fun h => ?_) (fun h => ?_) | refine g_idxS T hC rfl rfl rfl (Int.natCast_nonneg _) (lst_at hx) rfl rfl ?_ | refine g_call hC (hD) rfl rfl (LeSs.refl _) rfl rfl rfl ?_ | refine g_outR ?_
        all_goals first
          | exact g_fin ⟨.inl rfl, id, _, rfl, LeS.tup (.cons (.refl _) (.cons (.qb rfl) .nil)), trivial, rfl, rfl⟩
          | (exfalso; simp at h; done)
          | (exfalso; rename_i hf; simp at hf; done)
          | (exfalso; rename_i hf _; simp at hf; done)
      | true =>
        have hD := digit_ok (x.toNat : Int)
        rw [show isDigit (x.toNat : Int) = true from hd] at hD
        have hxb := dB_iff.1 hd
        have w1 : IntKind.i64.wrap (numV ((lst s).take i) 0 * 10) = numV ((lst s).take i) 0 * 10 := wrap64 (by omega)
        have w2 : IntKind.u8.wrap ((x.toNat : Int) - 48) = (x.toNat : Int) - 48 := by
          unfold IntKind.wrap; simp [IntKind.bits, IntKind.signed]; omega
        have w3 : IntKind.i64.wrap ((x.toNat : Int) - 48) = (x.toNat : Int) - 48 := wrap64 (by omega)
        have w4 : IntKind.i64.wrap (numV ((lst s).take i) 0 * 10 + ((x.toNat : Int) - 48)) = numV ((lst s).take (i + 1)) 0 := by rw [hsn]; exact wrap64 (by omega)
        have hall : ((lst s).take (i + 1)).all dB = true := by rw [all_take hx, hn, hd]; rfl
        repeat' first | refine g_go T hC true 400 rfl rfl ?_ | refine g_cond rfl (fun h => ?_) (fun h => ?_) | refine g_splitG rfl rfl rfl (fun h => ?_) (fun h => ?_) | refine g_splitP rfl rfl (fun h => ?_) (fun h => ?_) | refine g_idxS T hC rfl rfl rfl (Int.natCast_nonneg _) (lst_at hx) rfl rfl ?_ | refine g_call hC (hD) rfl rfl (LeSs.refl _) rfl rfl rfl ?_ | refine g_outR ?_
        all_goals (try (exfalso; simp at h; done))
        all_goals (rw [w1, w2, w3, w4] at h)
        all_goals first
          | (have hgt := of_decide_eq_true h
             have hnn : numOk (lst s) = false := by
               rw [hok]
               cases ha : (lst s).all dB with
               | false => rfl
               | true =>
                 have := numV_take_le ha (i + 1)
                 rw [Bool.true_and]; exact decide_eq_false (by omega)
             rw [no hnn, hnn]
             exact g_fin ⟨.inl rfl, id, _, rfl, LeS.tup (.cons (.refl _) (.cons (.qb rfl) .nil)), trivial, rfl, rfl⟩)
          | (have hle := of_decide_eq_false h
             rw [w1, w2, w3, w4, wrapS (by omega)]
             exact g_round (i + 1) ⟨by omega, hall, by omega⟩ id (by omega) ⟨rfl, ⟨rfl, rfl, rfl, trivial⟩, trivial, rfl, fun _ _ => rfl⟩)
    · have hge : ¬ i < (lst s).length := by have := of_decide_eq_false hh; omega
      have hall := all_end (p := dB) (by omega) hn
      rw [List.take_of_length_le (by omega)] at hm ⊢
      have hyes : numOk (lst s) = true := by rw [hok, hall, decide_eq_true hm]; rfl
      have hnr : numR (lst s) = numV (lst s) 0 := by unfold numR; rw [if_pos hyes]
      clear hh
      rw [hyes, hnr]
      repeat' first | refine g_go T hC true 400 rfl rfl ?_ | refine g_cond rfl (fun h => ?_) (fun h => ?_) | refine g_splitG rfl rfl rfl (fun h => ?_) (fun h => ?_) | refine g_splitP rfl rfl (fun h => ?_) (fun h => ?_) | refine g_outE ?_
      exact g_fin ⟨.inl rfl, id, _, rfl, LeS.tup (.cons (.refl _) (.cons (.qb rfl) .nil)), trivial, rfl, rfl⟩
theorem classify_ok (s : Str) (ln cl : Int) (hs : s.size ≤ 1000000) : (∀ t, clsT (lst s) = some t → FnOK Tryz.prog 78 [Sr s, aggS [ki ln, ki cl]] [] (.tup [aggS (tokC t.1 t.2.1 t.2.2 ln cl), Bo true]) []) ∧ (clsT (lst s) = none → FnOK Tryz.prog 78 [Sr s, aggS [ki ln, ki cl]] [] (.tup [aggS (tokC 2 (⟨#[]⟩ : ByteArray) 0 ln cl), Bo false]) []) := by
  have hK := isKeyword_ok s
  have hN := isName_ok s
  have hI := rNumber_ok s hs
  unfold clsT
  rw [str_lst]
  cases hk : isKeyword s with
  | true =>
    rw [hk] at hK
    refine ⟨fun t ht => ?_, fun h => by simp at h⟩
    rw [if_pos rfl] at ht
    obtain rfl := Option.some.inj ht
    refine fn_ok T Tryz.func78 (by kernel_rfl) rfl rfl rfl rfl fun C hC => ?_
    repeat' first | refine g_go T hC true 400 rfl rfl ?_ | refine g_cond rfl (fun h => ?_) (fun h => ?_) | refine g_call hC (hK) rfl rfl (LeSs.refl _) rfl rfl rfl ?_
    all_goals first
      | exact g_fin ⟨.inl rfl, id, _, rfl, .refl _, trivial, rfl, rfl⟩
      | (exfalso; simp_all; done)
  | false =>
  rw [hk] at hK
  cases hn : isName s with
  | true =>
    rw [hn] at hN
    refine ⟨fun t ht => ?_, fun h => by simp at h⟩
    simp only [Bool.false_eq_true, if_false, if_true] at ht
    obtain rfl := Option.some.inj ht
    refine fn_ok T Tryz.func78 (by kernel_rfl) rfl rfl rfl rfl fun C hC => ?_
    repeat' first | refine g_go T hC true 400 rfl rfl ?_ | refine g_cond rfl (fun h => ?_) (fun h => ?_) | refine g_call hC (hK) rfl rfl (LeSs.refl _) rfl rfl rfl ?_ | refine g_call hC (hN) rfl rfl (LeSs.refl _) rfl rfl rfl ?_
    all_goals first
      | exact g_fin ⟨.inl rfl, id, _, rfl, .refl _, trivial, rfl, rfl⟩
      | (exfalso; simp_all; done)
  | false =>
  rw [hn] at hN
  cases ho : numOk (lst s) with
  | true =>
    rw [ho] at hI
    unfold numR at hI
    rw [if_pos ho] at hI
    refine ⟨fun t ht => ?_, fun h => by simp at h⟩
    simp only [Bool.false_eq_true, if_false, if_true] at ht
    obtain rfl := Option.some.inj ht
    refine fn_ok T Tryz.func78 (by kernel_rfl) rfl rfl rfl rfl fun C hC => ?_
    repeat' first | refine g_go T hC true 400 rfl rfl ?_ | refine g_cond rfl (fun h => ?_) (fun h => ?_) | refine g_call hC (hK) rfl rfl (LeSs.refl _) rfl rfl rfl ?_ | refine g_call hC (hN) rfl rfl (LeSs.refl _) rfl rfl rfl ?_ | refine g_call hC (hI) rfl rfl (LeSs.refl _) rfl rfl rfl ?_
    all_goals first
      | exact g_fin ⟨.inl rfl, id, _, rfl, LeS.tup (.cons (.refl _) (.cons (.bq rfl) .nil)), trivial, rfl, rfl⟩
      | (exfalso; simp_all; done)
  | false =>
    rw [ho] at hI
    unfold numR at hI
    rw [if_neg (by simp [ho])] at hI
    refine ⟨fun t ht => by simp at ht, fun _ => ?_⟩
    refine fn_ok T Tryz.func78 (by kernel_rfl) rfl rfl rfl rfl fun C hC => ?_
    repeat' first | refine g_go T hC true 400 rfl rfl ?_ | refine g_cond rfl (fun h => ?_) (fun h => ?_) | refine g_call hC (hK) rfl rfl (LeSs.refl _) rfl rfl rfl ?_ | refine g_call hC (hN) rfl rfl (LeSs.refl _) rfl rfl rfl ?_ | refine g_call hC (hI) rfl rfl (LeSs.refl _) rfl rfl rfl ?_
    all_goals first
      | exact g_fin ⟨.inl rfl, id, _, rfl, LeS.tup (.cons (.refl _) (.cons (.bq rfl) .nil)), trivial, rfl, rfl⟩
      | (exfalso; simp_all; done)
theorem symbols_ok : FnOK Tryz.prog 114 [] [] (pS (strsP syms)) [] := by
  refine fn_ok T Tryz.func114 (by kernel_rfl) rfl rfl rfl rfl fun C hC => ?_
  repeat' first | refine g_go T hC true 400 rfl rfl ?_ | refine g_cond rfl (fun h => ?_) (fun h => ?_) | refine g_lit T hC rfl rfl rfl rfl rfl rfl rfl rfl rfl ?_
  exact g_fin ⟨.inl rfl, id, _, rfl, .refl _, trivial, rfl, rfl⟩
theorem prefix_eq (y s : Str) : (lst y).isPrefixOf (lst s) = (decide ((y.size : Int) ≤ (s.size : Int)) && decide (s.extract 0 y.size = y)) := by
  rw [Bool.eq_iff_iff, Bool.and_eq_true, decide_eq_true_eq, decide_eq_true_eq, List.isPrefixOf_iff_prefix]
  have hx := extract_str s 0 y.size
  rw [List.drop_zero, Nat.sub_zero] at hx
  constructor
  · intro h
    have hle := h.length_le
    rw [lst_len, lst_len] at hle
    refine ⟨by omega, ?_⟩
    obtain ⟨t, ht⟩ := h
    rw [hx, ← ht, ← lst_len, List.take_left, str_lst]
  · rintro ⟨_, h⟩
    rw [hx] at h
    have := congrArg lst h
    rw [lst_str] at this
    rw [← this]; exact List.take_prefix _ _
theorem rSymbol_ok (s : Str) : FnOK Tryz.prog 79 [Sr s] [] (Sr ((symL (lst s)).getD (⟨#[]⟩ : ByteArray))) [] := by
  refine fn_ok T Tryz.func79 (by kernel_rfl) rfl rfl rfl rfl fun C hC => ?_
  repeat' first | refine g_go T hC true 400 rfl rfl ?_ | refine g_cond rfl (fun h => ?_) (fun h => ?_) | refine g_end T hC (by kernel_rfl) ?_ | refine g_splitD (fun h => ?_) (fun h => ?_) | refine g_splitG rfl rfl rfl (fun h => ?_) (fun h => ?_) | refine g_splitP rfl rfl (fun h => ?_) (fun h => ?_) | refine g_call hC (symbols_ok) rfl rfl (LeSs.refl _) rfl rfl rfl ?_
  refine g_loop (fun i : Nat => i ≤ syms.length ∧ ∀ y ∈ syms.take i, (lst y).isPrefixOf (lst s) = false) (fun i => ([(0, Sr s), (3, pS (strsP syms)), (4, I i)], [])) (fun i => syms.length - i) hC
    0 ⟨Nat.zero_le _, by simp⟩ id ⟨rfl, ⟨rfl, rfl, rfl, trivial⟩, trivial, rfl, fun _ _ => rfl⟩ ?_
  rintro i ⟨hi, hn⟩
  refine g_run' T hC true 200 rfl ?_
  refine g_cond rfl (fun hh => ?_) (fun hh => ?_)
  · have hlt : i < syms.length := by have := of_decide_eq_true hh; simp only [List.length_map] at this; omega
    clear hh
    obtain ⟨y, hy⟩ := exists_at hlt
    have h21 : syms.length = 21 := rfl
    have hpe := prefix_eq y s
    cases hp : (lst y).isPrefixOf (lst s) with
    | true =>
      have hsy : symL (lst s) = some y := by
        unfold symL
        rw [List.find?_eq_some_iff_getElem]
        refine ⟨hp, i, hlt, (List.getElem?_eq_some_iff.1 hy).2, fun j hj => ?_⟩
        have := hn (syms[j]'(by omega)) (List.mem_take_iff_getElem.2 ⟨j, by omega, rfl⟩)
        rw [this]; rfl
      rw [hp] at hpe
      have hpe := hpe.symm
      simp only [Bool.and_eq_true, decide_eq_true_eq] at hpe
      rw [hsy]
      repeat' first | refine g_go T hC true 400 rfl rfl ?_ | refine g_cond rfl (fun h => ?_) (fun h => ?_) | refine g_end T hC (by kernel_rfl) ?_ | refine g_splitD (fun h => ?_) (fun h => ?_) | refine g_splitG rfl rfl rfl (fun h => ?_) (fun h => ?_) | refine g_splitP rfl rfl (fun h => ?_) (fun h => ?_) | refine g_idx T hC rfl rfl rfl (Int.natCast_nonneg _) (map_at hy) rfl rfl ?_ | (refine g_slTo hC rfl rfl (by kernel_rfl) (Int.natCast_nonneg _) hpe.1 rfl rfl ?_) | refine g_outR ?_
      all_goals first
        | exact g_fin ⟨.inl rfl, id, _, rfl, .refl _, trivial, rfl, rfl⟩
        | (exfalso; simp only [decide_eq_false_iff_not] at h; exact h hpe.1)
        | (exfalso; simp only [decide_eq_false_iff_not] at h; exact h hpe.2)
    | false =>
      rw [hp] at hpe
      have hpe := hpe.symm
      repeat' first | refine g_go T hC true 400 rfl rfl ?_ | refine g_cond rfl (fun h => ?_) (fun h => ?_) | refine g_end T hC (by kernel_rfl) ?_ | refine g_splitD (fun h => ?_) (fun h => ?_) | refine g_splitG rfl rfl rfl (fun h => ?_) (fun h => ?_) | refine g_splitP rfl rfl (fun h => ?_) (fun h => ?_) | refine g_idx T hC rfl rfl rfl (Int.natCast_nonneg _) (map_at hy) rfl rfl ?_ | (refine g_slTo hC rfl rfl (by kernel_rfl) (Int.natCast_nonneg _) (of_decide_eq_true h) rfl rfl ?_) | refine g_outR ?_
      all_goals first
        | (rw [wrapS (by omega)]
           refine g_round (i + 1) ⟨by omega, fun z hz => ?_⟩ id (by omega) ⟨rfl, ⟨rfl, rfl, rfl, trivial⟩, trivial, rfl, fun _ _ => rfl⟩
           rw [List.take_add_one, hy] at hz
           rcases List.mem_append.1 hz with hz | hz
           · exact hn z hz
           · simp only [Option.toList_some, List.mem_singleton] at hz; subst hz; exact hp)
        | (exfalso; rename_i h1; have e1 : decide ((y.size : Int) ≤ (s.size : Int)) = true := h1; have e2 : decide (s.extract 0 y.size = y) = true := h; rw [e1, e2] at hpe; cases hpe)
  · have hge : ¬ i < syms.length := by have := of_decide_eq_false hh; simp only [List.length_map] at this; omega
    clear hh
    have hno : symL (lst s) = none := by
      unfold symL
      rw [List.find?_eq_none]
      intro y hy
      rw [hn y (by rw [List.take_of_length_le (by omega)]; exact hy)]; simp
    rw [hno]
    repeat' first | refine g_go T hC true 400 rfl rfl ?_ | refine g_cond rfl (fun h => ?_) (fun h => ?_) | refine g_end T hC (by kernel_rfl) ?_ | refine g_splitD (fun h => ?_) (fun h => ?_) | refine g_splitG rfl rfl rfl (fun h => ?_) (fun h => ?_) | refine g_splitP rfl rfl (fun h => ?_) (fun h => ?_) | refine g_outE ?_
    exact g_fin ⟨.inl rfl, id, _, rfl, .refl _, trivial, rfl, rfl⟩
theorem move_ok (p : Int × Int) (c : UInt8) (h1 : 0 ≤ p.1 ∧ p.1 ≤ 1000000) (h2 : 0 ≤ p.2 ∧ p.2 ≤ 1000000) : FnOK Tryz.prog 76 [aggS [ki p.1, ki p.2], uc c.toNat] [] (aggS [ki (mv p c).1, ki (mv p c).2]) [] := by
  have w1 : IntKind.i64.wrap (p.1 + 1) = p.1 + 1 := wrap64 (by omega)
  have w2 : IntKind.i64.wrap (p.2 + 1) = p.2 + 1 := wrap64 (by omega)
  unfold mv
  by_cases hc : c = 10
  · subst hc
    refine fn_ok T Tryz.func76 (by kernel_rfl) rfl rfl rfl rfl fun C hC => ?_
    repeat' first | refine g_go T hC true 400 rfl rfl ?_ | refine g_cond rfl (fun h => ?_) (fun h => ?_)
    all_goals first
      | (rw [w1]; exact g_fin ⟨.inl rfl, id, _, rfl, .refl _, trivial, rfl, rfl⟩)
      | (exfalso; revert h; decide)
  · have hc' : ¬ (c.toNat : Int) = 10 := fun e => hc (UInt8.toNat_inj.1 (by have : (10 : UInt8).toNat = 10 := rfl; omega))
    rw [if_neg hc]
    refine fn_ok T Tryz.func76 (by kernel_rfl) rfl rfl rfl rfl fun C hC => ?_
    repeat' first | refine g_go T hC true 400 rfl rfl ?_ | refine g_cond rfl (fun h => ?_) (fun h => ?_)
    all_goals first
      | (rw [w2]; exact g_fin ⟨.inl rfl, id, _, rfl, .refl _, trivial, rfl, rfl⟩)
      | (exfalso; exact hc' (of_decide_eq_true h))
end Hw.Pa
namespace Hw.Pa
open Go Go.Proofs Go.Shelf Hw.M

def mvU (a b i : Nat) : Nat := match Nat.beq i a with
  | true => b
  | false => i
theorem mvU_low {a b i : Nat} (ha : 100 ≤ a) (hi : i < 100) : mvU a b i = i := by
  unfold mvU; rw [beq_ne (by omega)]
theorem tw_end {p : UInt8 → Bool} : ∀ (l : By) (k : Nat), (l.take k).all p = true → (∀ x, l[k]? = some x → p x = false) → l.takeWhile p = l.take k
  | [], k, _, _ => by simp
  | x :: l, 0, _, h => by
    have := h x rfl
    rw [List.takeWhile_cons, if_neg (by simp [this])]; rfl
  | x :: l, k + 1, ha, h => by
    rw [List.take_succ_cons, List.all_cons, Bool.and_eq_true] at ha
    rw [List.takeWhile_cons, if_pos ha.1, List.take_succ_cons, tw_end l k ha.2 (fun y hy => h y (by simpa using hy))]
theorem dropC {l : By} {i : Nat} {c : UInt8} (h : l[i]? = some c) : l.drop i = c :: l.drop (i + 1) := by
  obtain ⟨hi, rfl⟩ := List.getElem?_eq_some_iff.1 h
  exact List.drop_eq_getElem_cons hi
theorem blB_iff {c : UInt8} : blB c = true ↔ classS c.toNat = 1 := by unfold blB; exact decide_eq_true_iff
theorem wB_iff {c : UInt8} : wB c = true ↔ 2 ≤ classS c.toNat := by
  have := class_word c.toNat
  unfold wB
  cases h : isWord (c.toNat : Int) with
  | true => rw [h] at this; simp at this; simpa using this
  | false => rw [h] at this; simp at this; simp; omega
theorem step_blank {l : By} {i : Nat} {c : UInt8} (p : Int × Int) (out : List Tok) (h : l[i]? = some c) (hb : blB c = true) : lxx (l.drop i) p out = lxx (l.drop (i + 1)) (mv p c) out := by
  have ht : tk (l.drop i) = some (1, none) := by rw [dropC h]; simp only [tk, if_pos hb]
  rw [lxx_step p out ht, List.drop_drop, dropC h]
  simp
theorem take_line {l : By} {p : UInt8 → Bool} (hp : p 10 = false) (q : Int × Int) : (l.take (l.takeWhile p).length).foldl mv q = (q.1, q.2 + (l.takeWhile p).length) := by
  have e : l.take (l.takeWhile p).length = l.takeWhile p := (List.prefix_iff_eq_take.1 (List.takeWhile_prefix p)).symm
  rw [e]
  refine mv_line _ _ fun b hb e => ?_
  subst e
  have := (List.all_eq_true.1 (List.all_takeWhile (p := p) (l := l))) _ hb
  rw [hp] at this; cases this
theorem step_com {l : By} {i k : Nat} (p : Int × Int) (out : List Tok) (h : l[i]? = some 35) (hk : ((l.drop i).takeWhile fun b => decide (b ≠ 10)).length = k) : lxx (l.drop i) p out = lxx (l.drop (i + k)) (p.1, p.2 + k) out := by
  subst hk
  have ht : tk (l.drop i) = some (((l.drop i).takeWhile fun b => decide (b ≠ 10)).length, none) := by
    rw [dropC h]; simp only [tk]; rw [if_neg (by decide)]; rfl
  rw [lxx_step p out ht, List.drop_drop, take_line (by decide)]
  simp
theorem step_word {l : By} {i : Nat} {c : UInt8} (p : Int × Int) (out : List Tok) (h : l[i]? = some c) (hb : blB c = false) (hc : c ≠ 35) (hw : wB c = true) {t : Int × Str × Int} (ht : clsT ((l.drop i).takeWhile wB) = some t) : lxx (l.drop i) p out = lxx (l.drop (i + ((l.drop i).takeWhile wB).length)) (p.1, p.2 + ((l.drop i).takeWhile wB).length) (out ++ [tokAt p t]) := by
  have hk : tk (l.drop i) = some (((l.drop i).takeWhile wB).length, some t) := by
    rw [dropC h] at ht ⊢
    simp only [tk]
    rw [if_neg (by simp [hb]), if_neg hc, if_pos hw, ht]; rfl
  rw [lxx_step p out hk, List.drop_drop, take_line (by decide)]
  rfl
theorem word_bad {l : By} {i : Nat} {c : UInt8} (p : Int × Int) (out : List Tok) (h : l[i]? = some c) (hb : blB c = false) (hc : c ≠ 35) (hw : wB c = true) (ht : clsT ((l.drop i).takeWhile wB) = none) : lxx (l.drop i) p out = ([], p, 7) := by
  rw [dropC h] at ht ⊢
  refine lxx_bad p out ?_
  simp only [tk]
  rw [if_neg (by simp [hb]), if_neg hc, if_pos hw, ht]; rfl
theorem syms_line : ∀ y ∈ syms, ∀ b ∈ lst y, b ≠ 10 := by decide +kernel
theorem sym_line {l : By} {y : Str} (h : symL l = some y) (q : Int × Int) : (l.take y.size).foldl mv q = (q.1, q.2 + (y.size : Int)) := by
  obtain ⟨h1, h2⟩ := sym_of h
  have e : l.take y.size = lst y := by
    rw [← lst_len]; exact (List.prefix_iff_eq_take.1 (List.isPrefixOf_iff_prefix.1 h2)).symm
  rw [e, mv_line _ _ (syms_line y h1), lst_len]
theorem step_sym {l : By} {i : Nat} {c : UInt8} (p : Int × Int) (out : List Tok) (h : l[i]? = some c) (hb : blB c = false) (hc : c ≠ 35) (hw : wB c = false) {y : Str} (ht : symL (l.drop i) = some y) : lxx (l.drop i) p out = lxx (l.drop (i + y.size)) (p.1, p.2 + (y.size : Int)) (out ++ [tokAt p (4, y, 0)]) := by
  have hk : tk (l.drop i) = some (y.size, some (4, y, 0)) := by
    rw [dropC h] at ht ⊢
    simp only [tk]
    rw [if_neg (by simp [hb]), if_neg hc, if_neg (by simp [hw]), ht]; rfl
  rw [lxx_step p out hk, List.drop_drop, sym_line ht]
  rfl
theorem sym_bad {l : By} {i : Nat} {c : UInt8} (p : Int × Int) (out : List Tok) (h : l[i]? = some c) (hb : blB c = false) (hc : c ≠ 35) (hw : wB c = false) (ht : symL (l.drop i) = none) : lxx (l.drop i) p out = ([], p, 7) := by
  rw [dropC h] at ht ⊢
  refine lxx_bad p out ?_
  simp only [tk]
  rw [if_neg (by simp [hb]), if_neg hc, if_neg (by simp [hw]), ht]; rfl
end Hw.Pa
namespace Hw.Pa
open Go Go.Proofs Go.Shelf Hw.M

theorem lexTokens_ok (s : Str) (hs : s.size ≤ 1000000) : FnOK Tryz.prog 20 [Sr s] [] (.tup [pS (toksP (tokensS s).1), aggS [ki (tokensS s).2.1.1, ki (tokensS s).2.1.2], I (tokensS s).2.2]) [] := by
  have hl := lst_len s
  by_cases hbig : 65536 < s.size
  · have hR : tokensS s = ([], (0, 0), 4) := if_pos hbig
    rw [hR]
    refine fn_ok T Tryz.func20 (by kernel_rfl) rfl rfl rfl rfl fun C hC => ?_
    repeat' first | refine g_go T hC true 400 rfl rfl ?_ | refine g_cond rfl (fun h => ?_) (fun h => ?_) | refine g_end T hC (by kernel_rfl) ?_ | refine g_splitD (fun h => ?_) (fun h => ?_) | refine g_splitG rfl rfl rfl (fun h => ?_) (fun h => ?_) | refine g_splitP rfl rfl (fun h => ?_) (fun h => ?_)
    all_goals first
      | exact g_fin ⟨.inl rfl, id, _, rfl, LeS.tup (.cons (LeS.one (.nil 5)) (.cons (.refl _) (.cons (.refl _) .nil))), trivial, rfl, rfl⟩
      | (exfalso; simp only [decide_eq_false_iff_not] at h; omega)
  have hR : tokensS s = lxx ((lst s).drop 0) (1, 1) [] := if_neg hbig
  generalize tokensS s = R at hR
  refine fn_ok T Tryz.func20 (by kernel_rfl) rfl rfl rfl rfl fun C hC => ?_
  repeat' first | refine g_go T hC true 400 rfl rfl ?_ | refine g_cond rfl (fun h => ?_) (fun h => ?_) | refine g_end T hC (by kernel_rfl) ?_ | refine g_splitD (fun h => ?_) (fun h => ?_) | refine g_splitG rfl rfl rfl (fun h => ?_) (fun h => ?_) | refine g_splitP rfl rfl (fun h => ?_) (fun h => ?_)
  · exfalso; have := of_decide_eq_true h; omega
  refine g_adopt hC rfl 101 5 rfl [(5, .one (.ar 101))] ⟨⟨_, rfl, AdS.nil⟩, trivial⟩ [] trivial ?_
  refine g_loop (fun q : Nat × Nat × Nat × List Tok => q.1 ≤ s.size ∧ q.2.2.1 ≤ q.1 ∧ q.2.1 ≤ q.1 + 1 ∧ q.2.2.2.length ≤ q.1 ∧ R = lxx ((lst s).drop q.1) (q.2.1, (q.1 : Int) - q.2.2.1 + 1) q.2.2.2) (fun q => ([(0, Sr s), (3, .one (.bx 1003 0)), (5, .one (.ar 101)), (6, I q.2.1), (7, I q.2.2.1), (8, I q.1)], [(1003, some (Res.box [.p (ki 0), .p (ki 0)])), (101, some (Res.arr 5 (q.2.2.2.map tokR)))])) (fun q => s.size - q.1) hC
    (0, 1, 0, []) ⟨Nat.zero_le _, Nat.zero_le _, by decide, Nat.zero_le _, hR⟩ id ⟨rfl, ⟨rfl, rfl, rfl, rfl, rfl, rfl, trivial⟩, ⟨rfl, rfl, trivial⟩, rfl, fun _ _ => rfl⟩ ?_
  rintro ⟨i, ln, bg, out⟩ ⟨hi, hb, hlnn, hout, hL⟩
  simp only at hi hb hlnn hout hL
  refine g_run' T hC true 200 rfl ?_
  refine g_cond rfl (fun hh => ?_) (fun hh => ?_)
  rotate_left
  · have hge : i = s.size := by have := of_decide_eq_false hh; omega
    clear hh
    rw [List.drop_of_length_le (by omega), lxx_nil] at hL
    subst hL
    have w1 : IntKind.i64.wrap ((s.size : Int) - bg) = (s.size : Int) - bg := wrap64 (by omega)
    have w2 : IntKind.i64.wrap ((s.size : Int) - bg + 1) = (s.size : Int) - bg + 1 := wrap64 (by omega)
    have hol : (out.map tokR).length = out.length := List.length_map _
    have happ : out.map tokR ++ [[ki 5, ks (⟨#[]⟩ : ByteArray), ki 0, ki ln, ki (IntKind.i64.wrap (IntKind.i64.wrap ((s.size : Int) - bg) + 1))]] = (out ++ [(⟨5, (⟨#[]⟩ : ByteArray), 0, ln, (i : Int) - bg + 1⟩ : Tok)]).map tokR := by rw [w1, w2, hge, List.map_append]; rfl
    repeat' first | refine g_go T hC true 400 rfl rfl ?_ | refine g_cond rfl (fun h => ?_) (fun h => ?_) | refine g_end T hC (by kernel_rfl) ?_ | refine g_splitD (fun h => ?_) (fun h => ?_) | refine g_splitG rfl rfl rfl (fun h => ?_) (fun h => ?_) | refine g_splitP rfl rfl (fun h => ?_) (fun h => ?_) | refine g_outE ?_ | refine g_lit T hC rfl rfl rfl rfl rfl rfl rfl rfl rfl ?_ | (refine g_append T 102 hC (rows := out.map tokR) (rows2 := [[ki 5, ks (⟨#[]⟩ : ByteArray), ki 0, ki ln, ki (IntKind.i64.wrap (IntKind.i64.wrap ((s.size : Int) - bg) + 1))]]) (rows3 := (out ++ [(⟨5, (⟨#[]⟩ : ByteArray), 0, ln, (i : Int) - bg + 1⟩ : Tok)]).map tokR) (bytes := 48) rfl rfl rfl rfl (SrcS.sl (T.es_ok _ _ rfl)) happ rfl rfl rfl (by kernel_rfl) (by rw [hol, List.length_singleton]; omega) (by rw [hol, List.length_singleton]; omega) rfl rfl rfl ?_)
    refine g_freeze rfl (id := 102) (e := 5) (rows := (out ++ [(⟨5, (⟨#[]⟩ : ByteArray), 0, ln, (i : Int) - bg + 1⟩ : Tok)]).map tokR) rfl [(2, pS (toksP (out ++ [(⟨5, (⟨#[]⟩ : ByteArray), 0, ln, (i : Int) - bg + 1⟩ : Tok)])))] ⟨⟨_, rfl, FrS.ar⟩, trivial⟩ [] trivial ?_
    exact g_fin ⟨.inl rfl, id, _, rfl, .refl _, trivial, rfl, rfl⟩
  have hlt : i < (lst s).length := by have := of_decide_eq_true hh; omega
  clear hh
  obtain ⟨c, hc⟩ := exists_at hlt
  have hK := class_ok c.toNat
  have w1 : IntKind.i64.wrap ((i : Int) - bg) = (i : Int) - bg := wrap64 (by omega)
  have w2 : IntKind.i64.wrap ((i : Int) - bg + 1) = (i : Int) - bg + 1 := wrap64 (by omega)
  cases hbl : blB c with
  | true =>
    have hcl := blB_iff.1 hbl
    rw [step_blank _ _ hc hbl] at hL
    rw [hcl] at hK
    repeat' first | refine g_go T hC true 400 rfl rfl ?_ | (exfalso; simp at h; done) | refine g_cond rfl (fun h => ?_) (fun h => ?_) | refine g_end T hC (by kernel_rfl) ?_ | refine g_splitD (fun h => ?_) (fun h => ?_) | refine g_splitG rfl rfl rfl (fun h => ?_) (fun h => ?_) | refine g_splitP rfl rfl (fun h => ?_) (fun h => ?_) | refine g_idxS T hC rfl rfl rfl (Int.natCast_nonneg _) (lst_at hc) rfl rfl ?_ | refine g_call hC (hK) rfl rfl (LeSs.refl _) rfl rfl rfl ?_
    · have h10 : c = 10 := UInt8.toNat_inj.1 (by have := of_decide_eq_true h; have e : (10 : UInt8).toNat = 10 := rfl; omega)
      subst h10
      dsimp only
      rw [wrapS (by omega), wrapS (by omega)]
      refine g_round (i + 1, ln + 1, i + 1, out) ⟨by simp only; omega, Nat.le_refl _, by simp only; omega, by simp only; omega, ?_⟩ id (by simp only; omega) ⟨rfl, ⟨rfl, rfl, rfl, rfl, rfl, rfl, trivial⟩, ⟨rfl, rfl, trivial⟩, rfl, fun _ _ => rfl⟩
      rw [hL]; simp [mv]
    · have h10 : c ≠ 10 := fun e => by subst e; exact absurd h (by decide)
      dsimp only
      rw [wrapS (by omega)]
      refine g_round (i + 1, ln, bg, out) ⟨by simp only; omega, by simp only; omega, by simp only; omega, by simp only; omega, ?_⟩ id (by simp only; omega) ⟨rfl, ⟨rfl, rfl, rfl, rfl, rfl, rfl, trivial⟩, ⟨rfl, rfl, trivial⟩, rfl, fun _ _ => rfl⟩
      rw [hL]; unfold mv; rw [if_neg h10]
      congr 2
      show (i : Int) - bg + 1 + 1 = ((i + 1 : Nat) : Int) - bg + 1
      omega
  | false =>
  have hcl : classS c.toNat ≠ 1 := fun e => by rw [blB_iff.2 e] at hbl; cases hbl
  by_cases h35 : c = 35
  · subst h35
    rw [show classS ((35 : UInt8).toNat : Int) = 0 from rfl] at hK
    repeat' first | refine g_go T hC true 400 rfl rfl ?_ | (exfalso; simp at h; done) | refine g_cond rfl (fun h => ?_) (fun h => ?_) | refine g_end T hC (by kernel_rfl) ?_ | refine g_splitD (fun h => ?_) (fun h => ?_) | refine g_splitG rfl rfl rfl (fun h => ?_) (fun h => ?_) | refine g_splitP rfl rfl (fun h => ?_) (fun h => ?_) | refine g_idxS T hC rfl rfl rfl (Int.natCast_nonneg _) (lst_at hc) rfl rfl ?_ | refine g_call hC (hK) rfl rfl (LeSs.refl _) rfl rfl rfl ?_
    all_goals (try (exfalso; revert h; decide))
    refine g_loop (fun k : Nat => i + k ≤ s.size ∧ (((lst s).drop i).take k).all (fun b => decide (b ≠ 10)) = true) (fun k => ([(0, Sr s), (3, .one (.bx 1003 0)), (5, .one (.ar 101)), (6, I ln), (7, I bg), (8, I (i + k : Nat))], [(1003, some (Res.box [.p (ki 0), .p (ki 0)])), (101, some (Res.arr 5 (out.map tokR)))])) (fun k => s.size - i - k) hC
      0 ⟨by omega, by simp⟩ id ⟨rfl, ⟨rfl, rfl, rfl, rfl, rfl, rfl, trivial⟩, ⟨rfl, rfl, trivial⟩, rfl, fun _ _ => rfl⟩ ?_
    rintro k ⟨hk, hall⟩
    have hcom : (∀ x, ((lst s).drop i)[k]? = some x → x = 10) → 0 < k ∧ R = lxx ((lst s).drop (i + k)) (ln, ((i + k : Nat) : Int) - bg + 1) out := fun hx => by
      have htw := tw_end _ k hall (fun x h => by simpa using hx x h)
      refine ⟨?_, ?_⟩
      · rcases Nat.eq_zero_or_pos k with rfl | h
        · have := hx 35 (by rw [List.getElem?_drop]; exact hc)
          cases this
        · exact h
      · rw [hL, step_com _ _ hc (k := k) (by rw [htw, List.length_take, List.length_drop]; omega)]
        have e : (i : Int) - bg + 1 + k = ((i + k : Nat) : Int) - bg + 1 := by omega
        show lxx _ ((ln : Int), (i : Int) - bg + 1 + k) out = _
        rw [e]
    refine g_run' T hC true 200 rfl ?_
    by_cases hj : i + k < s.size
    · obtain ⟨x, hx⟩ := exists_at (l := lst s) (i := i + k) (by omega)
      have hxd : ((lst s).drop i)[k]? = some x := by rw [List.getElem?_drop]; exact hx
      repeat' first | refine g_go T hC true 400 rfl rfl ?_ | (exfalso; have h2 := of_decide_eq_false h; omega) | refine g_cond rfl (fun h => ?_) (fun h => ?_) | refine g_end T hC (by kernel_rfl) ?_ | refine g_splitD (fun h => ?_) (fun h => ?_) | refine g_splitG rfl rfl rfl (fun h => ?_) (fun h => ?_) | refine g_splitP rfl rfl (fun h => ?_) (fun h => ?_) | refine g_idxS T hC rfl rfl rfl (Int.natCast_nonneg _) (lst_at hx) rfl rfl ?_ | refine g_outE ?_
      · have hx10 : x ≠ 10 := fun e => by subst e; exact absurd h (by decide)
        rw [wrapS (by omega)]
        exact g_round (k + 1) ⟨by omega, by rw [all_take hxd, hall]; simpa using hx10⟩ id (by omega) ⟨rfl, ⟨rfl, rfl, rfl, rfl, rfl, rfl, trivial⟩, ⟨rfl, rfl, trivial⟩, rfl, fun _ _ => rfl⟩
      · obtain ⟨h0, hL'⟩ := hcom fun y hy => by
          rw [hxd] at hy
          obtain rfl := Option.some.inj hy
          exact UInt8.toNat_inj.1 (by have e2 : (10 : UInt8).toNat = 10 := rfl; simp at h; omega)
        exact g_round (i + k, ln, bg, out) ⟨by simp only; omega, by simp only; omega, by simp only; omega, by simp only; omega, hL'⟩ id (by simp only; omega) ⟨rfl, ⟨rfl, rfl, rfl, rfl, rfl, rfl, trivial⟩, ⟨rfl, rfl, trivial⟩, rfl, fun _ _ => rfl⟩
    · repeat' first | refine g_go T hC true 400 rfl rfl ?_ | (exfalso; have h2 := of_decide_eq_true h; omega) | refine g_cond rfl (fun h => ?_) (fun h => ?_) | refine g_end T hC (by kernel_rfl) ?_ | refine g_splitD (fun h => ?_) (fun h => ?_) | refine g_splitG rfl rfl rfl (fun h => ?_) (fun h => ?_) | refine g_splitP rfl rfl (fun h => ?_) (fun h => ?_) | refine g_outE ?_
      obtain ⟨h0, hL'⟩ := hcom fun y hy => by
        rw [List.getElem?_drop, List.getElem?_eq_none (by omega)] at hy
        cases hy
      exact g_round (i + k, ln, bg, out) ⟨by simp only; omega, by simp only; omega, by simp only; omega, by simp only; omega, hL'⟩ id (by simp only; omega) ⟨rfl, ⟨rfl, rfl, rfl, rfl, rfl, rfl, trivial⟩, ⟨rfl, rfl, trivial⟩, rfl, fun _ _ => rfl⟩
  have hwd := @wB_iff c
  have h35c : ¬ (c.toNat : Int) = 35 := fun e => h35 (UInt8.toNat_inj.1 (by have e2 : (35 : UInt8).toNat = 35 := rfl; omega))
  generalize hcv : classS (c.toNat : Int) = cv at hK hcl hwd
  cases hw : wB c with
  | true =>
    rw [hw] at hwd
    have hcw : 2 ≤ cv := hwd.1 rfl
    repeat' first | refine g_go T hC true 400 rfl rfl ?_ | (exfalso; have h2 := of_decide_eq_false h; omega) | (exfalso; have h2 := of_decide_eq_true h; omega) | refine g_cond rfl (fun h => ?_) (fun h => ?_) | refine g_end T hC (by kernel_rfl) ?_ | refine g_splitD (fun h => ?_) (fun h => ?_) | refine g_splitG rfl rfl rfl (fun h => ?_) (fun h => ?_) | refine g_splitP rfl rfl (fun h => ?_) (fun h => ?_) | refine g_idxS T hC rfl rfl rfl (Int.natCast_nonneg _) (lst_at hc) rfl rfl ?_ | refine g_call hC (hK) rfl rfl (LeSs.refl _) rfl rfl rfl ?_
    dsimp only
    rw [w1, w2]
    refine g_loop (fun k : Nat => i + k ≤ s.size ∧ (((lst s).drop i).take k).all wB = true) (fun k => ([(0, Sr s), (3, .one (.bx 1003 0)), (5, .one (.ar 101)), (6, I ln), (7, I bg), (8, I i), (9, .one (.bx 1009 0)), (11, I (i + k : Nat))], [(1003, some (Res.box [.p (ki 0), .p (ki 0)])), (1009, some (Res.box [.p (ki ln), .p (ki ((i : Int) - bg + 1))])), (101, some (Res.arr 5 (out.map tokR)))])) (fun k => s.size - i - k) hC
      0 ⟨by omega, by simp⟩ id ⟨rfl, ⟨rfl, rfl, rfl, rfl, rfl, rfl, rfl, rfl, trivial⟩, ⟨rfl, rfl, rfl, trivial⟩, rfl, fun _ _ => rfl⟩ ?_
    rintro k ⟨hk, hall⟩
    have hwe : (∀ x, ((lst s).drop i)[k]? = some x → wB x = false) → 0 < k ∧ ((lst s).drop i).takeWhile wB = ((lst s).drop i).take k ∧ (((lst s).drop i).takeWhile wB).length = k := fun hx => by
      have htw := tw_end _ k hall hx
      refine ⟨?_, htw, ?_⟩
      · rcases Nat.eq_zero_or_pos k with rfl | h
        · have := hx c (by rw [List.getElem?_drop]; exact hc)
          rw [hw] at this; cases this
        · exact h
      · rw [htw, List.length_take, List.length_drop]; omega
    have hex : s.extract i (i + k) = strOf (((lst s).drop i).take k) := by rw [extract_str, show i + k - i = k by omega]
    have hlx : lst (s.extract ((i : Nat) : Int).toNat ((i + k : Nat) : Int).toNat) = ((lst s).drop i).take k := by rw [Int.toNat_natCast, Int.toNat_natCast, hex, lst_str]
    have hW := lexWord_ok (s.extract ((i : Nat) : Int).toNat ((i + k : Nat) : Int).toNat) (by rw [← lst_len, hlx, List.length_take]; omega)
    rw [hlx] at hW
    have hol : (out.map tokR).length = out.length := List.length_map _
    by_cases hend : ∃ x, (lst s)[i + k]? = some x ∧ wB x = true
    · obtain ⟨x, hx, hwx⟩ := hend
      have hxd : ((lst s).drop i)[k]? = some x := by rw [List.getElem?_drop]; exact hx
      have hxl := (List.getElem?_eq_some_iff.1 hx).1
      have hKx := class_ok x.toNat
      have hcx := wB_iff.1 hwx
      refine g_run' T hC true 200 rfl ?_
      repeat' first | refine g_go T hC true 400 rfl rfl ?_ | (exfalso; have h2 := of_decide_eq_false h; omega) | (exfalso; have h2 := of_decide_eq_true h; omega) | refine g_cond rfl (fun h => ?_) (fun h => ?_) | refine g_end T hC (by kernel_rfl) ?_ | refine g_splitD (fun h => ?_) (fun h => ?_) | refine g_splitG rfl rfl rfl (fun h => ?_) (fun h => ?_) | refine g_splitP rfl rfl (fun h => ?_) (fun h => ?_) | refine g_idxS T hC rfl rfl rfl (Int.natCast_nonneg _) (lst_at hx) rfl rfl ?_ | refine g_call hC (hKx) rfl rfl (LeSs.refl _) rfl rfl rfl ?_
      rw [wrapS (by omega)]
      exact g_round (k + 1) ⟨by omega, by rw [all_take hxd, hall, hwx]; rfl⟩ id (by omega) ⟨rfl, ⟨rfl, rfl, rfl, rfl, rfl, rfl, rfl, rfl, trivial⟩, ⟨rfl, rfl, rfl, trivial⟩, rfl, fun _ _ => rfl⟩
    · have hno : ∀ x, ((lst s).drop i)[k]? = some x → wB x = false := fun x hx => by
        rw [List.getElem?_drop] at hx
        cases hwx : wB x with
        | false => rfl
        | true => exact absurd ⟨x, hx, hwx⟩ hend
      obtain ⟨h0, htw, hlen⟩ := hwe hno
      have hend2 : s.size ≤ i + k ∨ ∃ x, (lst s)[i + k]? = some x ∧ ¬ 2 ≤ classS (x.toNat : Int) := by
        by_cases hz : s.size ≤ i + k
        · exact .inl hz
        · obtain ⟨x, hx⟩ := exists_at (l := lst s) (i := i + k) (by omega)
          refine .inr ⟨x, hx, fun e => ?_⟩
          have := hno x (by rw [List.getElem?_drop]; exact hx)
          rw [wB_iff.2 e] at this; cases this
      cases ht : clsT (((lst s).drop i).take k) with
      | none =>
        have hW2 := hW.2 ht
        have hbad := word_bad ((ln : Int), (i : Int) - bg + 1) out hc hbl h35 hw (by rw [htw]; exact ht)
        rw [hbad] at hL
        subst hL
        refine g_run' T hC true 200 rfl ?_
        rcases hend2 with hz | ⟨x, hx, hcx⟩
        · repeat' first | refine g_go T hC true 400 rfl rfl ?_ | (exfalso; have h2 := of_decide_eq_false h; omega) | (exfalso; have h2 := of_decide_eq_true h; omega) | refine g_cond rfl (fun h => ?_) (fun h => ?_) | refine g_end T hC (by kernel_rfl) ?_ | refine g_splitD (fun h => ?_) (fun h => ?_) | refine g_splitG rfl rfl rfl (fun h => ?_) (fun h => ?_) | refine g_splitP rfl rfl (fun h => ?_) (fun h => ?_) | refine g_outE ?_ | (refine g_slMid hC rfl rfl rfl (by kernel_rfl) (Int.natCast_nonneg _) (by omega) (by omega) rfl rfl ?_) | refine g_call hC (hW2) rfl rfl (LeSs.refl _) rfl rfl rfl ?_ | refine g_outR ?_
          exact g_fin ⟨.inl rfl, id, _, rfl, LeS.tup (.cons (LeS.one (.nil 5)) (.cons (.refl _) (.cons (.refl _) .nil))), trivial, rfl, rfl⟩
        · have hKx := class_ok x.toNat
          have hxl := (List.getElem?_eq_some_iff.1 hx).1
          repeat' first | refine g_go T hC true 400 rfl rfl ?_ | (exfalso; have h2 := of_decide_eq_false h; omega) | (exfalso; have h2 := of_decide_eq_true h; omega) | refine g_cond rfl (fun h => ?_) (fun h => ?_) | refine g_end T hC (by kernel_rfl) ?_ | refine g_splitD (fun h => ?_) (fun h => ?_) | refine g_splitG rfl rfl rfl (fun h => ?_) (fun h => ?_) | refine g_splitP rfl rfl (fun h => ?_) (fun h => ?_) | refine g_idxS T hC rfl rfl rfl (Int.natCast_nonneg _) (lst_at hx) rfl rfl ?_ | refine g_call hC (hKx) rfl rfl (LeSs.refl _) rfl rfl rfl ?_ | refine g_outE ?_ | (refine g_slMid hC rfl rfl rfl (by kernel_rfl) (Int.natCast_nonneg _) (by omega) (by omega) rfl rfl ?_) | refine g_call hC (hW2) rfl rfl (LeSs.refl _) rfl rfl rfl ?_ | refine g_outR ?_
          exact g_fin ⟨.inl rfl, id, _, rfl, LeS.tup (.cons (LeS.one (.nil 5)) (.cons (.refl _) (.cons (.refl _) .nil))), trivial, rfl, rfl⟩
      | some t =>
        have hW1 := hW.1 t ht
        have hgo := step_word ((ln : Int), (i : Int) - bg + 1) out hc hbl h35 hw (t := t) (by rw [htw]; exact ht)
        rw [hlen] at hgo
        rw [hgo] at hL
        have e : (i : Int) - bg + 1 + k = ((i + k : Nat) : Int) - bg + 1 := by omega
        simp only [e] at hL
        have happ : out.map tokR ++ [tokR (tokAt ((ln : Int), (i : Int) - bg + 1) t)] = (out ++ [tokAt ((ln : Int), (i : Int) - bg + 1) t]).map tokR := by rw [List.map_append]; rfl
        refine g_run' T hC true 200 rfl ?_
        rcases hend2 with hz | ⟨x, hx, hcx⟩
        · repeat' first | refine g_go T hC true 400 rfl rfl ?_ | (exfalso; have h2 := of_decide_eq_false h; omega) | (exfalso; have h2 := of_decide_eq_true h; omega) | refine g_cond rfl (fun h => ?_) (fun h => ?_) | refine g_end T hC (by kernel_rfl) ?_ | refine g_splitD (fun h => ?_) (fun h => ?_) | refine g_splitG rfl rfl rfl (fun h => ?_) (fun h => ?_) | refine g_splitP rfl rfl (fun h => ?_) (fun h => ?_) | refine g_outE ?_ | (refine g_slMid hC rfl rfl rfl (by kernel_rfl) (Int.natCast_nonneg _) (by omega) (by omega) rfl rfl ?_) | refine g_call hC (hW1) rfl rfl (LeSs.refl _) rfl rfl rfl ?_ | refine g_lit T hC rfl rfl rfl rfl rfl rfl rfl rfl rfl ?_ | (refine g_append T 102 hC (rows := out.map tokR) (rows2 := [tokR (tokAt ((ln : Int), (i : Int) - bg + 1) t)]) (rows3 := (out ++ [tokAt ((ln : Int), (i : Int) - bg + 1) t]).map tokR) (bytes := 48) rfl rfl rfl rfl (SrcS.sl (T.es_ok _ _ rfl)) happ rfl rfl rfl (by kernel_rfl) (by rw [hol, List.length_singleton]; omega) (by rw [hol, List.length_singleton]; omega) rfl rfl rfl ?_) | refine g_outR ?_
          exact g_round (i + k, ln, bg, out ++ [tokAt ((ln : Int), (i : Int) - bg + 1) t]) ⟨by simp only; omega, by simp only; omega, by simp only; omega, by simp only [List.length_append, List.length_singleton]; omega, hL⟩ (mvU 101 102) (by simp only; omega) ⟨rfl, ⟨rfl, rfl, rfl, rfl, rfl, rfl, trivial⟩, ⟨rfl, rfl, trivial⟩, rfl, fun i hi => mvU_low (by omega) hi⟩
        · have hKx := class_ok x.toNat
          have hxl := (List.getElem?_eq_some_iff.1 hx).1
          repeat' first | refine g_go T hC true 400 rfl rfl ?_ | (exfalso; have h2 := of_decide_eq_false h; omega) | (exfalso; have h2 := of_decide_eq_true h; omega) | refine g_cond rfl (fun h => ?_) (fun h => ?_) | refine g_end T hC (by kernel_rfl) ?_ | refine g_splitD (fun h => ?_) (fun h => ?_) | refine g_splitG rfl rfl rfl (fun h => ?_) (fun h => ?_) | refine g_splitP rfl rfl (fun h => ?_) (fun h => ?_) | refine g_idxS T hC rfl rfl rfl (Int.natCast_nonneg _) (lst_at hx) rfl rfl ?_ | refine g_call hC (hKx) rfl rfl (LeSs.refl _) rfl rfl rfl ?_ | refine g_outE ?_ | (refine g_slMid hC rfl rfl rfl (by kernel_rfl) (Int.natCast_nonneg _) (by omega) (by omega) rfl rfl ?_) | refine g_call hC (hW1) rfl rfl (LeSs.refl _) rfl rfl rfl ?_ | refine g_lit T hC rfl rfl rfl rfl rfl rfl rfl rfl rfl ?_ | (refine g_append T 102 hC (rows := out.map tokR) (rows2 := [tokR (tokAt ((ln : Int), (i : Int) - bg + 1) t)]) (rows3 := (out ++ [tokAt ((ln : Int), (i : Int) - bg + 1) t]).map tokR) (bytes := 48) rfl rfl rfl rfl (SrcS.sl (T.es_ok _ _ rfl)) happ rfl rfl rfl (by kernel_rfl) (by rw [hol, List.length_singleton]; omega) (by rw [hol, List.length_singleton]; omega) rfl rfl rfl ?_) | refine g_outR ?_
          exact g_round (i + k, ln, bg, out ++ [tokAt ((ln : Int), (i : Int) - bg + 1) t]) ⟨by simp only; omega, by simp only; omega, by simp only; omega, by simp only [List.length_append, List.length_singleton]; omega, hL⟩ (mvU 101 102) (by simp only; omega) ⟨rfl, ⟨rfl, rfl, rfl, rfl, rfl, rfl, trivial⟩, ⟨rfl, rfl, trivial⟩, rfl, fun i hi => mvU_low (by omega) hi⟩
  | false =>
    rw [hw] at hwd
    have hcw : ¬ 2 ≤ cv := fun e => by have := hwd.2 e; cases this
    repeat' first | refine g_go T hC true 400 rfl rfl ?_ | (exfalso; have h2 := of_decide_eq_false h; omega) | (exfalso; have h2 := of_decide_eq_true h; omega) | refine g_cond rfl (fun h => ?_) (fun h => ?_) | refine g_end T hC (by kernel_rfl) ?_ | refine g_splitD (fun h => ?_) (fun h => ?_) | refine g_splitG rfl rfl rfl (fun h => ?_) (fun h => ?_) | refine g_splitP rfl rfl (fun h => ?_) (fun h => ?_) | refine g_idxS T hC rfl rfl rfl (Int.natCast_nonneg _) (lst_at hc) rfl rfl ?_ | refine g_call hC (hK) rfl rfl (LeSs.refl _) rfl rfl rfl ?_
    dsimp only
    rw [w1, w2]
    have hsx : lst (s.extract ((i : Nat) : Int).toNat s.size) = (lst s).drop i := by rw [Int.toNat_natCast, extract_str, lst_str, List.take_of_length_le (by rw [List.length_drop]; omega)]
    have hS := symbol_ok (s.extract ((i : Nat) : Int).toNat s.size)
    rw [hsx] at hS
    have hol : (out.map tokR).length = out.length := List.length_map _
    cases hy : symL ((lst s).drop i) with
    | none =>
      rw [hy] at hS
      have hbad := sym_bad ((ln : Int), (i : Int) - bg + 1) out hc hbl h35 hw hy
      rw [hbad] at hL
      subst hL
      repeat' first | refine g_go T hC true 400 rfl rfl ?_ | (exfalso; exact absurd h (by decide)) | refine g_cond rfl (fun h => ?_) (fun h => ?_) | refine g_end T hC (by kernel_rfl) ?_ | refine g_splitD (fun h => ?_) (fun h => ?_) | refine g_splitG rfl rfl rfl (fun h => ?_) (fun h => ?_) | refine g_splitP rfl rfl (fun h => ?_) (fun h => ?_) | (refine g_slFrom hC rfl rfl (by kernel_rfl) (Int.natCast_nonneg _) (by omega) rfl rfl ?_) | refine g_call hC (hS) rfl rfl (LeSs.refl _) rfl rfl rfl ?_ | refine g_outR ?_
      exact g_fin ⟨.inl rfl, id, _, rfl, LeS.tup (.cons (LeS.one (.nil 5)) (.cons (.refl _) (.cons (.refl _) .nil))), trivial, rfl, rfl⟩
    | some y =>
      rw [hy] at hS
      have hys := sym_of hy
      have hyz := syms_size y hys.1
      have hyl := isPrefix_len hys.2
      rw [lst_len, List.length_drop] at hyl
      have hyne : y ≠ ⟨#[]⟩ := fun e => by subst e; exact absurd hyz.1 (by decide)
      have hgo := step_sym ((ln : Int), (i : Int) - bg + 1) out hc hbl h35 hw hy
      rw [hgo] at hL
      have e : (i : Int) - bg + 1 + (y.size : Int) = ((i + y.size : Nat) : Int) - bg + 1 := by omega
      simp only [e] at hL
      have happ : out.map tokR ++ [tokR (tokAt ((ln : Int), (i : Int) - bg + 1) (4, y, 0))] = (out ++ [tokAt ((ln : Int), (i : Int) - bg + 1) (4, y, 0)]).map tokR := by rw [List.map_append]; rfl
      repeat' first | refine g_go T hC true 400 rfl rfl ?_ | (exfalso; exact hyne (of_decide_eq_true h)) | refine g_cond rfl (fun h => ?_) (fun h => ?_) | refine g_end T hC (by kernel_rfl) ?_ | refine g_splitD (fun h => ?_) (fun h => ?_) | refine g_splitG rfl rfl rfl (fun h => ?_) (fun h => ?_) | refine g_splitP rfl rfl (fun h => ?_) (fun h => ?_) | (refine g_slFrom hC rfl rfl (by kernel_rfl) (Int.natCast_nonneg _) (by omega) rfl rfl ?_) | refine g_call hC (hS) rfl rfl (LeSs.refl _) rfl rfl rfl ?_ | refine g_lit T hC rfl rfl rfl rfl rfl rfl rfl rfl rfl ?_ | (refine g_append T 102 hC (rows := out.map tokR) (rows2 := [tokR (tokAt ((ln : Int), (i : Int) - bg + 1) (4, y, 0))]) (rows3 := (out ++ [tokAt ((ln : Int), (i : Int) - bg + 1) (4, y, 0)]).map tokR) (bytes := 48) rfl rfl rfl rfl (SrcS.sl (T.es_ok _ _ rfl)) happ rfl rfl rfl (by kernel_rfl) (by rw [hol, List.length_singleton]; omega) (by rw [hol, List.length_singleton]; omega) rfl rfl rfl ?_) | refine g_outR ?_
      show Goal _ _ _ _ _ ((8, Kk IntKind.i64 (IntKind.i64.wrap ((i : Int) + (y.size : Int)))) :: _) _ _
      rw [show IntKind.i64.wrap ((i : Int) + (y.size : Int)) = ((i + y.size : Nat) : Int) from by rw [wrap64 (by omega)]; omega]
      exact g_round (i + y.size, ln, bg, out ++ [tokAt ((ln : Int), (i : Int) - bg + 1) (4, y, 0)]) ⟨by simp only; omega, by simp only; omega, by simp only; omega, by simp only [List.length_append, List.length_singleton]; omega, hL⟩ (mvU 101 102) (by simp only; omega) ⟨rfl, ⟨rfl, rfl, rfl, rfl, rfl, rfl, trivial⟩, ⟨rfl, rfl, trivial⟩, rfl, fun i hi => mvU_low (by omega) hi⟩
end Hw.Pa
