/- The engine and the contracts. -/
import Derived.Test.YtkamoncpfogmaaaGreatDoorC6
import Derived.Test.YtkamoncpfogmaaaGreatDoorC5
import Derived.Test.YtkamoncpfogmaaaGreatDoorC2
set_option linter.unusedVariables false
set_option linter.unusedSimpArgs false
namespace Hw.Pa
open Go Go.Proofs Hw.M

def dA (a : Nat) (d : Desc) : RL := [(a, .arr 2 (d.types.map nodeTR)), (a + 1, .arr 2 (d.globals.map fieldR)), (a + 2, .arr 5 (d.procs.map procR)), (a + 3, .arr 7 (d.measures.map measureR)), (a + 4, .arr 6 (d.invs.map invR)), (a + 5, .arr 5 (d.pots.map potR)), (a + 6, .arr 5 (d.bounds.map boundR))]
abbrev dV (a : Nat) (d : Desc) : S := .agg [.p (ks d.n), .ar a, .ar (a + 1), .ar (a + 2), .ar (a + 3), .ar (a + 4), .ar (a + 5), .ar (a + 6)]
def RI (l : List Tok) (i : Nat) (d : Desc) (r : PA Desc) : Prop :=
  ∀ (b : Bool) (x : Desc) (j : Nat), r = pab x j b → ∃ y, (b = true → y = x) ∧ FnOK Tryz.prog 83 [pS (toksP l), I (i : Nat), dV 0 d] (dA 0 d) (.tup [dV 7 y, I (j : Nat), Bo b]) (dA 7 y)
section
variable {l : List Tok} (hl : GoodL l)
include hl
end
end Hw.Pa
namespace Hw.Pa
open Go Go.Proofs Hw.M

open Classical in
noncomputable def itemZ (l : List Tok) (i j : Nat) (d : Desc) : Desc :=
  if h : ∃ y, FnOK Tryz.prog 83 [pS (toksP l), I (i : Nat), dV 0 d] (dA 0 d) (.tup [dV 7 y, I (j : Nat), Bo false]) (dA 7 y) then h.choose else d
noncomputable def itemsZ (l : List Tok) (f : Nat) : Nat → Nat → Desc → Desc
  | 0, _, d => d
  | g + 1, i, d => match itemA l f i d with
    | .ok d2 k => itemsZ l f g k d2
    | .no j => itemZ l i j d
    | .out => d
section
variable {l : List Tok} (hl : GoodL l)
include hl
end
end Hw.Pa
namespace Hw.Pa
open Go Go.Proofs Hw.M

def sameF (a b : Fld) : Bool := decide (a.n = b.n) && decide (a.t = b.t)
theorem sameF_refl (a : Fld) : sameF a a = true := by unfold sameF; rw [decide_eq_true rfl, decide_eq_true rfl]; rfl
theorem rsameFields_ok (a b : List Fld) : FnOK Tryz.prog 42 [pS (fieldsP a), pS (fieldsP b)] [] (.bq (eqL sameF a b)) [] := by
  refine fn_ok T Tryz.func42 (by kernel_rfl) rfl rfl rfl rfl fun C hC => ?_
  refine g_len 0 rfl fun hlen => ?_
  rw [List.length_map] at hlen
  repeat' first | refine g_go T hC true 400 rfl rfl ?_ | refine g_cond rfl (fun h => ?_) (fun h => ?_) | refine g_end T hC (by kernel_rfl) ?_ | refine g_splitD (fun h => ?_) (fun h => ?_) | refine g_retl T (.inl rfl) rfl ?_
  all_goals (try simp only [List.length_map] at *)
  · have : ¬ (a.length : Int) = (b.length : Int) := by simpa using h
    exact (eqL_len fun e => this (by rw [e])).symm
  · have hab : a.length = b.length := by have : (a.length : Int) = (b.length : Int) := by simpa using h
                                         omega
    refine g_loop (fun i : Nat => i ≤ a.length ∧ eqL sameF (a.drop i) (b.drop i) = eqL sameF a b) (fun i => ([(0, pS (fieldsP a)), (1, pS (fieldsP b)), (5, I i)], [])) (fun i => a.length - i) hC
      0 ⟨Nat.zero_le _, rfl⟩ id ⟨rfl, ⟨rfl, rfl, rfl, trivial⟩, trivial, rfl, fun _ _ => rfl⟩ ?_
    rintro i ⟨hi, hn⟩
    refine g_run' T hC true 200 rfl ?_
    refine g_cond rfl (fun h => ?_) (fun h => ?_)
    · have hlt : i < a.length := by have := of_decide_eq_true h; simp only [List.length_map] at this; omega
      clear h
      obtain ⟨x, hx⟩ := exists_at hlt
      obtain ⟨y, hy⟩ := exists_at (hab ▸ hlt)
      rw [drop_at hx, drop_at hy, eqL] at hn
      repeat' first | refine g_go T hC true 400 rfl rfl ?_ | refine g_cond rfl (fun h => ?_) (fun h => ?_) | refine g_end T hC (by kernel_rfl) ?_ | refine g_splitD (fun h => ?_) (fun h => ?_) | refine g_idx T hC rfl rfl rfl (Int.natCast_nonneg _) (map_at hx) rfl rfl ?_ | refine g_idx T hC rfl rfl rfl (Int.natCast_nonneg _) (map_at hy) rfl rfl ?_ | (refine g_neqSS (a := x.n) (b := x.t) (a' := y.n) (b' := y.t) hC rfl rfl (by kernel_rfl) rfl rfl ?_) | refine g_outR ?_ | refine g_retl T (.inl rfl) rfl ?_
      · have hxy : sameF x y = false := by have h' := h; rw [Bool.not_eq_true'] at h'; exact h'
        rw [hxy] at hn; exact hn
      · have hxy : sameF x y = true := by have h' := h; rw [Bool.not_eq_false'] at h'; exact h'
        rw [hxy, Bool.true_and] at hn
        rw [wrap64 (by omega)]
        exact g_round (i + 1) ⟨by omega, hn⟩ id (by omega) ⟨rfl, ⟨rfl, rfl, rfl, trivial⟩, trivial, rfl, fun _ _ => rfl⟩
    · have hge : ¬ i < a.length := by have := of_decide_eq_false h; simp only [List.length_map] at this; omega
      repeat' first | refine g_go T hC true 400 rfl rfl ?_ | refine g_cond rfl (fun h => ?_) (fun h => ?_) | refine g_end T hC (by kernel_rfl) ?_ | refine g_splitD (fun h => ?_) (fun h => ?_) | refine g_outE ?_ | refine g_retl T (.inl rfl) rfl ?_
      rw [List.drop_eq_nil_of_le (by omega), List.drop_eq_nil_of_le (by omega)] at hn
      exact hn

mutual
def sameS : Sm → Sm → Bool
  | .mk o s e l els, .mk o' s' e' l' els' => decide (o = o') && decide (s = s') && eqL sameE e e' && sameSs l l' && sameSs els els'
def sameSs : List Sm → List Sm → Bool
  | [], [] => true
  | x :: a, y :: b => sameS x y && sameSs a b
  | [], _ :: _ => false
  | _ :: _, [] => false
end
theorem sameSs_eq : ∀ a b : List Sm, sameSs a b = eqL sameS a b
  | [], [] => by simp only [sameSs, eqL]
  | x :: a, y :: b => by simp only [sameSs, eqL, sameSs_eq a b]
  | [], _ :: _ => by simp only [sameSs, eqL]
  | _ :: _, [] => by simp only [sameSs, eqL]
theorem sameS_eq (a b : Sm) : sameS a b = (decide (a.op = b.op) && decide (a.s = b.s) && eqL sameE a.e b.e && eqL sameS a.l b.l && eqL sameS a.els b.els) := by
  cases a; cases b; simp only [sameS, sameSs_eq, Sm.op, Sm.s, Sm.e, Sm.l, Sm.els]; rfl
theorem sm_sub (a : Sm) : sizeOf a.l < sizeOf a ∧ sizeOf a.els < sizeOf a := by
  cases a; simp only [Sm.l, Sm.els, Sm.mk.sizeOf_spec]; omega
theorem sameS_refl : ∀ (k : Nat) (a : Sm), sizeOf a < k → sameS a a = true := by
  intro k
  induction k with
  | zero => intro a h; omega
  | succ k ih =>
    intro a h
    have hs := sm_sub a
    rw [sameS_eq, decide_eq_true rfl, decide_eq_true rfl, eqL_refl fun x _ => sameE_refl (SizeOf.sizeOf x + 1) x (by omega), eqL_refl fun x hx => ih x (by have := List.sizeOf_lt_of_mem hx; omega), eqL_refl fun x hx => ih x (by have := List.sizeOf_lt_of_mem hx; omega)]
    rfl
end Hw.Pa
namespace Hw.Pa
open Go Go.Proofs Hw.M

def sameNT (a b : NodeT) : Bool := decide (a.n = b.n) && eqL sameF a.f b.f
def sameP (a b : Pr) : Bool := decide (a.n = b.n) && decide (a.res = b.res) && eqL sameF a.params b.params && eqL sameF a.locs b.locs && eqL sameS a.body b.body
def sameM (a b : Ms) : Bool := decide (a.n = b.n) && decide (a.t = b.t) && decide (a.z = b.z) && sameE a.x b.x
def sameI (a b : Iv) : Bool := decide (a.n = b.n) && decide (a.t = b.t) && sameE a.x b.x
def sameO (a b : Pt) : Bool := decide (a.t = b.t) && sameE a.x b.x
def sameB (a b : Bd) : Bool := decide (a.p = b.p) && sameE a.x b.x
def sameD (a b : Desc) : Bool := decide (a.n = b.n) && eqL sameF a.globals b.globals && eqL sameNT a.types b.types && eqL sameP a.procs b.procs && eqL sameM a.measures b.measures && eqL sameI a.invs b.invs && eqL sameO a.pots b.pots && eqL sameB a.bounds b.bounds
end Hw.Pa
namespace Hw.Pa
open Go Go.Proofs Hw.M

theorem rsameStmts_ok : ∀ (N : Nat) (a b : List Sm), SizeOf.sizeOf a < N → FnOK Tryz.prog 44 [pS (stmtsP a), pS (stmtsP b)] [] (.bq (eqL sameS a b)) [] := by
  intro N
  induction N with
  | zero => intro a b h; omega
  | succ N ih =>
  intro a b hN
  refine fn_ok T Tryz.func44 (by kernel_rfl) rfl rfl rfl rfl fun C hC => ?_
  refine g_len 0 rfl fun hlen => ?_
  rw [List.length_map] at hlen
  repeat' first | refine g_go T hC true 400 rfl rfl ?_ | refine g_cond rfl (fun h => ?_) (fun h => ?_) | refine g_end T hC (by kernel_rfl) ?_ | refine g_splitD (fun h => ?_) (fun h => ?_) | refine g_retl T (.inl rfl) rfl ?_
  all_goals (try simp only [List.length_map] at *)
  · have : ¬ (a.length : Int) = (b.length : Int) := by simpa using h
    exact (eqL_len fun e => this (by rw [e])).symm
  · have hab : a.length = b.length := by have : (a.length : Int) = (b.length : Int) := by simpa using h
                                         omega
    clear h
    refine g_loop (fun i : Nat => i ≤ a.length ∧ eqL sameS (a.drop i) (b.drop i) = eqL sameS a b) (fun i => ([(0, pS (stmtsP a)), (1, pS (stmtsP b)), (5, I i)], [])) (fun i => a.length - i) hC
      0 ⟨Nat.zero_le _, rfl⟩ id ⟨rfl, ⟨rfl, rfl, rfl, trivial⟩, trivial, rfl, fun _ _ => rfl⟩ ?_
    rintro i ⟨hi, hn⟩
    refine g_run' T hC true 200 rfl ?_
    refine g_cond rfl (fun h => ?_) (fun h => ?_)
    · have hlt : i < a.length := by have := of_decide_eq_true h; simp only [List.length_map] at this; omega
      clear h
      obtain ⟨x, hx⟩ := exists_at hlt
      obtain ⟨y, hy⟩ := exists_at (hab ▸ hlt)
      have hxs := List.sizeOf_lt_of_mem (List.mem_of_getElem? hx)
      have hsub := sm_sub x
      have hL := ih x.l y.l (by omega)
      have hS := ih x.els y.els (by omega)
      have hE := fun (u : Ex) (v : Ex) => rsameExpr_ok (SizeOf.sizeOf u + 1) u v (by omega)
      rw [drop_at hx, drop_at hy, eqL, sameS_eq] at hn
      generalize eqL sameS x.l y.l = q2 at hL hn
      generalize eqL sameS x.els y.els = q3 at hS hn
      repeat' first | refine g_go T hC true 400 rfl rfl ?_ | refine g_cond rfl (fun h => ?_) (fun h => ?_) | refine g_end T hC (by kernel_rfl) ?_ | refine g_splitD (fun h => ?_) (fun h => ?_) | refine g_idx T hC rfl rfl rfl (Int.natCast_nonneg _) (map_atS hx) rfl rfl ?_ | refine g_idx T hC rfl rfl rfl (Int.natCast_nonneg _) (map_atS hy) rfl rfl ?_ | refine g_call hC (hL) rfl rfl (LeSs.refl _) rfl rfl rfl ?_ | refine g_call hC (hS) rfl rfl (LeSs.refl _) rfl rfl rfl ?_ | refine g_outR ?_ | refine g_retl T (.inl rfl) rfl ?_
      all_goals (try simp only [List.length_map] at *)
      all_goals first
        | (rw [← hn]; clear ih hE hL hS hn; simp_all; done)
        | (rw [← hn, eqL_len (a := x.e) (b := y.e) (fun e => by simp [e] at h)]; simp; done)
        | skip
      have hy9 : (decide (x.op = y.op) && decide (x.s = y.s) && q2 && q3) = true ∧ (x.e.length : Int) = y.e.length := by
        clear ih hE hL hS hn; simp_all
      have hel : x.e.length = y.e.length := by have := hy9.2; omega
      have hn2 : (eqL sameE x.e y.e && eqL sameS (a.drop (i + 1)) (b.drop (i + 1))) = eqL sameS a b := by
        rw [← hn]
        have h9 := hy9.1
        simp only [Bool.and_eq_true] at h9
        rw [h9.1.1.1, h9.1.1.2, h9.1.2, h9.2]
        simp
      clear hn hy9
      refine g_len 47 rfl fun hlen2 => ?_
      rw [List.length_map] at hlen2
      refine g_loop (fun j : Nat => j ≤ x.e.length ∧ eqL sameE (x.e.drop j) (y.e.drop j) = eqL sameE x.e y.e) (fun j => ([(0, pS (stmtsP a)), (1, pS (stmtsP b)), (5, I i), (6, I j)], [])) (fun j => x.e.length - j) hC
        0 ⟨Nat.zero_le _, rfl⟩ id ⟨rfl, ⟨rfl, rfl, rfl, rfl, trivial⟩, trivial, rfl, fun _ _ => rfl⟩ ?_
      rintro j ⟨hj, hm⟩
      repeat' first | refine g_go T hC true 400 rfl rfl ?_ | refine g_cond rfl (fun h => ?_) (fun h => ?_) | refine g_end T hC (by kernel_rfl) ?_ | refine g_splitD (fun h => ?_) (fun h => ?_) | refine g_idx T hC rfl rfl rfl (Int.natCast_nonneg _) (map_atS hx) rfl rfl ?_ | refine g_idx T hC rfl rfl rfl (Int.natCast_nonneg _) (map_atS hy) rfl rfl ?_
      · have hjl : j < x.e.length := by have := of_decide_eq_true h; simp only [List.length_map] at this; omega
        obtain ⟨u, hu⟩ := exists_at hjl
        obtain ⟨v, hv⟩ := exists_at (hel ▸ hjl)
        have hEE := hE u v
        rw [drop_at hu, drop_at hv, eqL] at hm
        repeat' first | refine g_go T hC true 400 rfl rfl ?_ | refine g_cond rfl (fun h => ?_) (fun h => ?_) | refine g_end T hC (by kernel_rfl) ?_ | refine g_splitD (fun h => ?_) (fun h => ?_) | refine g_idx T hC rfl rfl rfl (Int.natCast_nonneg _) (map_atS hx) rfl rfl ?_ | refine g_idx T hC rfl rfl rfl (Int.natCast_nonneg _) (map_atS hy) rfl rfl ?_ | refine g_idx T hC rfl rfl rfl (Int.natCast_nonneg _) (map_atE hu) rfl rfl ?_ | refine g_idx T hC rfl rfl rfl (Int.natCast_nonneg _) (map_atE hv) rfl rfl ?_ | refine g_call hC (hEE) rfl rfl (LeSs.refl _) rfl rfl rfl ?_ | refine g_outR ?_ | refine g_retl T (.inl rfl) rfl ?_
        · have huv : sameE u v = false := by simpa using h
          rw [huv] at hm
          rw [← hn2, ← hm]; rfl
        · have huv : sameE u v = true := by simpa using h
          rw [huv, Bool.true_and] at hm
          rw [wrap64 (by omega)]
          exact g_round (j + 1) ⟨by omega, hm⟩ id (by omega) ⟨rfl, ⟨rfl, rfl, rfl, rfl, trivial⟩, trivial, rfl, fun _ _ => rfl⟩
      · have hge : ¬ j < x.e.length := by have := of_decide_eq_false h; simp only [List.length_map] at this; omega
        rw [List.drop_eq_nil_of_le (by omega), List.drop_eq_nil_of_le (by omega)] at hm
        rw [← hm, eqL, Bool.true_and] at hn2
        repeat' first | refine g_go T hC true 400 rfl rfl ?_ | refine g_cond rfl (fun h => ?_) (fun h => ?_) | refine g_end T hC (by kernel_rfl) ?_ | refine g_splitD (fun h => ?_) (fun h => ?_) | refine g_outE ?_
        rw [wrap64 (by omega)]
        exact g_round (i + 1) ⟨by omega, hn2⟩ id (by omega) ⟨rfl, ⟨rfl, rfl, rfl, trivial⟩, trivial, rfl, fun _ _ => rfl⟩
    · have hge : ¬ i < a.length := by have := of_decide_eq_false h; simp only [List.length_map] at this; omega
      repeat' first | refine g_go T hC true 400 rfl rfl ?_ | refine g_cond rfl (fun h => ?_) (fun h => ?_) | refine g_end T hC (by kernel_rfl) ?_ | refine g_splitD (fun h => ?_) (fun h => ?_) | refine g_outE ?_ | refine g_retl T (.inl rfl) rfl ?_
      rw [List.drop_eq_nil_of_le (by omega), List.drop_eq_nil_of_le (by omega)] at hn
      exact hn
end Hw.Pa
namespace Hw.Pa
open Go Go.Proofs Hw.M

def sameFm (a b : Desc) : Bool := eqL sameM a.measures b.measures && eqL sameI a.invs b.invs && eqL sameO a.pots b.pots && eqL sameB a.bounds b.bounds
theorem sameFormulas_ok (a b : Desc) : FnOK Tryz.prog 43 [aggS (descR a), aggS (descR b)] [] (.bq (sameFm a b)) [] := by
  have hno4 : eqL sameM a.measures b.measures = false → sameFm a b = false := fun h => by unfold sameFm; rw [h]; rfl
  have hno5 : eqL sameI a.invs b.invs = false → sameFm a b = false := fun h => by unfold sameFm; rw [h]; simp
  have hno6 : eqL sameO a.pots b.pots = false → sameFm a b = false := fun h => by unfold sameFm; rw [h]; simp
  have hno7 : eqL sameB a.bounds b.bounds = false → sameFm a b = false := fun h => by unfold sameFm; rw [h]; simp
  have hE := fun (u : Ex) (v : Ex) => rsameExpr_ok (SizeOf.sizeOf u + 1) u v (by omega)
  refine fn_ok T Tryz.func43 (by kernel_rfl) rfl rfl rfl rfl fun C hC => ?_
  refine g_lenA rfl 0 4 rfl rfl fun l4 => ?_
  refine g_lenA rfl 0 5 rfl rfl fun l5 => ?_
  refine g_lenA rfl 0 6 rfl rfl fun l6 => ?_
  refine g_lenA rfl 0 7 rfl rfl fun l7 => ?_
  rw [List.length_map] at l4 l5 l6 l7
  repeat' first | refine g_go T hC true 400 rfl rfl ?_ | refine g_cond rfl (fun h => ?_) (fun h => ?_) | refine g_end T hC (by kernel_rfl) ?_ | refine g_splitD (fun h => ?_) (fun h => ?_) | refine g_splitG rfl rfl rfl (fun h => ?_) (fun h => ?_) | refine g_splitP rfl rfl (fun h => ?_) (fun h => ?_) | refine g_retl T (.inl rfl) rfl ?_
  all_goals (try simp only [List.length_map] at *)
  all_goals first
    | (refine (hno4 (eqL_len fun e => ?_)).symm; simp [e] at h; done)
    | (refine (hno5 (eqL_len fun e => ?_)).symm; simp [e] at h; done)
    | (refine (hno6 (eqL_len fun e => ?_)).symm; simp [e] at h; done)
    | (refine (hno7 (eqL_len fun e => ?_)).symm; simp [e] at h; done)
    | skip
  have he : a.measures.length = b.measures.length ∧ a.invs.length = b.invs.length ∧ a.pots.length = b.pots.length ∧ a.bounds.length = b.bounds.length := by
    clear hno4 hno5 hno6 hno7 hE
    simp only [Bool.not_eq_false', decide_eq_true_eq] at *
    omega
  obtain ⟨he4, he5, he6, he7⟩ := he
  clear h
  refine g_loop (fun i : Nat => i ≤ a.measures.length ∧ eqL sameM (a.measures.drop i) (b.measures.drop i) = eqL sameM a.measures b.measures) (fun i => ([(2, .one (.bx 1002 0)), (3, .one (.bx 1003 0)), (5, I i)], [(1002, some (.box ((descR a).map V.p))), (1003, some (.box ((descR b).map V.p)))])) (fun i => a.measures.length - i) hC
    0 ⟨Nat.zero_le _, rfl⟩ id ⟨rfl, ⟨rfl, rfl, rfl, trivial⟩, ⟨rfl, rfl, trivial⟩, rfl, fun _ _ => rfl⟩ ?_
  rintro i ⟨hi, hn⟩
  refine g_run' T hC true 200 rfl ?_
  refine g_cond rfl (fun h => ?_) (fun h => ?_)
  · have hlt : i < a.measures.length := by have := of_decide_eq_true h; simp only [List.length_map] at this; omega
    clear h
    obtain ⟨x, hx⟩ := exists_at hlt
    obtain ⟨y, hy⟩ := exists_at (l := b.measures) (i := i) (by omega)
    rw [drop_at hx, drop_at hy, eqL] at hn
    have hX := hE x.x y.x
    repeat' first | refine g_go T hC true 400 rfl rfl ?_ | refine g_cond rfl (fun h => ?_) (fun h => ?_) | refine g_end T hC (by kernel_rfl) ?_ | refine g_splitD (fun h => ?_) (fun h => ?_) | refine g_splitG rfl rfl rfl (fun h => ?_) (fun h => ?_) | refine g_splitP rfl rfl (fun h => ?_) (fun h => ?_) | refine g_idx T hC rfl rfl rfl (Int.natCast_nonneg _) (map_at hx) rfl rfl ?_ | refine g_idx T hC rfl rfl rfl (Int.natCast_nonneg _) (map_at hy) rfl rfl ?_ | refine g_call hC (hX) rfl rfl (LeSs.refl _) rfl rfl rfl ?_ | refine g_outR ?_ | refine g_retl T (.inl rfl) rfl ?_
    all_goals (try simp only [List.length_map] at *)
    all_goals first
      | (refine (hno4 ?_).symm
         rw [← hn, show sameM x y = false by unfold sameM; clear hn hx hy hno4 hno5 hno6 hno7 hE hX; simp_all]
         rfl)
      | (have hxy : sameM x y = true := by unfold sameM; clear hn hx hy hno4 hno5 hno6 hno7 hE hX; simp_all
         rw [hxy, Bool.true_and] at hn
         rw [wrap64 (by omega)]
         exact g_round (i + 1) ⟨by omega, hn⟩ id (by omega) ⟨rfl, ⟨rfl, rfl, rfl, trivial⟩, ⟨rfl, rfl, trivial⟩, rfl, fun _ _ => rfl⟩)
  have hge : ¬ i < a.measures.length := by have := of_decide_eq_false h; simp only [List.length_map] at this; omega
  rw [List.drop_eq_nil_of_le (by omega), List.drop_eq_nil_of_le (by omega)] at hn
  have hk4 : eqL sameM a.measures b.measures = true := hn.symm
  clear h hge hn hi
  repeat' first | refine g_go T hC true 400 rfl rfl ?_ | refine g_cond rfl (fun h => ?_) (fun h => ?_) | refine g_end T hC (by kernel_rfl) ?_ | refine g_splitD (fun h => ?_) (fun h => ?_) | refine g_splitG rfl rfl rfl (fun h => ?_) (fun h => ?_) | refine g_splitP rfl rfl (fun h => ?_) (fun h => ?_) | refine g_outE ?_
  refine g_loop (fun i : Nat => i ≤ a.invs.length ∧ eqL sameI (a.invs.drop i) (b.invs.drop i) = eqL sameI a.invs b.invs) (fun i => ([(2, .one (.bx 1002 0)), (3, .one (.bx 1003 0)), (8, I i)], [(1002, some (.box ((descR a).map V.p))), (1003, some (.box ((descR b).map V.p)))])) (fun i => a.invs.length - i) hC
    0 ⟨Nat.zero_le _, rfl⟩ id ⟨rfl, ⟨rfl, rfl, rfl, trivial⟩, ⟨rfl, rfl, trivial⟩, rfl, fun _ _ => rfl⟩ ?_
  rintro i ⟨hi, hn⟩
  refine g_run' T hC true 200 rfl ?_
  refine g_cond rfl (fun h => ?_) (fun h => ?_)
  · have hlt : i < a.invs.length := by have := of_decide_eq_true h; simp only [List.length_map] at this; omega
    clear h
    obtain ⟨x, hx⟩ := exists_at hlt
    obtain ⟨y, hy⟩ := exists_at (l := b.invs) (i := i) (by omega)
    rw [drop_at hx, drop_at hy, eqL] at hn
    have hX := hE x.x y.x
    repeat' first | refine g_go T hC true 400 rfl rfl ?_ | refine g_cond rfl (fun h => ?_) (fun h => ?_) | refine g_end T hC (by kernel_rfl) ?_ | refine g_splitD (fun h => ?_) (fun h => ?_) | refine g_splitG rfl rfl rfl (fun h => ?_) (fun h => ?_) | refine g_splitP rfl rfl (fun h => ?_) (fun h => ?_) | refine g_idx T hC rfl rfl rfl (Int.natCast_nonneg _) (map_at hx) rfl rfl ?_ | refine g_idx T hC rfl rfl rfl (Int.natCast_nonneg _) (map_at hy) rfl rfl ?_ | refine g_call hC (hX) rfl rfl (LeSs.refl _) rfl rfl rfl ?_ | refine g_outR ?_ | refine g_retl T (.inl rfl) rfl ?_
    all_goals (try simp only [List.length_map] at *)
    all_goals first
      | (refine (hno5 ?_).symm
         rw [← hn, show sameI x y = false by unfold sameI; clear hn hx hy hno4 hno5 hno6 hno7 hE hX; simp_all]
         rfl)
      | (have hxy : sameI x y = true := by unfold sameI; clear hn hx hy hno4 hno5 hno6 hno7 hE hX; simp_all
         rw [hxy, Bool.true_and] at hn
         rw [wrap64 (by omega)]
         exact g_round (i + 1) ⟨by omega, hn⟩ id (by omega) ⟨rfl, ⟨rfl, rfl, rfl, trivial⟩, ⟨rfl, rfl, trivial⟩, rfl, fun _ _ => rfl⟩)
  have hge : ¬ i < a.invs.length := by have := of_decide_eq_false h; simp only [List.length_map] at this; omega
  rw [List.drop_eq_nil_of_le (by omega), List.drop_eq_nil_of_le (by omega)] at hn
  have hk5 : eqL sameI a.invs b.invs = true := hn.symm
  clear h hge hn hi
  repeat' first | refine g_go T hC true 400 rfl rfl ?_ | refine g_cond rfl (fun h => ?_) (fun h => ?_) | refine g_end T hC (by kernel_rfl) ?_ | refine g_splitD (fun h => ?_) (fun h => ?_) | refine g_splitG rfl rfl rfl (fun h => ?_) (fun h => ?_) | refine g_splitP rfl rfl (fun h => ?_) (fun h => ?_) | refine g_outE ?_
  refine g_loop (fun i : Nat => i ≤ a.pots.length ∧ eqL sameO (a.pots.drop i) (b.pots.drop i) = eqL sameO a.pots b.pots) (fun i => ([(2, .one (.bx 1002 0)), (3, .one (.bx 1003 0)), (11, I i)], [(1002, some (.box ((descR a).map V.p))), (1003, some (.box ((descR b).map V.p)))])) (fun i => a.pots.length - i) hC
    0 ⟨Nat.zero_le _, rfl⟩ id ⟨rfl, ⟨rfl, rfl, rfl, trivial⟩, ⟨rfl, rfl, trivial⟩, rfl, fun _ _ => rfl⟩ ?_
  rintro i ⟨hi, hn⟩
  refine g_run' T hC true 200 rfl ?_
  refine g_cond rfl (fun h => ?_) (fun h => ?_)
  · have hlt : i < a.pots.length := by have := of_decide_eq_true h; simp only [List.length_map] at this; omega
    clear h
    obtain ⟨x, hx⟩ := exists_at hlt
    obtain ⟨y, hy⟩ := exists_at (l := b.pots) (i := i) (by omega)
    rw [drop_at hx, drop_at hy, eqL] at hn
    have hX := hE x.x y.x
    repeat' first | refine g_go T hC true 400 rfl rfl ?_ | refine g_cond rfl (fun h => ?_) (fun h => ?_) | refine g_end T hC (by kernel_rfl) ?_ | refine g_splitD (fun h => ?_) (fun h => ?_) | refine g_splitG rfl rfl rfl (fun h => ?_) (fun h => ?_) | refine g_splitP rfl rfl (fun h => ?_) (fun h => ?_) | refine g_idx T hC rfl rfl rfl (Int.natCast_nonneg _) (map_at hx) rfl rfl ?_ | refine g_idx T hC rfl rfl rfl (Int.natCast_nonneg _) (map_at hy) rfl rfl ?_ | refine g_call hC (hX) rfl rfl (LeSs.refl _) rfl rfl rfl ?_ | refine g_outR ?_ | refine g_retl T (.inl rfl) rfl ?_
    all_goals (try simp only [List.length_map] at *)
    all_goals first
      | (refine (hno6 ?_).symm
         rw [← hn, show sameO x y = false by unfold sameO; clear hn hx hy hno4 hno5 hno6 hno7 hE hX; simp_all]
         rfl)
      | (have hxy : sameO x y = true := by unfold sameO; clear hn hx hy hno4 hno5 hno6 hno7 hE hX; simp_all
         rw [hxy, Bool.true_and] at hn
         rw [wrap64 (by omega)]
         exact g_round (i + 1) ⟨by omega, hn⟩ id (by omega) ⟨rfl, ⟨rfl, rfl, rfl, trivial⟩, ⟨rfl, rfl, trivial⟩, rfl, fun _ _ => rfl⟩)
  have hge : ¬ i < a.pots.length := by have := of_decide_eq_false h; simp only [List.length_map] at this; omega
  rw [List.drop_eq_nil_of_le (by omega), List.drop_eq_nil_of_le (by omega)] at hn
  have hk6 : eqL sameO a.pots b.pots = true := hn.symm
  clear h hge hn hi
  repeat' first | refine g_go T hC true 400 rfl rfl ?_ | refine g_cond rfl (fun h => ?_) (fun h => ?_) | refine g_end T hC (by kernel_rfl) ?_ | refine g_splitD (fun h => ?_) (fun h => ?_) | refine g_splitG rfl rfl rfl (fun h => ?_) (fun h => ?_) | refine g_splitP rfl rfl (fun h => ?_) (fun h => ?_) | refine g_outE ?_
  refine g_loop (fun i : Nat => i ≤ a.bounds.length ∧ eqL sameB (a.bounds.drop i) (b.bounds.drop i) = eqL sameB a.bounds b.bounds) (fun i => ([(2, .one (.bx 1002 0)), (3, .one (.bx 1003 0)), (12, I i)], [(1002, some (.box ((descR a).map V.p))), (1003, some (.box ((descR b).map V.p)))])) (fun i => a.bounds.length - i) hC
    0 ⟨Nat.zero_le _, rfl⟩ id ⟨rfl, ⟨rfl, rfl, rfl, trivial⟩, ⟨rfl, rfl, trivial⟩, rfl, fun _ _ => rfl⟩ ?_
  rintro i ⟨hi, hn⟩
  refine g_run' T hC true 200 rfl ?_
  refine g_cond rfl (fun h => ?_) (fun h => ?_)
  · have hlt : i < a.bounds.length := by have := of_decide_eq_true h; simp only [List.length_map] at this; omega
    clear h
    obtain ⟨x, hx⟩ := exists_at hlt
    obtain ⟨y, hy⟩ := exists_at (l := b.bounds) (i := i) (by omega)
    rw [drop_at hx, drop_at hy, eqL] at hn
    have hX := hE x.x y.x
    repeat' first | refine g_go T hC true 400 rfl rfl ?_ | refine g_cond rfl (fun h => ?_) (fun h => ?_) | refine g_end T hC (by kernel_rfl) ?_ | refine g_splitD (fun h => ?_) (fun h => ?_) | refine g_splitG rfl rfl rfl (fun h => ?_) (fun h => ?_) | refine g_splitP rfl rfl (fun h => ?_) (fun h => ?_) | refine g_idx T hC rfl rfl rfl (Int.natCast_nonneg _) (map_at hx) rfl rfl ?_ | refine g_idx T hC rfl rfl rfl (Int.natCast_nonneg _) (map_at hy) rfl rfl ?_ | refine g_call hC (hX) rfl rfl (LeSs.refl _) rfl rfl rfl ?_ | refine g_outR ?_ | refine g_retl T (.inl rfl) rfl ?_
    all_goals (try simp only [List.length_map] at *)
    all_goals first
      | (refine (hno7 ?_).symm
         rw [← hn, show sameB x y = false by unfold sameB; clear hn hx hy hno4 hno5 hno6 hno7 hE hX; simp_all]
         rfl)
      | (have hxy : sameB x y = true := by unfold sameB; clear hn hx hy hno4 hno5 hno6 hno7 hE hX; simp_all
         rw [hxy, Bool.true_and] at hn
         rw [wrap64 (by omega)]
         exact g_round (i + 1) ⟨by omega, hn⟩ id (by omega) ⟨rfl, ⟨rfl, rfl, rfl, trivial⟩, ⟨rfl, rfl, trivial⟩, rfl, fun _ _ => rfl⟩)
  have hge : ¬ i < a.bounds.length := by have := of_decide_eq_false h; simp only [List.length_map] at this; omega
  rw [List.drop_eq_nil_of_le (by omega), List.drop_eq_nil_of_le (by omega)] at hn
  have hk7 : eqL sameB a.bounds b.bounds = true := hn.symm
  clear h hge hn hi
  repeat' first | refine g_go T hC true 400 rfl rfl ?_ | refine g_cond rfl (fun h => ?_) (fun h => ?_) | refine g_end T hC (by kernel_rfl) ?_ | refine g_splitD (fun h => ?_) (fun h => ?_) | refine g_splitG rfl rfl rfl (fun h => ?_) (fun h => ?_) | refine g_splitP rfl rfl (fun h => ?_) (fun h => ?_) | refine g_outE ?_ | refine g_retl T (.inl rfl) rfl ?_
  unfold sameFm
  rw [hk4, hk5, hk6, hk7]
  rfl
end Hw.Pa
namespace Hw.Pa
open Go Go.Proofs Hw.M

theorem sameD_fm (a b : Desc) : sameD a b = (decide (a.n = b.n) && eqL sameF a.globals b.globals && sameFm a b && eqL sameNT a.types b.types && eqL sameP a.procs b.procs) := by
  unfold sameD sameFm
  generalize decide (a.n = b.n) = p1
  generalize eqL sameF a.globals b.globals = p2
  generalize eqL sameNT a.types b.types = p3
  generalize eqL sameP a.procs b.procs = p4
  generalize eqL sameM a.measures b.measures = p5
  generalize eqL sameI a.invs b.invs = p6
  generalize eqL sameO a.pots b.pots = p7
  generalize eqL sameB a.bounds b.bounds = p8
  revert p1 p2 p3 p4 p5 p6 p7 p8
  decide
theorem rsame09_ok (a b : Desc) : FnOK Tryz.prog 12 [aggS (descR a), aggS (descR b)] [] (.bq (sameD a b)) [] := by
  rw [sameD_fm]
  have hG := rsameFields_ok a.globals b.globals
  have hFm := sameFormulas_ok a b
  have hS := fun (u v : List Sm) => rsameStmts_ok (SizeOf.sizeOf u + 1) u v (by omega)
  generalize eqL sameF a.globals b.globals = q1 at hG ⊢
  generalize sameFm a b = q2 at hFm ⊢
  generalize hRR : (decide (a.n = b.n) && q1 && q2 && eqL sameNT a.types b.types && eqL sameP a.procs b.procs) = RR
  have hno1 : eqL sameNT a.types b.types = false → RR = false := fun h => by rw [← hRR, h]; simp
  have hno3 : eqL sameP a.procs b.procs = false → RR = false := fun h => by rw [← hRR, h]; simp
  refine fn_ok T Tryz.func12 (by kernel_rfl) rfl rfl rfl rfl fun C hC => ?_
  refine g_lenA rfl 0 1 rfl rfl fun l1 => ?_
  refine g_lenA rfl 0 3 rfl rfl fun l3 => ?_
  rw [List.length_map] at l1 l3
  repeat' first | refine g_go T hC true 400 rfl rfl ?_ | refine g_cond rfl (fun h => ?_) (fun h => ?_) | refine g_end T hC (by kernel_rfl) ?_ | refine g_splitD (fun h => ?_) (fun h => ?_) | refine g_splitG rfl rfl rfl (fun h => ?_) (fun h => ?_) | refine g_splitP rfl rfl (fun h => ?_) (fun h => ?_) | refine g_call hC (hG) rfl rfl (LeSs.refl _) rfl rfl rfl ?_ | refine g_call hC (hFm) rfl rfl (LeSs.refl _) rfl rfl rfl ?_ | refine g_retl T (.inl rfl) rfl ?_
  all_goals (try simp only [List.length_map] at *)
  all_goals first
    | (refine (hno1 (eqL_len fun e => ?_)).symm; simp [e] at h; done)
    | (refine (hno3 (eqL_len fun e => ?_)).symm; simp [e] at h; done)
    | (rw [← hRR]; clear hG hFm hS hno1 hno3 hRR; simp_all; done)
    | skip
  have he : (decide (a.n = b.n) && q1 && q2) = true ∧ (a.types.length : Int) = b.types.length ∧ (a.procs.length : Int) = b.procs.length := by
    clear hno1 hno3 hS hG hFm hRR
    simp_all
  obtain ⟨he0, he1, he3⟩ := he
  rw [he0, Bool.true_and] at hRR
  clear h
  refine g_loop (fun i : Nat => i ≤ a.types.length ∧ eqL sameNT (a.types.drop i) (b.types.drop i) = eqL sameNT a.types b.types) (fun i => ([(2, .one (.bx 1002 0)), (3, .one (.bx 1003 0)), (5, I i)], [(1002, some (.box ((descR a).map V.p))), (1003, some (.box ((descR b).map V.p)))])) (fun i => a.types.length - i) hC
    0 ⟨Nat.zero_le _, rfl⟩ id ⟨rfl, ⟨rfl, rfl, rfl, trivial⟩, ⟨rfl, rfl, trivial⟩, rfl, fun _ _ => rfl⟩ ?_
  rintro i ⟨hi, hn⟩
  refine g_run' T hC true 200 rfl ?_
  refine g_cond rfl (fun h => ?_) (fun h => ?_)
  · have hlt : i < a.types.length := by have := of_decide_eq_true h; simp only [List.length_map] at this; omega
    clear h
    obtain ⟨x, hx⟩ := exists_at hlt
    obtain ⟨y, hy⟩ := exists_at (l := b.types) (i := i) (by omega)
    rw [drop_at hx, drop_at hy, eqL] at hn
    have hX := rsameFields_ok x.f y.f
    repeat' first | refine g_go T hC true 400 rfl rfl ?_ | refine g_cond rfl (fun h => ?_) (fun h => ?_) | refine g_end T hC (by kernel_rfl) ?_ | refine g_splitD (fun h => ?_) (fun h => ?_) | refine g_splitG rfl rfl rfl (fun h => ?_) (fun h => ?_) | refine g_splitP rfl rfl (fun h => ?_) (fun h => ?_) | refine g_idx T hC rfl rfl rfl (Int.natCast_nonneg _) (map_at hx) rfl rfl ?_ | refine g_idx T hC rfl rfl rfl (Int.natCast_nonneg _) (map_at hy) rfl rfl ?_ | refine g_call hC (hX) rfl rfl (LeSs.refl _) rfl rfl rfl ?_ | refine g_outR ?_ | refine g_retl T (.inl rfl) rfl ?_
    all_goals (try simp only [List.length_map] at *)
    all_goals first
      | (refine (hno1 ?_).symm
         rw [← hn, show sameNT x y = false by unfold sameNT; clear hn hx hy hno1 hno3 hS hX hG hFm hRR; simp_all]
         rfl)
      | (have hxy : sameNT x y = true := by unfold sameNT; clear hn hx hy hno1 hno3 hS hX hG hFm hRR; simp_all
         rw [hxy, Bool.true_and] at hn
         rw [wrap64 (by omega)]
         exact g_round (i + 1) ⟨by omega, hn⟩ id (by omega) ⟨rfl, ⟨rfl, rfl, rfl, trivial⟩, ⟨rfl, rfl, trivial⟩, rfl, fun _ _ => rfl⟩)
  have hge : ¬ i < a.types.length := by have := of_decide_eq_false h; simp only [List.length_map] at this; omega
  rw [List.drop_eq_nil_of_le (by omega), List.drop_eq_nil_of_le (by omega)] at hn
  have hk1 : eqL sameNT a.types b.types = true := hn.symm
  clear h hge hn hi
  repeat' first | refine g_go T hC true 400 rfl rfl ?_ | refine g_cond rfl (fun h => ?_) (fun h => ?_) | refine g_end T hC (by kernel_rfl) ?_ | refine g_splitD (fun h => ?_) (fun h => ?_) | refine g_splitG rfl rfl rfl (fun h => ?_) (fun h => ?_) | refine g_splitP rfl rfl (fun h => ?_) (fun h => ?_) | refine g_outE ?_
  refine g_loop (fun i : Nat => i ≤ a.procs.length ∧ eqL sameP (a.procs.drop i) (b.procs.drop i) = eqL sameP a.procs b.procs) (fun i => ([(2, .one (.bx 1002 0)), (3, .one (.bx 1003 0)), (6, I i)], [(1002, some (.box ((descR a).map V.p))), (1003, some (.box ((descR b).map V.p)))])) (fun i => a.procs.length - i) hC
    0 ⟨Nat.zero_le _, rfl⟩ id ⟨rfl, ⟨rfl, rfl, rfl, trivial⟩, ⟨rfl, rfl, trivial⟩, rfl, fun _ _ => rfl⟩ ?_
  rintro i ⟨hi, hn⟩
  refine g_run' T hC true 200 rfl ?_
  refine g_cond rfl (fun h => ?_) (fun h => ?_)
  · have hlt : i < a.procs.length := by have := of_decide_eq_true h; simp only [List.length_map] at this; omega
    clear h
    obtain ⟨x, hx⟩ := exists_at hlt
    obtain ⟨y, hy⟩ := exists_at (l := b.procs) (i := i) (by omega)
    rw [drop_at hx, drop_at hy, eqL] at hn
    have hX := rsameFields_ok x.params y.params
    have hY := rsameFields_ok x.locs y.locs
    have hZ := hS x.body y.body
    repeat' first | refine g_go T hC true 400 rfl rfl ?_ | refine g_cond rfl (fun h => ?_) (fun h => ?_) | refine g_end T hC (by kernel_rfl) ?_ | refine g_splitD (fun h => ?_) (fun h => ?_) | refine g_splitG rfl rfl rfl (fun h => ?_) (fun h => ?_) | refine g_splitP rfl rfl (fun h => ?_) (fun h => ?_) | refine g_idx T hC rfl rfl rfl (Int.natCast_nonneg _) (map_at hx) rfl rfl ?_ | refine g_idx T hC rfl rfl rfl (Int.natCast_nonneg _) (map_at hy) rfl rfl ?_ | refine g_call hC (hX) rfl rfl (LeSs.refl _) rfl rfl rfl ?_ | refine g_call hC (hY) rfl rfl (LeSs.refl _) rfl rfl rfl ?_ | refine g_call hC (hZ) rfl rfl (LeSs.refl _) rfl rfl rfl ?_ | refine g_outR ?_ | refine g_retl T (.inl rfl) rfl ?_
    all_goals (try simp only [List.length_map] at *)
    all_goals first
      | (refine (hno3 ?_).symm
         rw [← hn, show sameP x y = false by unfold sameP; clear hn hx hy hno1 hno3 hS hX hY hZ hG hFm hRR; simp_all]
         rfl)
      | (have hxy : sameP x y = true := by unfold sameP; clear hn hx hy hno1 hno3 hS hX hY hZ hG hFm hRR; simp_all
         rw [hxy, Bool.true_and] at hn
         rw [wrap64 (by omega)]
         exact g_round (i + 1) ⟨by omega, hn⟩ id (by omega) ⟨rfl, ⟨rfl, rfl, rfl, trivial⟩, ⟨rfl, rfl, trivial⟩, rfl, fun _ _ => rfl⟩)
  have hge : ¬ i < a.procs.length := by have := of_decide_eq_false h; simp only [List.length_map] at this; omega
  rw [List.drop_eq_nil_of_le (by omega), List.drop_eq_nil_of_le (by omega)] at hn
  have hk3 : eqL sameP a.procs b.procs = true := hn.symm
  clear h hge hn hi
  repeat' first | refine g_go T hC true 400 rfl rfl ?_ | refine g_cond rfl (fun h => ?_) (fun h => ?_) | refine g_end T hC (by kernel_rfl) ?_ | refine g_splitD (fun h => ?_) (fun h => ?_) | refine g_splitG rfl rfl rfl (fun h => ?_) (fun h => ?_) | refine g_splitP rfl rfl (fun h => ?_) (fun h => ?_) | refine g_outE ?_ | refine g_retl T (.inl rfl) rfl ?_
  rw [← hRR, hk1, hk3]
  rfl
end Hw.Pa
namespace Hw.Pa
open Go Go.Proofs Hw.M

theorem sameD_refl (d : Desc) : sameD d d = true := by
  have hE : ∀ x : Ex, sameE x x = true := fun x => sameE_refl (SizeOf.sizeOf x + 1) x (by omega)
  have hS : ∀ x : Sm, sameS x x = true := fun x => sameS_refl (SizeOf.sizeOf x + 1) x (by omega)
  unfold sameD
  rw [eqL_refl fun x _ => sameF_refl x, eqL_refl fun x _ => (by unfold sameNT; rw [eqL_refl fun x _ => sameF_refl x, decide_eq_true rfl]; rfl : sameNT x x = true),
    eqL_refl fun x _ => (by unfold sameP; rw [eqL_refl fun x _ => sameF_refl x, eqL_refl fun x _ => sameF_refl x, eqL_refl fun x _ => hS x, decide_eq_true rfl, decide_eq_true rfl]; rfl : sameP x x = true),
    eqL_refl fun x _ => (by unfold sameM; rw [hE, decide_eq_true rfl, decide_eq_true rfl, decide_eq_true rfl]; rfl : sameM x x = true),
    eqL_refl fun x _ => (by unfold sameI; rw [hE, decide_eq_true rfl, decide_eq_true rfl]; rfl : sameI x x = true),
    eqL_refl fun x _ => (by unfold sameO; rw [hE, decide_eq_true rfl]; rfl : sameO x x = true),
    eqL_refl fun x _ => (by unfold sameB; rw [hE, decide_eq_true rfl]; rfl : sameB x x = true), decide_eq_true rfl]
  rfl
section
variable {l : List Tok}
theorem formula_cnt {f i j : Nat} {x : Ex} (h : formulaA l f i = .ok x j) : i + cntE x ≤ j := by
  unfold formulaA at h
  obtain ⟨u, k, h1, h⟩ := bind_ok h
  have := one_fwd h1
  have := (expr_cnt (l := l) f).1 _ _ _ _ h
  omega
theorem proc_cnt {f i j : Nat} {x : Pr} (h : procA l f i = .ok x j) : i + cntSs x.body ≤ j := by
  unfold procA at h
  obtain ⟨n, k1, h1, h⟩ := bind_ok h
  obtain ⟨u, k2, h2, h⟩ := bind_ok h
  obtain ⟨ps, k3, h3, h⟩ := bind_ok h
  obtain ⟨r, k4, h4, h⟩ := bind_ok h
  obtain ⟨u2, k5, h5, h⟩ := bind_ok h
  obtain ⟨ls, k6, h6, h⟩ := bind_ok h
  obtain ⟨b, k7, h7, h⟩ := bind_ok h
  have := name_fwd h1
  have := one_fwd h2
  have := list_fwd _ _ _ _ _ h3
  have : k3 ≤ k4 := by
    rcases ite_ok h4 with ⟨_, h4⟩ | ⟨_, h4⟩
    · cases h4; exact Nat.le_refl _
    · have := typ_fwd h4; omega
  have := one_fwd h5
  have := locs_fwd _ _ _ _ _ h6
  have := (stmt_cnt (l := l) f).1 _ _ _ _ h7
  cases h; simp only [cntSs] at *; omega
theorem measure_cnt {f i j : Nat} {x : Ms} (h : measureA l f i = .ok x j) : i + cntE x.x ≤ j := by
  unfold measureA at h
  obtain ⟨n, k1, h1, h⟩ := bind_ok h
  obtain ⟨u, k2, h2, h⟩ := bind_ok h
  obtain ⟨t, k3, h3, h⟩ := bind_ok h
  obtain ⟨u2, k4, h4, h⟩ := bind_ok h
  obtain ⟨u3, k5, h5, h⟩ := bind_ok h
  obtain ⟨z, k6, h6, h⟩ := bind_ok h
  obtain ⟨y, k7, h7, h⟩ := bind_ok h
  have := name_fwd h1
  have := one_fwd h2
  have := name_fwd h3
  have := one_fwd h4
  have := one_fwd h5
  have e6 := int_fwd h6
  have := formula_cnt h7
  have : k5 ≤ k6 := by rw [e6]; split <;> omega
  cases h
  show i + cntE y ≤ _
  omega
theorem item_tot {f i j : Nat} {d x : Desc} (h : itemA l f i d = .ok x j) : i + totD x ≤ j + totD d := by
  unfold itemA at h
  rcases ite_ok h with ⟨hi, h⟩ | ⟨_, h⟩
  · obtain ⟨n, k1, h1, h⟩ := bind_ok h
    obtain ⟨u, k2, h2, h⟩ := bind_ok h
    obtain ⟨fs, k3, h3, h⟩ := bind_ok h
    have := name_fwd h1
    have := one_fwd h2
    have := list_fwd _ _ _ _ _ h3
    cases h; simp only [totD, sumB_app, sumB, Nat.add_zero] at *; omega
  rcases ite_ok h with ⟨hi, h⟩ | ⟨_, h⟩
  · obtain ⟨n, k1, h1, h⟩ := bind_ok h
    have := field_fwd h1
    cases h; simp only [totD, sumB_app, sumB, Nat.add_zero] at *; omega
  rcases ite_ok h with ⟨hi, h⟩ | ⟨_, h⟩
  · obtain ⟨n, k1, h1, h⟩ := bind_ok h
    have := proc_cnt h1
    cases h; simp only [totD, sumB_app, sumB, Nat.add_zero] at *; omega
  rcases ite_ok h with ⟨hi, h⟩ | ⟨_, h⟩
  · obtain ⟨n, k1, h1, h⟩ := bind_ok h
    have := measure_cnt h1
    cases h; simp only [totD, sumB_app, sumB, Nat.add_zero] at *; omega
  rcases ite_ok h with ⟨hi, h⟩ | ⟨_, h⟩
  · obtain ⟨n, k1, h1, h⟩ := bind_ok h
    obtain ⟨t, k2, h2, h⟩ := bind_ok h
    obtain ⟨y, k3, h3, h⟩ := bind_ok h
    have := name_fwd h1
    have := inv_fwd h2
    have := formula_cnt h3
    cases h; simp only [totD, sumB_app, sumB, Nat.add_zero] at *; omega
  rcases ite_ok h with ⟨hi, h⟩ | ⟨_, h⟩
  · obtain ⟨t, k2, h2, h⟩ := bind_ok h
    obtain ⟨y, k3, h3, h⟩ := bind_ok h
    have : i + 1 ≤ k2 := by
      rcases ite_ok h2 with ⟨_, h2⟩ | ⟨_, h2⟩
      · cases h2; exact Nat.le_refl _
      · have := name_fwd h2; omega
    have := formula_cnt h3
    cases h; simp only [totD, sumB_app, sumB, Nat.add_zero] at *; omega
  rcases ite_ok h with ⟨hi, h⟩ | ⟨_, h⟩
  · obtain ⟨n, k1, h1, h⟩ := bind_ok h
    obtain ⟨y, k3, h3, h⟩ := bind_ok h
    have := name_fwd h1
    have := formula_cnt h3
    cases h; simp only [totD, sumB_app, sumB, Nat.add_zero] at *; omega
  · cases h
theorem items_tot (f : Nat) : ∀ (g i : Nat) (d x : Desc) (j : Nat), itemsA l f g i d = .ok x j → i + totD x ≤ j + totD d
  | 0, i, d, x, j, h => by simp only [itemsA, reduceCtorEq] at h
  | g + 1, i, d, x, j, h => by
    simp only [itemsA] at h
    rcases ite_ok h with ⟨_, h⟩ | ⟨_, h⟩
    · cases h; omega
    · obtain ⟨y, k, h1, h⟩ := bind_ok h
      have := item_tot h1
      have := items_tot f g _ _ _ _ h
      omega
theorem desc_tot {f j : Nat} {x : Desc} (h : descA l f = .ok x j) : totD x ≤ j := by
  unfold descA at h
  obtain ⟨u, k1, h1, h⟩ := bind_ok h
  obtain ⟨n, k2, h2, h⟩ := bind_ok h
  obtain ⟨u2, k3, h3, h⟩ := bind_ok h
  have := items_tot f _ _ _ _ _ h
  simp only [totD, sumB] at *
  omega
end
theorem type_s40 {s : Str} (h : isType s = true) : s.size ≤ 40 := by
  unfold isType at h
  simp only [Bool.or_eq_true, decide_eq_true_eq] at h
  rcases h with (h | h) | h
  · rw [h]; show 3 ≤ 40; decide
  · rw [h]; show 4 ≤ 40; decide
  · exact name_s40 h
theorem open_s40 {s : Str} (h : isOpen s = true) : s.size ≤ 40 := by
  unfold isOpen at h
  simp only [Bool.or_eq_true, decide_eq_true_eq] at h
  rcases h with h | h
  · rw [h]; show 0 ≤ 40; decide
  · exact name_s40 h
theorem fields_wd {l : List Fld} {k : Int} (hk : k ≤ 40) (h : fieldsOk l k = true) : wdF l = false := by
  unfold fieldsOk at h
  simp only [Bool.and_eq_true, decide_eq_true_eq, List.all_eq_true] at h
  obtain ⟨h1, h2⟩ := h
  unfold wdF
  rw [decide_eq_false (by omega), Bool.false_or, Bool.eq_false_iff]
  intro h3
  rw [List.any_eq_true] at h3
  obtain ⟨x, hx, h4⟩ := h3
  have := h2 x hx
  unfold fieldOk at this
  simp only [Bool.and_eq_true] at this
  have a := name_s40 this.1
  have b := type_s40 this.2
  simp only [Bool.or_eq_true, decide_eq_true_eq] at h4
  omega
theorem bg_of {d : Desc} (h : validD d = true) (hc : totD d ≤ 3000) : BG d := by
  unfold validD validPre formulasOk at h
  simp only [Bool.and_eq_true, Bool.not_eq_true', decide_eq_false_iff_not, List.all_eq_true] at h
  obtain ⟨⟨⟨⟨⟨⟨⟨⟨⟨⟨a1, a2⟩, a3⟩, a4⟩, a5⟩, a6⟩, a7⟩, a8⟩, b1⟩, b2⟩, ⟨⟨⟨c1, c2⟩, c3⟩, c4⟩⟩ := h
  have gg : (d.globals.length : Int) ≤ 8 := by unfold fieldsOk at a3; simp only [Bool.and_eq_true, decide_eq_true_eq] at a3; exact a3.1
  refine ⟨by have := name_s40 a1; omega, by omega, by omega, by omega, by omega, by omega, by omega, by omega, fields_wd (by decide) a3, ?_, ?_, ?_, ?_, ?_, ?_, hc⟩
  · rw [Bool.eq_false_iff]
    intro h3
    rw [List.any_eq_true] at h3
    obtain ⟨t, ht, h4⟩ := h3
    have := b1 t ht
    unfold typeOk at this
    simp only [Bool.and_eq_true] at this
    rw [fields_wd (by decide) this.2, Bool.or_false, decide_eq_true_eq] at h4
    have := name_s40 this.1
    omega
  · intro p hp
    have := b2 p hp
    unfold procOk at this
    simp only [Bool.and_eq_true, Bool.or_eq_true, decide_eq_true_eq] at this
    obtain ⟨⟨⟨⟨p1, p2⟩, p3⟩, p4⟩, p5⟩ := this
    refine ⟨by have := name_s40 p1; omega, ?_, fields_wd (by decide) p2, fields_wd (by decide) p3, ?_⟩
    · rcases p4 with p4 | p4
      · rw [p4]; show ((0 : Nat) : Int) ≤ 100; decide
      · have := type_s40 p4; omega
    · exact sts_ok p.body 1 0 (by decide) (by decide) p5
  · intro m hm
    have := c1 m hm
    unfold measOk at this
    simp only [Bool.and_eq_true] at this
    exact ⟨by have := name_s40 this.1.1.1.1; omega, by have := name_s40 this.1.1.1.2; omega, (exprOk_cnt this.2).2⟩
  · intro m hm
    have := c2 m hm
    unfold invOk at this
    simp only [Bool.and_eq_true] at this
    exact ⟨by have := name_s40 this.1.1; omega, by have := open_s40 this.1.2; omega, (exprOk_cnt this.2).2⟩
  · intro m hm
    have := c3 m hm
    unfold potOk at this
    simp only [Bool.and_eq_true] at this
    exact ⟨by have := open_s40 this.1; omega, (exprOk_cnt this.2).2⟩
  · intro m hm
    have := c4 m hm
    unfold boundOk at this
    simp only [Bool.and_eq_true] at this
    exact ⟨by have := name_s40 this.1; omega, (exprOk_cnt this.2).2⟩
theorem bg_d0 : BG D0 := by
  refine ⟨by decide, by decide, by decide, by decide, by decide, by decide, by decide, by decide, by decide, by decide, ?_, ?_, ?_, ?_, ?_, by decide⟩
  all_goals (intro x hx; cases hx)
theorem descTop_bg (s : Str) (hs : s.size ≤ 2000 ∨ 65536 < s.size) : BG (descTop s).1 := by
  unfold descTop
  rcases tokens_good s with ⟨l, he, hl, hlen⟩ | ⟨q, e, he, h74⟩
  · rw [he]
    simp only [if_true]
    rcases hs with hs | hs
    rotate_left
    · exfalso
      unfold tokensS at he
      rw [if_pos hs] at he
      cases he
    have hrg : RA l (descA l (10 * l.length + 13)) := by
      obtain ⟨t, ht, _⟩ := hl.fin
      have h0 : 0 < l.length := by have := (List.getElem?_eq_some_iff.1 ht).1; omega
      rw [← er_desc]
      exact .er (.go (.one hl h0 _) fun _ _ hk => .go (.name hl hk) fun _ _ hk => .go (.one hl hk _) fun _ _ hk => items_rg hl _ _ _ _ hk)
    unfold topD
    split
    · rename_i x j hx
      have hj := hrg.1 _ _ hx
      have ht := desc_tot hx
      split
      · split
        · split
          · rename_i h; exact bg_of (d := x) h (by omega)
          · exact bg_d0
        · exact bg_d0
      · exact bg_d0
    · split
      · exact bg_d0
      · exact bg_d0
    · exact bg_d0
  · rw [he]
    simp only
    rw [if_neg (show ¬ e = 0 by omega)]
    exact bg_d0
end Hw.Pa
