/- The engine, part BA: structs of two strings, compared. -/
import Derived.Test.YtmnhegkogibipaaGreatDoorC10
import Derived.Test.YtmnhegkogibipaaGreatDoorC7
import Derived.Laws.StructEq
import Derived.Test.YtmnhegkogibipaaGreatDoorC5
set_option linter.unusedVariables false
set_option linter.unusedSimpArgs false
namespace Hw
open Go

/-! Structs of two strings, compared. -/
def twoStr (P : Program) (t : TypeId) : Bool := match P.underlying t with
  | some (.struct fs) => match fs.toList with
    | [f, g] => decide (f.name ≠ "_") && decide (g.name ≠ "_") && Nat.beq f.offset 0 && Nat.beq g.offset 1 && (match P.underlying f.type with | some .string => true | _ => false) && (match P.underlying g.type with | some .string => true | _ => false) && !P.stoodInHeld t && !P.eqGuardType P.depth t
    | _ => false
  | _ => false
theorem run_two {P : Program} {t : TypeId} (h : twoStr P t = true) (a b c d : ByteArray) (w : World) : (binOp .neq t (.agg #[.string a, .string b]) (.agg #[.string c, .string d])).run P w = .ok (.bool (!(decide (a = c) && decide (b = d)))) w := by
  unfold twoStr at h
  split at h
  · rename_i fs hu
    split at h
    · rename_i f g hfs
      simp only [Bool.and_eq_true, decide_eq_true_eq, Bool.not_eq_true'] at h
      obtain ⟨⟨⟨⟨⟨⟨⟨h1, h2⟩, h3⟩, h4⟩, h5⟩, h6⟩, h7⟩, h8⟩ := h
      have h3 := Nat.eq_of_beq_eq_true h3
      have h4 := Nat.eq_of_beq_eq_true h4
      have hf : P.underlying f.type = some .string := by split at h5 <;> first | assumption | cases h5
      have hg : P.underlying g.type = some .string := by split at h6 <;> first | assumption | cases h6
      have hF : P.fieldsOf t = fs := by simp [Program.fieldsOf, hu]
      rw [run_neq_struct, run_equalIn_agg (d := 9999) w t _ _ (by rw [hF]; exact hu) h7, hF, hfs]
      have p1 : ∀ (u v : ByteArray), (part f.type #[.string u, .string v] f.offset).run P w = .ok (.string u) w := fun u v => by simp [part, isAgg, run_underlying hf, h3]
      have p2 : ∀ (u v : ByteArray), (part g.type #[.string u, .string v] g.offset).run P w = .ok (.string v) w := fun u v => by simp [part, isAgg, run_underlying hg, h4]
      have q1 : ∀ (u v : ByteArray), (Op.equalIn 9999 f.type (.string u) (.string v)).run P w = .ok (decide (u = v)) w := fun u v => by
        rw [run_equalIn_string (d := 9998) w f.type u v hf, ← beq_toListBytes, bytes_eq]
      have q2 : ∀ (u v : ByteArray), (Op.equalIn 9999 g.type (.string u) (.string v)).run P w = .ok (decide (u = v)) w := fun u v => by
        rw [run_equalIn_string (d := 9998) w g.type u v hg, ← beq_toListBytes, bytes_eq]
      simp only [Op.eqFields, if_pos h1, if_pos h2, Sem.run_bind, p1, p2, q1, q2, Result.andThen_ok, Sem.run_ite]
      by_cases e1 : a = c
      · by_cases e2 : b = d
        · simp [e1, e2]
        · simp [e1, e2]
      · simp [e1]
    · cases h
  · cases h
theorem guard_two {P : Program} {t : TypeId} (h : twoStr P t = true) (x y : Operand) (xs ys : Array Value) (w : World) : (eqGuard .neq t x y (.agg xs) (.agg ys)).run P w = .ok () w := by
  refine run_eqGuard_agg w .neq t x y xs ys ?_
  unfold twoStr at h
  split at h
  · split at h
    · simp only [Bool.and_eq_true, Bool.not_eq_true'] at h; exact h.2
    · cases h
  · cases h
section
variable {P : Program} {d : Option Nat} {ty : TypeId} {ps : String} {af : Array Edge} {g : Option (Nat × Bool)} {x y : Operand} {t : TypeId}
theorem L_neqSS {t' : TypeId} {a b a' b' : ByteArray} (hx : okc x (.agg [.p (.k (.string a)), .p (.k (.string b))])) (hy : okc y (.agg [.p (.k (.string a')), .p (.k (.string b'))])) (h : twoStr P t = true) :
    Snd P ⟨d, .binOp .neq t x y t', ty, ps, af, g⟩ (rq x (.agg [.p (.k (.string a)), .p (.k (.string b))]) ++ rq y (.agg [.p (.k (.string a')), .p (.k (.string b'))])) [] [] (.bq (!(decide (a = a') && decide (b = b')))) [] :=
  snd_quiet fun C st M ρ ac w hH h1 _ => by
    rw [okS_append] at h1
    have e1 := hH.evS (ev_of hx h1.1)
    have e2 := hH.evS (ev_of hy h1.2)
    simp only [RepS] at e1 e2
    obtain ⟨cs, e1, f1⟩ := e1
    obtain ⟨ds, e2, f2⟩ := e2
    match cs, ds, f1, f2 with
    | [c1, c2], [d1, d2], f1, f2 =>
      simp only [RepVs, RepV, RepPV] at f1 f2
      obtain ⟨⟨rfl, _⟩, ⟨rfl, _⟩, _⟩ := f1
      obtain ⟨⟨rfl, _⟩, ⟨rfl, _⟩, _⟩ := f2
      exact ⟨.bool (!(decide (a = a') && decide (b = b'))), by simp only [execOp, e1, e2, Sem.run_bind, guard_two h, run_two h, Result.andThen_ok, Sem.run_pure], by simp only [RepS]⟩
    | [], _, f1, _ => simp [RepVs] at f1
    | [_], _, f1, _ => simp [RepVs] at f1
    | _ :: _ :: _ :: _, _, f1, _ => simp [RepVs] at f1
    | [_, _], [], _, f2 => simp [RepVs] at f2
    | [_, _], [_], _, f2 => simp [RepVs] at f2
    | [_, _], _ :: _ :: _ :: _, _, f2 => simp [RepVs] at f2
end
section
variable {P : Program} {C : Ctx} {k : List Frm} {n : Nat} {sl : Slots} {tab : Tab} {Q : Exit → St → Prop} {all : Array Oper} {rest : List Oper}
theorem g_neqSS {d : Nat} {x y : Operand} {t t' ty : TypeId} {ps : String} {af : Array Edge} {g0 : Option (Nat × Bool)} {gs : Slots} {md : Mode} (hC : C.low) {a b a' b' : ByteArray}
    (hx : ev sl x = some (.agg [.p (.k (.string a)), .p (.k (.string b))])) (hy : ev sl y = some (.agg [.p (.k (.string a')), .p (.k (.string b'))])) (h : twoStr P t = true) (hm : metL all sl g0 = some gs) (hd : Nat.blt d n = true)
    (g : Goal P C (.ops all rest (nx md ⟨some d, gs ++ (rq x (.agg [.p (.k (.string a)), .p (.k (.string b))]) ++ rq y (.agg [.p (.k (.string a')), .p (.k (.string b'))])), [], [], .bq (!(decide (a = a') && decide (b = b'))), []⟩)) k n ((d, .bq (!(decide (a = a') && decide (b = b')))) :: sl) tab Q) :
    Goal P C (.ops all (⟨some d, .binOp .neq t x y t', ty, ps, af, g0⟩ :: rest) md) k n sl tab Q := by
  have e1 := of_ev (st := ⟨n, sl, tab⟩) hx
  have e2 := of_ev (st := ⟨n, sl, tab⟩) hy
  have := metL_step hm (L_neqSS (P := P) (ty := ty) (ps := ps) (af := af) (g := g0) (d := some d) (t' := t') e1.1 e2.1 h) (n := n) (tab := tab)
  exact g_law (L := ⟨some d, gs ++ (rq x (.agg [.p (.k (.string a)), .p (.k (.string b))]) ++ rq y (.agg [.p (.k (.string a')), .p (.k (.string b'))])), [], [], .bq (!(decide (a = a') && decide (b = b'))), []⟩) hC this.1 rfl ⟨by rw [okS_append, okS_append]; exact ⟨this.2, e1.2, e2.2⟩, trivial, rfl, hd⟩ g
end
end Hw
namespace Hw.Z
open Go Go.Proofs Hw.M

def eqL {α : Type} (p : α → α → Bool) : List α → List α → Bool
  | [], [] => true
  | x :: a, y :: b => p x y && eqL p a b
  | [], _ :: _ => false
  | _ :: _, [] => false
theorem eqL_len {α : Type} {p : α → α → Bool} : ∀ {a b : List α}, a.length ≠ b.length → eqL p a b = false
  | [], [], h => absurd rfl h
  | x :: a, y :: b, h => by rw [eqL, eqL_len (fun e => h (by rw [List.length_cons, List.length_cons, e])), Bool.and_false]
  | [], _ :: _, _ => rfl
  | _ :: _, [], _ => rfl
theorem eqL_refl {α : Type} {p : α → α → Bool} : ∀ {a : List α}, (∀ x ∈ a, p x x = true) → eqL p a a = true
  | [], _ => rfl
  | x :: a, h => by rw [eqL, h x (by simp), eqL_refl fun y hy => h y (by simp [hy])]; rfl
mutual
def sameE : Ex → Ex → Bool
  | .mk o n s l, .mk o' n' s' l' => decide (o = o') && decide (n = n') && decide (s = s') && sameLs l l'
def sameLs : List Ex → List Ex → Bool
  | [], [] => true
  | x :: a, y :: b => sameE x y && sameLs a b
  | [], _ :: _ => false
  | _ :: _, [] => false
end
theorem sameLs_eq : ∀ a b : List Ex, sameLs a b = eqL sameE a b
  | [], [] => by simp only [sameLs, eqL]
  | x :: a, y :: b => by simp only [sameLs, eqL, sameLs_eq a b]
  | [], _ :: _ => by simp only [sameLs, eqL]
  | _ :: _, [] => by simp only [sameLs, eqL]
theorem sameE_eq (a b : Ex) : sameE a b = (decide (a.op = b.op) && decide (a.n = b.n) && decide (a.s = b.s) && eqL sameE a.l b.l) := by
  cases a; cases b; simp only [sameE, sameLs_eq, Ex.op, Ex.n, Ex.s, Ex.l]; rfl
theorem sameE_refl : ∀ (k : Nat) (a : Ex), sizeOf a < k → sameE a a = true := by
  intro k
  induction k with
  | zero => intro a h; omega
  | succ k ih =>
    intro a h
    rw [sameE_eq, decide_eq_true rfl, decide_eq_true rfl, decide_eq_true rfl, eqL_refl fun x hx => ih x (by have := List.sizeOf_lt_of_mem hx; have := sizeE_sub a; omega)]
    rfl
theorem rsameExpr_ok : ∀ (N : Nat) (a b : Ex), sizeOf a < N → FnOK Tryz.prog 182 [aggS (exprC a), aggS (exprC b)] [] (.bq (sameE a b)) [] := by
  intro N
  induction N with
  | zero => intro a b h; omega
  | succ N ih =>
    intro a b hN
    have no : (decide (a.op = b.op) && decide (a.n = b.n) && decide (a.s = b.s) && decide ((a.l.length : Int) = b.l.length)) = false → sameE a b = false := fun h => by
      rw [sameE_eq]
      by_cases hl : a.l.length = b.l.length
      · rw [decide_eq_true (show (a.l.length : Int) = b.l.length by rw [hl]), Bool.and_true] at h
        rw [h]; rfl
      · rw [eqL_len hl, Bool.and_false]
    have yes : (decide (a.op = b.op) && decide (a.n = b.n) && decide (a.s = b.s) && decide ((a.l.length : Int) = b.l.length)) = true → sameE a b = eqL sameE a.l b.l := fun h => by
      rw [sameE_eq]
      simp only [Bool.and_eq_true] at h
      rw [h.1.1.1, h.1.1.2, h.1.2]; rfl
    refine fn_ok T Tryz.func182 (by kernel_rfl) rfl rfl rfl rfl fun C hC => ?_
    refine g_lenA rfl 0 3 rfl rfl fun hlen => ?_
    rw [List.length_map] at hlen
    repeat' first
      | refine g_go T hC true 400 rfl rfl ?_
      | refine g_cond rfl (fun h => ?_) (fun h => ?_)
      | refine g_end T hC (by kernel_rfl) ?_
      | refine g_splitD (fun h => ?_) (fun h => ?_)
      | refine g_splitG rfl rfl rfl (fun h => ?_) (fun h => ?_)
      | refine g_splitP rfl rfl (fun h => ?_) (fun h => ?_)
      | refine g_retl T (.inl rfl) rfl ?_
    all_goals (try simp only [List.length_map] at *)
    all_goals first
      | (refine (no ?_).symm; clear no yes ih; simp_all; done)
      | (have hy : (decide (a.op = b.op) && decide (a.n = b.n) && decide (a.s = b.s) && decide ((a.l.length : Int) = b.l.length)) = true := by clear no yes ih; simp_all
         rw [yes hy]
         have hab : a.l.length = b.l.length := by simp only [Bool.and_eq_true, decide_eq_true_eq] at hy; omega
         clear no yes hy
         refine g_loop (fun i : Nat => i ≤ a.l.length ∧ eqL sameE (a.l.drop i) (b.l.drop i) = eqL sameE a.l b.l) (fun i => ([(2, .one (.bx 1002 0)), (3, .one (.bx 1003 0)), (5, I i)], [(1002, some (.box ((exprC a).map V.p))), (1003, some (.box ((exprC b).map V.p)))])) (fun i => a.l.length - i) hC
           0 ⟨Nat.zero_le _, rfl⟩ id ⟨rfl, ⟨rfl, rfl, rfl, trivial⟩, ⟨rfl, rfl, trivial⟩, rfl, fun _ _ => rfl⟩ ?_
         rintro i ⟨hi, hn⟩
         refine g_run' T hC true 200 rfl ?_
         refine g_cond rfl (fun h => ?_) (fun h => ?_)
         · have hlt : i < a.l.length := by have := of_decide_eq_true h; rw [List.length_map] at this; omega
           clear h
           obtain ⟨x, hx⟩ := exists_at hlt
           obtain ⟨y, hy⟩ := exists_at (hab ▸ hlt)
           have hS := ih x y (by have := List.sizeOf_lt_of_mem (List.mem_of_getElem? hx); have := sizeE_sub a; omega)
           rw [drop_at hx, drop_at hy, eqL] at hn
           repeat' first
             | refine g_go T hC true 400 rfl rfl ?_
             | refine g_cond rfl (fun h => ?_) (fun h => ?_)
             | refine g_end T hC (by kernel_rfl) ?_
             | refine g_splitD (fun h => ?_) (fun h => ?_)
             | refine g_splitG rfl rfl rfl (fun h => ?_) (fun h => ?_)
             | refine g_splitP rfl rfl (fun h => ?_) (fun h => ?_)
             | refine g_idx T hC rfl rfl rfl (Int.natCast_nonneg _) (map_atE hx) rfl rfl ?_
             | refine g_idx T hC rfl rfl rfl (Int.natCast_nonneg _) (map_atE hy) rfl rfl ?_
             | refine g_call hC (hS) rfl rfl (LeSs.refl _) rfl rfl rfl ?_
             | refine g_outR ?_
             | refine g_retl T (.inl rfl) rfl ?_
           · have hxy : sameE x y = false := by simpa using h
             rw [hxy] at hn; exact hn
           · have hxy : sameE x y = true := by simpa using h
             rw [hxy, Bool.true_and] at hn
             rw [wrap64 (by omega)]
             exact g_round (i + 1) ⟨by omega, hn⟩ id (by omega) ⟨rfl, ⟨rfl, rfl, rfl, trivial⟩, ⟨rfl, rfl, trivial⟩, rfl, fun _ _ => rfl⟩
         · have hge : ¬ i < a.l.length := by have := of_decide_eq_false h; rw [List.length_map] at this; omega
           repeat' first
             | refine g_go T hC true 400 rfl rfl ?_
             | refine g_cond rfl (fun h => ?_) (fun h => ?_)
             | refine g_end T hC (by kernel_rfl) ?_
             | refine g_splitD (fun h => ?_) (fun h => ?_)
             | refine g_splitG rfl rfl rfl (fun h => ?_) (fun h => ?_)
             | refine g_splitP rfl rfl (fun h => ?_) (fun h => ?_)
             | refine g_outE ?_
             | refine g_retl T (.inl rfl) rfl ?_
           rw [List.drop_eq_nil_of_le (by omega), List.drop_eq_nil_of_le (by omega)] at hn
           exact hn)
end Hw.Z
namespace Hw.Z
open Go Go.Proofs Hw.M

/-! Fields -/
def sameF (a b : Fld) : Bool := decide (a.n = b.n) && decide (a.t = b.t)
theorem sameF_refl (a : Fld) : sameF a a = true := by unfold sameF; rw [decide_eq_true rfl, decide_eq_true rfl]; rfl
theorem rsameFields_ok (a b : List Fld) : FnOK Tryz.prog 125 [pS (fieldsP a), pS (fieldsP b)] [] (.bq (eqL sameF a b)) [] := by
  refine fn_ok T Tryz.func125 (by kernel_rfl) rfl rfl rfl rfl fun C hC => ?_
  refine g_len 0 rfl fun hlen => ?_
  rw [List.length_map] at hlen
  repeat' first
    | refine g_go T hC true 400 rfl rfl ?_
    | refine g_cond rfl (fun h => ?_) (fun h => ?_)
    | refine g_end T hC (by kernel_rfl) ?_
    | refine g_splitD (fun h => ?_) (fun h => ?_)
    | refine g_splitG rfl rfl rfl (fun h => ?_) (fun h => ?_)
    | refine g_splitP rfl rfl (fun h => ?_) (fun h => ?_)
    | refine g_retl T (.inl rfl) rfl ?_
  all_goals (try simp only [List.length_map] at *)
  · have : ¬ (a.length : Int) = (b.length : Int) := by simpa using h
    exact (eqL_len fun e => this (by rw [e])).symm
  · have hab : a.length = b.length := by have : (a.length : Int) = (b.length : Int) := by simpa using h
                                         omega
    refine g_loop (fun i : Nat => i ≤ a.length ∧ eqL sameF (a.drop i) (b.drop i) = eqL sameF a b) (fun i => ([(0, pS (fieldsP a)), (1, pS (fieldsP b)), (5, I i)], [])) (fun i => a.length - i) hC
      0 ⟨Nat.zero_le _, rfl⟩ id ⟨rfl, ⟨rfl, rfl, rfl, trivial⟩, trivial, rfl, fun _ _ => rfl⟩ ?_
    rintro i ⟨hi, hn⟩
    refine g_run' T hC true 200 rfl ?_
    refine g_cond rfl (fun h => ?_) (fun h => ?_)
    · have hlt : i < a.length := by have := of_decide_eq_true h; simp only [List.length_map] at this; omega
      clear h
      obtain ⟨x, hx⟩ := exists_at hlt
      obtain ⟨y, hy⟩ := exists_at (hab ▸ hlt)
      rw [drop_at hx, drop_at hy, eqL] at hn
      repeat' first
        | refine g_go T hC true 400 rfl rfl ?_
        | refine g_cond rfl (fun h => ?_) (fun h => ?_)
        | refine g_end T hC (by kernel_rfl) ?_
        | refine g_splitD (fun h => ?_) (fun h => ?_)
        | refine g_splitG rfl rfl rfl (fun h => ?_) (fun h => ?_)
        | refine g_splitP rfl rfl (fun h => ?_) (fun h => ?_)
        | refine g_idx T hC rfl rfl rfl (Int.natCast_nonneg _) (map_at hx) rfl rfl ?_
        | refine g_idx T hC rfl rfl rfl (Int.natCast_nonneg _) (map_at hy) rfl rfl ?_
        | (refine g_neqSS (a := x.n) (b := x.t) (a' := y.n) (b' := y.t) hC rfl rfl (by kernel_rfl) rfl rfl ?_)
        | refine g_outR ?_
        | refine g_retl T (.inl rfl) rfl ?_
      · have hxy : sameF x y = false := by have h' := h; rw [Bool.not_eq_true'] at h'; exact h'
        rw [hxy] at hn; exact hn
      · have hxy : sameF x y = true := by have h' := h; rw [Bool.not_eq_false'] at h'; exact h'
        rw [hxy, Bool.true_and] at hn
        rw [wrap64 (by omega)]
        exact g_round (i + 1) ⟨by omega, hn⟩ id (by omega) ⟨rfl, ⟨rfl, rfl, rfl, trivial⟩, trivial, rfl, fun _ _ => rfl⟩
    · have hge : ¬ i < a.length := by have := of_decide_eq_false h; simp only [List.length_map] at this; omega
      repeat' first
        | refine g_go T hC true 400 rfl rfl ?_
        | refine g_cond rfl (fun h => ?_) (fun h => ?_)
        | refine g_end T hC (by kernel_rfl) ?_
        | refine g_splitD (fun h => ?_) (fun h => ?_)
        | refine g_splitG rfl rfl rfl (fun h => ?_) (fun h => ?_)
        | refine g_splitP rfl rfl (fun h => ?_) (fun h => ?_)
        | refine g_outE ?_
        | refine g_retl T (.inl rfl) rfl ?_
      rw [List.drop_eq_nil_of_le (by omega), List.drop_eq_nil_of_le (by omega)] at hn
      exact hn

/-! Statements -/
mutual
def sameS : Sm → Sm → Bool
  | .mk o s e l els, .mk o' s' e' l' els' => decide (o = o') && decide (s = s') && eqL sameE e e' && sameSs l l' && sameSs els els'
def sameSs : List Sm → List Sm → Bool
  | [], [] => true
  | x :: a, y :: b => sameS x y && sameSs a b
  | [], _ :: _ => false
  | _ :: _, [] => false
end
theorem sameSs_eq : ∀ a b : List Sm, sameSs a b = eqL sameS a b
  | [], [] => by simp only [sameSs, eqL]
  | x :: a, y :: b => by simp only [sameSs, eqL, sameSs_eq a b]
  | [], _ :: _ => by simp only [sameSs, eqL]
  | _ :: _, [] => by simp only [sameSs, eqL]
theorem sameS_eq (a b : Sm) : sameS a b = (decide (a.op = b.op) && decide (a.s = b.s) && eqL sameE a.e b.e && eqL sameS a.l b.l && eqL sameS a.els b.els) := by
  cases a; cases b; simp only [sameS, sameSs_eq, Sm.op, Sm.s, Sm.e, Sm.l, Sm.els]; rfl
theorem sm_sub (a : Sm) : sizeOf a.l < sizeOf a ∧ sizeOf a.els < sizeOf a := by
  cases a; simp only [Sm.l, Sm.els, Sm.mk.sizeOf_spec]; omega
theorem sameS_refl : ∀ (k : Nat) (a : Sm), sizeOf a < k → sameS a a = true := by
  intro k
  induction k with
  | zero => intro a h; omega
  | succ k ih =>
    intro a h
    have hs := sm_sub a
    rw [sameS_eq, decide_eq_true rfl, decide_eq_true rfl, eqL_refl fun x _ => sameE_refl (SizeOf.sizeOf x + 1) x (by omega), eqL_refl fun x hx => ih x (by have := List.sizeOf_lt_of_mem hx; omega), eqL_refl fun x hx => ih x (by have := List.sizeOf_lt_of_mem hx; omega)]
    rfl
end Hw.Z
