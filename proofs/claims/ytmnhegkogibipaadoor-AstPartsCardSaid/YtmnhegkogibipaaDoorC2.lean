/- The engine and the contracts. -/
import Derived.Test.YtmnhegkogibipaaDoorC1
import Derived.Test.YtmnhegkogibipaaDoorE3
set_option linter.unusedVariables false
set_option linter.unusedSimpArgs false
namespace Hw.D
open Go Go.Proofs Hw.M

def partsS (op : Int) : Int :=
  if (decide (1 ≤ op) && decide (op ≤ 4)) || decide (op = 6) then 0
  else if ((decide (op = 5) || decide (op = 8)) || decide (op = 18)) || decide (op = 24) then 1
  else if op = 7 then -1
  else if op = 21 then 3
  else if decide (9 ≤ op) && decide (op ≤ 23) then 2
  else -2
theorem parts_ok (op : Int) : FnOK Tryd.prog 79 [I op] [] (I (partsS op)) [] := by
  refine fn_ok T Tryd.func79 (by kernel_rfl) rfl rfl rfl rfl fun C hC => ?_
  repeat' first
    | refine g_go T hC true 400 rfl rfl ?_
    | refine g_cond rfl (fun h => ?_) (fun h => ?_)
    | refine g_end T hC (by kernel_rfl) ?_
    | refine g_splitD (fun h => ?_) (fun h => ?_)
    | refine g_splitG rfl rfl rfl (fun h => ?_) (fun h => ?_)
    | refine g_splitP rfl rfl (fun h => ?_) (fun h => ?_)
    | refine g_reti T (.inl rfl) rfl ?_
  all_goals (simp only [partsS]; simp_all <;> omega)
def namedS (e : Ex) : Bool :=
  if e.op = 4 then decide (e.s = (⟨#[116, 104, 105, 115]⟩ : ByteArray)) || isName e.s
  else if e.op = 5 ∨ e.op = 6 ∨ e.op = 7 then isName e.s
  else decide (e.s = (⟨#[]⟩ : ByteArray))
theorem named_ok (e : Ex) : FnOK Tryd.prog 80 [aggS (exprC e)] [] (.bq (namedS e)) [] := by
  refine fn_ok T Tryd.func80 (by kernel_rfl) rfl rfl rfl rfl fun C hC => ?_
  repeat' first
    | refine g_go T hC true 400 rfl rfl ?_
    | refine g_cond rfl (fun h => ?_) (fun h => ?_)
    | refine g_end T hC (by kernel_rfl) ?_
    | refine g_splitD (fun h => ?_) (fun h => ?_)
    | refine g_splitG rfl rfl rfl (fun h => ?_) (fun h => ?_)
    | refine g_splitP rfl rfl (fun h => ?_) (fun h => ?_)
    | refine g_call hC (isName_ok _) rfl rfl (LeSs.refl _) rfl rfl rfl ?_
    | refine g_retl T (.inl rfl) rfl ?_
    | refine g_retq T (.inl rfl) rfl ?_
  all_goals simp_all [namedS]

def nodeS (e : Ex) : Bool :=
  !decide (partsS e.op = -2) && !(decide (0 ≤ partsS e.op) && !decide ((e.l.length : Int) = partsS e.op)) && !(decide (partsS e.op = -1) && decide (6 < (e.l.length : Int))) && namedS e &&
  (if e.op = 1 then decide (0 ≤ e.n) && decide (e.n ≤ 1099511627776) else if e.op = 2 then decide (e.n = 0) || decide (e.n = 1) else decide (e.n = 0))
theorem node_ok (e : Ex) : FnOK Tryd.prog 66 [aggS (exprC e)] [] (.bq (nodeS e)) [] := by
  refine fn_ok T Tryd.func66 (by kernel_rfl) rfl rfl rfl rfl fun C hC => ?_
  repeat' first
    | refine g_go T hC true 400 rfl rfl ?_
    | refine g_cond rfl (fun h => ?_) (fun h => ?_)
    | refine g_end T hC (by kernel_rfl) ?_
    | refine g_splitD (fun h => ?_) (fun h => ?_)
    | refine g_splitG rfl rfl rfl (fun h => ?_) (fun h => ?_)
    | refine g_splitP rfl rfl (fun h => ?_) (fun h => ?_)
    | refine g_call hC (parts_ok _) rfl rfl (LeSs.refl _) rfl rfl rfl ?_
    | refine g_call hC (named_ok _) rfl rfl (LeSs.refl _) rfl rfl rfl ?_
    | refine g_retl T (.inl rfl) rfl ?_
    | refine g_retq T (.inl rfl) rfl ?_
  all_goals (try simp only [List.length_map] at *)
  all_goals (simp_all [nodeS] <;> omega)

mutual
/-- The number of nodes, as it is counted: more than 1000 if the expression is not valid. -/
def countS : Ex → Int → Int
  | .mk op n s l, d => if decide (60 < d) || !nodeS (.mk op n s l) then 1001 else countL l d 1
def countL : List Ex → Int → Int → Int
  | [], _, n => n
  | e :: es, d, n => if 1000 < n + countS e (d + 1) then n + countS e (d + 1) else countL es d (n + countS e (d + 1))
end
mutual
theorem countS_bound : ∀ (e : Ex) (d : Int), 1 ≤ countS e d ∧ countS e d ≤ 1001 + 1000 * (if d ≤ 60 then 61 - d else 0)
  | .mk op n s l, d => by
    simp only [countS]
    split
    · split <;> omega
    · rename_i h
      simp only [Bool.or_eq_true, decide_eq_true_eq, Bool.not_eq_true', not_or] at h
      have := countL_bound l d 1 (by omega) (by omega) (by omega)
      rw [if_pos (by omega)]; omega
theorem countL_bound : ∀ (l : List Ex) (d n : Int), 1 ≤ n → n ≤ 1000 → d ≤ 60 → 1 ≤ countL l d n ∧ countL l d n ≤ 1001 + 1000 * (61 - d)
  | [], d, n, h1, h2, h3 => by simp only [countL]; omega
  | e :: es, d, n, h1, h2, h3 => by
    simp only [countL]
    have hb := countS_bound e (d + 1)
    split at hb
    · split
      · omega
      · exact countL_bound es d _ (by omega) (by omega) h3
    · split
      · omega
      · exact countL_bound es d _ (by omega) (by omega) h3
end
end Hw.D
namespace Hw.D
open Go Go.Proofs Hw.M

theorem countS_eq (e : Ex) (d : Int) : countS e d = if decide (60 < d) || !nodeS e then 1001 else countL e.l d 1 := by
  cases e; simp only [countS, Ex.l]
theorem size_part {e x : Ex} {i : Nat} (h : e.l[i]? = some x) : sizeOf x < sizeOf e := by
  obtain ⟨op, n, s, l⟩ := e
  have := List.sizeOf_lt_of_mem (List.mem_of_getElem? h)
  simp only [Ex.l] at this
  simp only [Ex.mk.sizeOf_spec]; omega
theorem drop_at {α : Type} {l : List α} {i : Nat} {x : α} (h : l[i]? = some x) : l.drop i = x :: l.drop (i + 1) := by
  obtain ⟨hlt, rfl⟩ := List.getElem?_eq_some_iff.1 h
  exact List.drop_eq_getElem_cons hlt

theorem count_ok : ∀ (N : Nat) (e : Ex) (d : Int), sizeOf e < N → -1000 ≤ d → d ≤ 1000 → FnOK Tryd.prog 28 [aggS (exprC e), I d] [] (I (countS e d)) [] := by
  intro N
  induction N with
  | zero => intro e d h; omega
  | succ N ih =>
    intro e d hN hd1 hd2
    refine fn_ok T Tryd.func28 (by kernel_rfl) rfl rfl rfl rfl fun C hC => ?_
    refine g_lenA rfl 0 3 rfl rfl fun hlen => ?_
    rw [List.length_map] at hlen
    repeat' first
      | refine g_go T hC true 400 rfl rfl ?_
      | refine g_cond rfl (fun h => ?_) (fun h => ?_)
      | refine g_end T hC (by kernel_rfl) ?_
      | refine g_splitD (fun h => ?_) (fun h => ?_)
      | refine g_splitG rfl rfl rfl (fun h => ?_) (fun h => ?_)
      | refine g_splitP rfl rfl (fun h => ?_) (fun h => ?_)
      | refine g_call hC (node_ok _) rfl rfl (LeSs.refl _) rfl rfl rfl ?_
      | refine g_reti T (.inl rfl) rfl ?_
    · rw [countS_eq, h]; rfl
    · rename_i h0
      rw [countS_eq, h0, h]; rfl
    · rename_i h0
      have hd : d ≤ 60 := by have := of_decide_eq_false h0; omega
      have hc : countS e d = countL e.l d 1 := by rw [countS_eq, h0, h]; rfl
      rw [hc]
      refine g_loop (fun p : Nat × Int => p.1 ≤ e.l.length ∧ 1 ≤ p.2 ∧ p.2 ≤ 1000 ∧ countL (e.l.drop p.1) d p.2 = countL e.l d 1) (fun p => ([(1, I d), (2, .one (.bx 1002 0)), (5, I p.2), (6, I p.1)], [(1002, some (.box ((exprC e).map V.p)))])) (fun p => e.l.length - p.1) hC
        (0, 1) ⟨Nat.zero_le _, by omega, by omega, rfl⟩ id ⟨rfl, ⟨rfl, rfl, rfl, rfl, trivial⟩, ⟨rfl, trivial⟩, rfl, fun _ _ => rfl⟩ ?_
      rintro ⟨i, n⟩ ⟨hi, hn1, hn2, hn⟩
      simp only at hi hn1 hn2 hn
      refine g_run' T hC true 200 rfl ?_
      refine g_cond rfl (fun h => ?_) (fun h => ?_)
      · have hlt : i < e.l.length := by simpa using h
        obtain ⟨x, hx⟩ := exists_at hlt
        have hb : 1 ≤ countS x (d + 1) ∧ countS x (d + 1) ≤ 2000000 := by
          have hb := countS_bound x (d + 1)
          split at hb <;> omega
        have hw : IntKind.i64.wrap (n + countS x (d + 1)) = n + countS x (d + 1) := wrap64 (by omega)
        rw [drop_at hx] at hn
        simp only [countL] at hn
        repeat' first
          | refine g_go T hC true 400 rfl rfl ?_
          | refine g_cond rfl (fun h => ?_) (fun h => ?_)
          | refine g_end T hC (by kernel_rfl) ?_
          | refine g_splitD (fun h => ?_) (fun h => ?_)
          | refine g_splitG rfl rfl rfl (fun h => ?_) (fun h => ?_)
          | refine g_splitP rfl rfl (fun h => ?_) (fun h => ?_)
          | refine g_idx T hC rfl rfl rfl (Int.natCast_nonneg _) (map_atE (by assumption)) rfl rfl ?_
        rw [wrap64 (by omega)]
        refine g_call hC (ih x (d + 1) (by have := size_part hx; omega) (by omega) (by omega)) rfl rfl (LeSs.refl _) rfl rfl rfl ?_
        repeat' first
          | refine g_go T hC true 400 rfl rfl ?_
          | refine g_cond rfl (fun h => ?_) (fun h => ?_)
          | refine g_end T hC (by kernel_rfl) ?_
          | refine g_splitD (fun h => ?_) (fun h => ?_)
          | refine g_splitG rfl rfl rfl (fun h => ?_) (fun h => ?_)
          | refine g_splitP rfl rfl (fun h => ?_) (fun h => ?_)
          | refine g_outR ?_
          | refine g_reti T (.inl rfl) rfl ?_
        · simp only [hw] at h ⊢
          rw [if_pos (of_decide_eq_true h)] at hn
          exact hn
        · simp only [hw] at h
          have hle := of_decide_eq_false h
          rw [if_neg hle] at hn
          have hw2 : IntKind.i64.wrap ((i : Int) + 1) = ((i + 1 : Nat) : Int) := by rw [wrap64 (by omega)]; omega
          simp only [hw, hw2]
          exact g_round (i + 1, n + countS x (d + 1)) ⟨by simp only; omega, by simp only; omega, by simp only; omega, hn⟩ id (by simp only; omega) ⟨rfl, ⟨rfl, rfl, rfl, rfl, trivial⟩, ⟨rfl, trivial⟩, rfl, fun _ _ => rfl⟩
      · have hge : ¬ i < e.l.length := by simpa using h
        rw [List.drop_eq_nil_of_le (by omega)] at hn
        simp only [countL] at hn
        repeat' first
          | refine g_go T hC true 400 rfl rfl ?_
          | refine g_cond rfl (fun h => ?_) (fun h => ?_)
          | refine g_end T hC (by kernel_rfl) ?_
          | refine g_splitD (fun h => ?_) (fun h => ?_)
          | refine g_splitG rfl rfl rfl (fun h => ?_) (fun h => ?_)
          | refine g_splitP rfl rfl (fun h => ?_) (fun h => ?_)
          | refine g_outE ?_
          | refine g_reti T (.inl rfl) rfl ?_
        exact hn
end Hw.D
namespace Hw.D
open Go Go.Proofs Hw.M

/-- P9.1 -/
def exprOk (e : Ex) : Bool := decide (countS e 1 ≤ 1000)
theorem expr_ok (e : Ex) : FnOK Tryd.prog 11 [aggS (exprC e)] [] (.bq (exprOk e)) [] := by
  refine fn_ok T Tryd.func11 (by kernel_rfl) rfl rfl rfl rfl fun C hC => ?_
  repeat' first
    | refine g_go T hC true 400 rfl rfl ?_
    | refine g_cond rfl (fun h => ?_) (fun h => ?_)
    | refine g_end T hC (by kernel_rfl) ?_
    | refine g_splitD (fun h => ?_) (fun h => ?_)
    | refine g_splitG rfl rfl rfl (fun h => ?_) (fun h => ?_)
    | refine g_splitP rfl rfl (fun h => ?_) (fun h => ?_)
    | refine g_call hC (count_ok (sizeOf e + 1) e 1 (by omega) (by omega) (by omega)) rfl rfl (LeSs.refl _) rfl rfl rfl ?_
    | refine g_retq T (.inl rfl) rfl ?_
  rfl
def exprsOk (s : Sm) (lo hi : Int) : Bool := !decide ((s.e.length : Int) < lo) && !decide (hi < (s.e.length : Int)) && s.e.all exprOk
end Hw.D
namespace Hw.D
open Go Go.Proofs Hw.M

theorem map_atE0 {l : List Ex} {x : Ex} (h : l[0]? = some x) : (l.map exprR)[(0 : Int).toNat]? = some (exprC x) := map_atE (i := 0) h
def simpleS (s : Sm) : Bool := decide ((s.l.length : Int) = 0) && decide ((s.els.length : Int) = 0)
def shapeB (s : Sm) (b : Bool) : Bool :=
  if s.op = 1 then isName s.s && exprsOk s 1 1 && b
  else if s.op = 2 then isName s.s && exprsOk s 2 2 && b
  else if s.op = 3 then decide (s.s = (⟨#[]⟩ : ByteArray)) && exprsOk s 1 1
  else if s.op = 4 then decide (s.s = (⟨#[]⟩ : ByteArray)) && exprsOk s 1 1 && decide ((s.els.length : Int) = 0)
  else if s.op = 5 then decide (s.s = (⟨#[]⟩ : ByteArray)) && exprsOk s 0 1 && b
  else if s.op = 6 then decide (s.s = (⟨#[]⟩ : ByteArray)) && exprsOk s 1 1 && decide ((s.e[0]?).map Ex.op = some 7) && b
  else false
def shapeS (s : Sm) : Bool := shapeB s (simpleS s)
theorem exprsOk_one {s : Sm} (h : exprsOk s 1 1 = true) : ∃ x, s.e[0]? = some x := by
  refine exists_at ?_
  simp only [exprsOk, Bool.and_eq_true, Bool.not_eq_true', decide_eq_false_iff_not] at h
  have := h.1.1; omega
end Hw.D
namespace Hw.D
open Go Go.Proofs Hw.M

def bump (n k : Int) : Int := if n ≤ 200 then n + k else n
mutual
/-- The count after a statement; more than 200 if it is not valid. -/
def stN : Sm → Int → Int → Int
  | .mk op s e l els, d, n => if decide (60 < d) || !shapeS (.mk op s e l els) then 201 else bump (bump (n + 1) (stL l (d + 1) 0)) (stL els (d + 1) 0)
def stL : List Sm → Int → Int → Int
  | [], _, n => n
  | s :: r, d, n => if 200 < stN s d n then stN s d n else stL r d (stN s d n)
end
theorem stN_eq (s : Sm) (d n : Int) : stN s d n = if decide (60 < d) || !shapeS s then 201 else bump (bump (n + 1) (stL s.l (d + 1) 0)) (stL s.els (d + 1) 0) := by
  cases s; simp only [stN, Sm.l, Sm.els]
def capS (d : Int) : Int := 201 + 400 * (if d ≤ 60 then 61 - d else 0)
theorem bump_bound {n k K : Int} (hn : 0 ≤ n) (hk : 0 ≤ k ∧ k ≤ K) (h : n ≤ 200 + K) : 0 ≤ bump n k ∧ bump n k ≤ 200 + K := by
  unfold bump; split <;> omega
theorem bump_nn {n k : Int} (hn : 0 < n) (hk : 0 ≤ k) : 0 < bump n k := by
  unfold bump; split <;> omega
mutual
theorem stN_bound : ∀ (s : Sm) (d n : Int), 0 ≤ n → n ≤ 200 → 0 ≤ stN s d n ∧ stN s d n ≤ capS d
  | .mk op s e l els, d, n, h0, h1 => by
    simp only [stN]
    split
    · unfold capS; split <;> omega
    · rename_i h
      simp only [Bool.or_eq_true, decide_eq_true_eq, Bool.not_eq_true', not_or] at h
      have b1 := stL_bound l (d + 1) 0 (by omega) (by omega)
      have b2 := stL_bound els (d + 1) 0 (by omega) (by omega)
      have b0 : 1 ≤ capS (d + 1) := by unfold capS; split <;> omega
      have c1 := bump_bound (n := n + 1) (by omega) b1 (by omega)
      have c2 := bump_bound c1.1 b2 c1.2
      have : 200 + capS (d + 1) ≤ capS d := by unfold capS; rw [if_pos (c := d ≤ 60) (by omega)]; split <;> omega
      omega
theorem stL_bound : ∀ (l : List Sm) (d n : Int), 0 ≤ n → n ≤ 200 → 0 ≤ stL l d n ∧ stL l d n ≤ capS d
  | [], d, n, h0, h1 => by
    simp only [stL]; refine ⟨h0, ?_⟩; unfold capS; split <;> omega
  | s :: r, d, n, h0, h1 => by
    simp only [stL]
    have b := stN_bound s d n h0 h1
    split
    · exact b
    · exact stL_bound r d _ b.1 (by omega)
end
theorem size_l {s x : Sm} {l : List Sm} (h : x ∈ l) (hl : sizeOf l < sizeOf s) : sizeOf x < sizeOf s := by
  have := List.sizeOf_lt_of_mem h; omega
theorem size_sub (s : Sm) : sizeOf s.l < sizeOf s ∧ sizeOf s.els < sizeOf s := by
  cases s; simp only [Sm.l, Sm.els, Sm.mk.sizeOf_spec]; omega
theorem size_at {α : Type} [SizeOf α] {l : List α} {i : Nat} {x : α} (h : l[i]? = some x) : sizeOf x < sizeOf l := List.sizeOf_lt_of_mem (List.mem_of_getElem? h)

end Hw.D
namespace Hw.D
open Go Go.Proofs Hw.M

def procOk (p : Pr) : Bool := isName p.n && fieldsOk p.params 6 && fieldsOk p.locs 12 && (decide (p.res = (⟨#[]⟩ : ByteArray)) || isType p.res) && decide (stL p.body 1 0 ≤ 200)
def measOk (m : Ms) : Bool := isName m.n && isName m.t && !decide (m.z < -1099511627776) && !decide (1099511627776 < m.z) && exprOk m.x
def invOk (m : Iv) : Bool := isName m.n && isOpen m.t && exprOk m.x
def potOk (m : Pt) : Bool := isOpen m.t && exprOk m.x
def boundOk (m : Bd) : Bool := isName m.p && exprOk m.x
def formulasOk (d : Desc) : Bool := d.measures.all measOk && d.invs.all invOk && d.pots.all potOk && d.bounds.all boundOk
def typeOk (t : NodeT) : Bool := isName t.n && fieldsOk t.f 12
def validPre (d : Desc) : Bool := isName d.n && !decide (12 < (d.types.length : Int)) && fieldsOk d.globals 8 && !decide (40 < (d.procs.length : Int)) &&
  !decide (12 < (d.measures.length : Int)) && !decide (12 < (d.invs.length : Int)) && !decide (12 < (d.pots.length : Int)) && !decide (12 < (d.bounds.length : Int))
/-- P9.1 -/
def validD (d : Desc) : Bool := validPre d && d.types.all typeOk && d.procs.all procOk && formulasOk d
end Hw.D
namespace Hw.D
open Go Go.Proofs Hw.M

def wideF (f : Fld) : Bool := decide (100 < (f.n.size : Int)) || decide (100 < (f.t.size : Int))
def wideS (l : List Fld) : Bool := decide (60 < (l.length : Int)) || !l.all fun f => !wideF f
mutual
/-- How many nodes are left after an expression; -1 if there are too many. -/
def leftS : Ex → Int → Int → Int
  | .mk _ _ s l, d, n => if decide (n ≤ 0) || decide (d = 0) || decide (100 < (s.size : Int)) then -1 else leftL l (d - 1) (n - 1)
def leftL : List Ex → Int → Int → Int
  | [], _, n => n
  | e :: es, d, n => if 0 ≤ n then leftL es d (leftS e d n) else n
end
theorem leftS_eq (e : Ex) (d n : Int) : leftS e d n = if decide (n ≤ 0) || decide (d = 0) || decide (100 < (e.s.size : Int)) then -1 else leftL e.l (d - 1) (n - 1) := by
  cases e; rfl
mutual
theorem leftS_bound : ∀ (e : Ex) (d n : Int), -1 ≤ n → -1 ≤ leftS e d n ∧ leftS e d n ≤ n
  | .mk a b s l, d, n, h => by
    simp only [leftS]
    split
    · omega
    · rename_i h'
      simp only [Bool.or_eq_true, decide_eq_true_eq, not_or] at h'
      have := leftL_bound l (d - 1) (n - 1) (by omega); omega
theorem leftL_bound : ∀ (l : List Ex) (d n : Int), -1 ≤ n → -1 ≤ leftL l d n ∧ leftL l d n ≤ n
  | [], d, n, h => by simp only [leftL]; omega
  | e :: es, d, n, h => by
    simp only [leftL]
    split
    · have h1 := leftS_bound e d n h
      have h2 := leftL_bound es d _ h1.1
      omega
    · omega
end
theorem leftL_neg {l : List Ex} {d n : Int} (h : n < 0) : leftL l d n = n := by
  cases l with
  | nil => rfl
  | cons e es => simp only [leftL]; rw [if_neg (by omega)]
theorem sizeE_sub (e : Ex) : sizeOf e.l < sizeOf e := by
  cases e; simp only [Ex.l, Ex.mk.sizeOf_spec]; omega

mutual
def laN : Sm → Int → Int → Int
  | .mk _ s e l els, d, n => if 100 < (s.size : Int) then -1 else
      if 0 ≤ (if 0 ≤ leftL e 65 (n - 1) then (if d - 1 = 0 then -1 else laL l (d - 1) (leftL e 65 (n - 1))) else leftL e 65 (n - 1)) then
        (if d - 1 = 0 then -1 else laL els (d - 1) (if 0 ≤ leftL e 65 (n - 1) then (if d - 1 = 0 then -1 else laL l (d - 1) (leftL e 65 (n - 1))) else leftL e 65 (n - 1)))
      else (if 0 ≤ leftL e 65 (n - 1) then (if d - 1 = 0 then -1 else laL l (d - 1) (leftL e 65 (n - 1))) else leftL e 65 (n - 1))
def laL : List Sm → Int → Int → Int
  | [], _, n => n
  | s :: r, d, n => if 0 ≤ n then laL r d (laN s d n) else n
end
/-- The nodes that are left after statements. -/
def laS (l : List Sm) (d n : Int) : Int := if d = 0 then -1 else laL l d n
def laT (l : List Sm) (d n : Int) : Int := if 0 ≤ n then laS l d n else n
theorem laN_eq (s : Sm) (d n : Int) : laN s d n = if 100 < (s.s.size : Int) then -1 else laT s.els (d - 1) (laT s.l (d - 1) (leftL s.e 65 (n - 1))) := by
  cases s; rfl
theorem laT_bound {l : List Sm} {d n : Int} (h : -1 ≤ n) (ih : 0 ≤ n → -1 ≤ laL l d n ∧ laL l d n ≤ n) : -1 ≤ laT l d n ∧ laT l d n ≤ n := by
  unfold laT laS
  split
  · split
    · omega
    · exact ih (by omega)
  · omega
mutual
theorem laN_bound : ∀ (s : Sm) (d n : Int), 0 ≤ n → -1 ≤ laN s d n ∧ laN s d n ≤ n
  | .mk op s e l els, d, n, h => by
    rw [laN_eq]
    by_cases hh : 100 < ((Sm.mk op s e l els).s.size : Int)
    · rw [if_pos hh]; omega
    · rw [if_neg hh]
      simp only [Sm.els, Sm.l, Sm.e]
      have h1 := leftL_bound e 65 (n - 1) (by omega)
      have h2 := laT_bound (l := l) (d := d - 1) h1.1 (fun h0 => laL_bound l (d - 1) _ (by omega))
      have h3 := laT_bound (l := els) (d := d - 1) h2.1 (fun h0 => laL_bound els (d - 1) _ (by omega))
      omega
theorem laL_bound : ∀ (l : List Sm) (d n : Int), -1 ≤ n → -1 ≤ laL l d n ∧ laL l d n ≤ n
  | [], d, n, h => by simp only [laL]; omega
  | s :: r, d, n, h => by
    simp only [laL]
    split
    · rename_i h0
      have h1 := laN_bound s d n h0
      have h2 := laL_bound r d _ h1.1
      omega
    · omega
end
theorem laL_neg {l : List Sm} {d n : Int} (h : n < 0) : laL l d n = n := by
  cases l with
  | nil => rfl
  | cons e es => simp only [laL]; rw [if_neg (by omega)]
theorem laS_bound {l : List Sm} {d n : Int} (h : 0 ≤ n) : -1 ≤ laS l d n ∧ laS l d n ≤ n := by
  unfold laS; split
  · omega
  · exact laL_bound l d n (by omega)
end Hw.D
namespace Hw.D
open Go Go.Proofs Hw.M

theorem mul_one' (i : Nat) : ((i : Int) + 1) = ((i + 1 : Nat) : Int) := by omega
theorem wrapS {i : Nat} (h : i < 9223372036854775807) : IntKind.i64.wrap ((i : Int) + 1) = ((i + 1 : Nat) : Int) := by rw [mul_one']; exact wrap64 (by omega)
theorem laT_neg {l : List Sm} {d n : Int} (h : n < 0) : laT l d n = n := if_neg (by omega)
end Hw.D
