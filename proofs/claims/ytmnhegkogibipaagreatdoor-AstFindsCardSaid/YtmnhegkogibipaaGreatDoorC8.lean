/- The engine and the contracts. -/
import Derived.Test.YtmnhegkogibipaaGreatDoorC5
import Derived.Test.YtmnhegkogibipaaGreatDoorC7
set_option linter.unusedVariables false
set_option linter.unusedSimpArgs false
namespace Hw.Z
open Go Go.Proofs Go.Shelf Hw.M

/-! Texts: joined strings -/
def catB : List Str → Str
  | [] => (⟨#[]⟩ : ByteArray)
  | a :: l => a ++ catB l
theorem nil_cat (a : Str) : (⟨#[]⟩ : ByteArray) ++ a = a := ByteArray.empty_append
theorem cat_nil (a : Str) : a ++ (⟨#[]⟩ : ByteArray) = a := ByteArray.append_empty
theorem catB_append : ∀ a b : List Str, catB (a ++ b) = catB a ++ catB b
  | [], b => (nil_cat _).symm
  | x :: a, b => by simp only [List.cons_append, catB, catB_append a b, ByteArray.append_assoc]
theorem take_snoc9 {α : Type} {l : List α} {i : Nat} {x : α} (h : l[i]? = some x) : l.take (i + 1) = l.take i ++ [x] := by
  rw [List.take_add_one, h]; rfl
theorem catB_take {l : List Str} {i : Nat} {x : Str} (h : l[i]? = some x) : catB (l.take (i + 1)) = catB (l.take i) ++ x := by
  rw [take_snoc9 h, catB_append, catB, catB, cat_nil]
theorem catB_le {k : Nat} : ∀ {l : List Str}, (∀ x ∈ l, x.size ≤ k) → (catB l).size ≤ k * l.length
  | [], _ => Nat.zero_le _
  | a :: l, h => by
    have h1 := h a (by simp)
    have h2 := catB_le (l := l) fun x hx => h x (by simp [hx])
    rw [catB, size_app, List.length_cons, Nat.mul_add, Nat.mul_one]; omega
theorem catB_take_le (l : List Str) (i : Nat) : (catB (l.take i)).size ≤ (catB l).size := by
  conv => rhs; rw [← List.take_append_drop i l, catB_append, size_app]
  omega
theorem boolB_size (b : Bool) : (boolB b).size ≤ 5 := by
  unfold boolB; split
  · show 4 ≤ 5; decide
  · show 5 ≤ 5; decide
theorem name_le {s : Str} (h : isName s = true) : s.size ≤ 40 := by
  simp only [isName, Bool.and_eq_true, Bool.not_eq_true', decide_eq_false_iff_not] at h
  have := h.1.1.1.2
  omega
theorem app_rows {a b c : Str} (h : a ++ b = c) : bytesR a ++ bytesR b = bytesR c := by rw [← bytesR_append, h]
def mvo (a b i : Nat) : Nat := match Nat.beq i a with
  | true => b
  | false => i
theorem mvo_low {a b i : Nat} (ha : 100 ≤ a) (hi : i < 100) : mvo a b i = i := by
  unfold mvo; rw [beq_ne (by omega)]
end Hw.Z
namespace Hw.Z
open Go Go.Proofs Hw.M

/-! Signs and levels -/
abbrev sgRow := Int × Int × Str
def signT : List sgRow := [(20, 1, (⟨#[111, 114]⟩ : ByteArray)), (19, 2, (⟨#[97, 110, 100]⟩ : ByteArray)), (14, 4, (⟨#[61, 61]⟩ : ByteArray)), (15, 4, (⟨#[33, 61]⟩ : ByteArray)), (16, 4, (⟨#[60]⟩ : ByteArray)), (17, 4, (⟨#[60, 61]⟩ : ByteArray)), (9, 5, (⟨#[43]⟩ : ByteArray)), (10, 5, (⟨#[45]⟩ : ByteArray)), (11, 6, (⟨#[42]⟩ : ByteArray)), (12, 6, (⟨#[47]⟩ : ByteArray)), (13, 6, (⟨#[37]⟩ : ByteArray))]
def sgR (x : sgRow) : List V := [.p (ki x.1), .p (ki x.2.1), .p (ks x.2.2)]
def signC : List V := signT.flatMap sgR
def sgn (op : Int) : Option sgRow := signT.find? fun x => decide (x.1 = op)
def signV (op : Int) : S := match sgn op with
  | some x => .tup [Sr x.2.2, I x.2.1, Bo true]
  | none => .tup [Sr (⟨#[]⟩ : ByteArray), I 0, Bo false]
theorem sg_row : ∀ (j : Nat) (x : sgRow), signT[j]? = some x → (signC.drop (((j : Nat) : Int).toNat * 3)).take 3 = sgR x
  | 0, x, h => by cases h; rfl
  | 1, x, h => by cases h; rfl
  | 2, x, h => by cases h; rfl
  | 3, x, h => by cases h; rfl
  | 4, x, h => by cases h; rfl
  | 5, x, h => by cases h; rfl
  | 6, x, h => by cases h; rfl
  | 7, x, h => by cases h; rfl
  | 8, x, h => by cases h; rfl
  | 9, x, h => by cases h; rfl
  | 10, x, h => by cases h; rfl
  | n + 11, x, h => by exfalso; have := (List.getElem?_eq_some_iff.1 h).1; simp [signT] at this; omega
theorem sign_ok (op : Int) : FnOK Tryz.prog 192 [I op] [] (signV op) [] := by
  refine fn_ok T Tryz.func192 (by kernel_rfl) rfl rfl rfl rfl fun C hC => ?_
  repeat' first
    | refine g_go T hC true 400 rfl rfl ?_
    | refine g_cond rfl (fun h => ?_) (fun h => ?_)
    | refine g_end T hC (by kernel_rfl) ?_
    | refine g_splitD (fun h => ?_) (fun h => ?_)
    | refine g_splitG rfl rfl rfl (fun h => ?_) (fun h => ?_)
    | refine g_splitP rfl rfl (fun h => ?_) (fun h => ?_)
  refine g_buildA (vs := signC) (len := 11) (e := 3) (el := 263) (zs := (List.replicate 11 [.p (ki 0), .p (ki 0), .p (ks (⟨#[]⟩ : ByteArray))]).flatten) hC rfl (by kernel_rfl) (by kernel_rfl) (by kernel_rfl) rfl (by kernel_rfl) rfl rfl ?_
  repeat' first
    | refine g_go T hC true 400 rfl rfl ?_
    | refine g_cond rfl (fun h => ?_) (fun h => ?_)
    | refine g_end T hC (by kernel_rfl) ?_
    | refine g_splitD (fun h => ?_) (fun h => ?_)
    | refine g_splitG rfl rfl rfl (fun h => ?_) (fun h => ?_)
    | refine g_splitP rfl rfl (fun h => ?_) (fun h => ?_)
  refine g_loop (fun j : Nat => j ≤ 11 ∧ (signT.drop j).find? (fun x => decide (x.1 = op)) = sgn op) (fun j => ([(0, I op), (20, .agg signC), (21, I j)], [])) (fun j => 11 - j) hC
    0 ⟨Nat.zero_le _, rfl⟩ id ⟨rfl, ⟨rfl, rfl, rfl, trivial⟩, trivial, rfl, fun _ _ => rfl⟩ ?_
  rintro j ⟨hj, hf⟩
  refine g_run' T hC true 200 rfl ?_
  refine g_cond rfl (fun h => ?_) (fun h => ?_)
  · have hlt : j < 11 := by have := of_decide_eq_true h; omega
    clear h
    obtain ⟨x, hx⟩ := exists_at (l := signT) (i := j) hlt
    rw [drop_at hx, List.find?_cons] at hf
    repeat' first
      | refine g_go T hC true 400 rfl rfl ?_
      | refine g_cond rfl (fun h => ?_) (fun h => ?_)
      | refine g_end T hC (by kernel_rfl) ?_
      | refine g_splitD (fun h => ?_) (fun h => ?_)
      | refine g_splitG rfl rfl rfl (fun h => ?_) (fun h => ?_)
      | refine g_splitP rfl rfl (fun h => ?_) (fun h => ?_)
    refine g_indexA (len := 11) (e := 3) (el := 263) hC rfl rfl (by kernel_rfl) (by kernel_rfl) (by kernel_rfl) (Int.natCast_nonneg _) (by omega) (sg_row j x hx) rfl rfl ?_
    repeat' first
      | refine g_go T hC true 400 rfl rfl ?_
      | refine g_cond rfl (fun h => ?_) (fun h => ?_)
      | refine g_end T hC (by kernel_rfl) ?_
      | refine g_splitD (fun h => ?_) (fun h => ?_)
      | refine g_splitG rfl rfl rfl (fun h => ?_) (fun h => ?_)
      | refine g_splitP rfl rfl (fun h => ?_) (fun h => ?_)
    · rw [h] at hf
      refine g_outR ?_
      rw [show signV op = .tup [Sr x.2.2, I x.2.1, Bo true] by unfold signV; rw [← hf]]
      repeat' first
        | refine g_go T hC true 400 rfl rfl ?_
        | refine g_cond rfl (fun h => ?_) (fun h => ?_)
        | refine g_end T hC (by kernel_rfl) ?_
        | refine g_splitD (fun h => ?_) (fun h => ?_)
        | refine g_splitG rfl rfl rfl (fun h => ?_) (fun h => ?_)
        | refine g_splitP rfl rfl (fun h => ?_) (fun h => ?_)
      exact g_fin ⟨.inl rfl, id, _, rfl, .refl _, trivial, rfl, rfl⟩
    · rw [h] at hf
      rw [wrap64 (by omega)]
      exact g_round (j + 1) ⟨by omega, hf⟩ id (by omega) ⟨rfl, ⟨rfl, rfl, rfl, trivial⟩, trivial, rfl, fun _ _ => rfl⟩
  · have hge : ¬ j < 11 := by have := of_decide_eq_false h; omega
    have e : j = 11 := by omega
    subst e
    rw [show signV op = .tup [Sr (⟨#[]⟩ : ByteArray), I 0, Bo false] by unfold signV; rw [← hf]; rfl]
    repeat' first
      | refine g_go T hC true 400 rfl rfl ?_
      | refine g_cond rfl (fun h => ?_) (fun h => ?_)
      | refine g_end T hC (by kernel_rfl) ?_
      | refine g_splitD (fun h => ?_) (fun h => ?_)
      | refine g_splitG rfl rfl rfl (fun h => ?_) (fun h => ?_)
      | refine g_splitP rfl rfl (fun h => ?_) (fun h => ?_)
      | refine g_outE ?_
    exact g_fin ⟨.inl rfl, id, _, rfl, .refl _, trivial, rfl, rfl⟩
def levS (op : Int) : Int := match sgn op with
  | some x => x.2.1
  | none => if op = 18 then 3 else if op = 8 then 7 else 8
theorem level_ok (e : Ex) : FnOK Tryz.prog 201 [aggS (exprC e)] [] (I (levS e.op)) [] := by
  have hS := sign_ok e.op
  cases hg : sgn e.op with
  | some x =>
    rw [show signV e.op = .tup [Sr x.2.2, I x.2.1, Bo true] by unfold signV; rw [hg]] at hS
    rw [show levS e.op = x.2.1 by unfold levS; rw [hg]]
    refine fn_ok T Tryz.func201 (by kernel_rfl) rfl rfl rfl rfl fun C hC => ?_
    repeat' first
      | refine g_go T hC true 400 rfl rfl ?_
      | refine g_cond rfl (fun h => ?_) (fun h => ?_)
      | refine g_end T hC (by kernel_rfl) ?_
      | refine g_splitD (fun h => ?_) (fun h => ?_)
      | refine g_splitG rfl rfl rfl (fun h => ?_) (fun h => ?_)
      | refine g_splitP rfl rfl (fun h => ?_) (fun h => ?_)
      | refine g_call hC (hS) rfl rfl (LeSs.refl _) rfl rfl rfl ?_
      | refine g_reti T (.inl rfl) rfl ?_
    rfl
  | none =>
    rw [show signV e.op = .tup [Sr (⟨#[]⟩ : ByteArray), I 0, Bo false] by unfold signV; rw [hg]] at hS
    rw [show levS e.op = if e.op = 18 then 3 else if e.op = 8 then 7 else 8 by unfold levS; rw [hg]]
    refine fn_ok T Tryz.func201 (by kernel_rfl) rfl rfl rfl rfl fun C hC => ?_
    repeat' first
      | refine g_go T hC true 400 rfl rfl ?_
      | refine g_cond rfl (fun h => ?_) (fun h => ?_)
      | refine g_end T hC (by kernel_rfl) ?_
      | refine g_splitD (fun h => ?_) (fun h => ?_)
      | refine g_splitG rfl rfl rfl (fun h => ?_) (fun h => ?_)
      | refine g_splitP rfl rfl (fun h => ?_) (fun h => ?_)
      | refine g_call hC (hS) rfl rfl (LeSs.refl _) rfl rfl rfl ?_
      | refine g_reti T (.inl rfl) rfl ?_
    all_goals simp_all
theorem sgn_of (op : Int) : sgn op = if op = 20 then some (20, 1, (⟨#[111, 114]⟩ : ByteArray)) else if op = 19 then some (19, 2, (⟨#[97, 110, 100]⟩ : ByteArray)) else if op = 14 then some (14, 4, (⟨#[61, 61]⟩ : ByteArray)) else if op = 15 then some (15, 4, (⟨#[33, 61]⟩ : ByteArray)) else if op = 16 then some (16, 4, (⟨#[60]⟩ : ByteArray)) else if op = 17 then some (17, 4, (⟨#[60, 61]⟩ : ByteArray))
    else if op = 9 then some (9, 5, (⟨#[43]⟩ : ByteArray)) else if op = 10 then some (10, 5, (⟨#[45]⟩ : ByteArray)) else if op = 11 then some (11, 6, (⟨#[42]⟩ : ByteArray)) else if op = 12 then some (12, 6, (⟨#[47]⟩ : ByteArray)) else if op = 13 then some (13, 6, (⟨#[37]⟩ : ByteArray)) else none := by
  repeat' split
  all_goals first
    | (subst_vars; rfl)
    | simp [sgn, signT, List.find?, eq_comm, *]
def sgnS (op : Int) : Str := match sgn op with
  | some x => x.2.2
  | none => (⟨#[]⟩ : ByteArray)
theorem rsign_ok (op : Int) : FnOK Tryz.prog 205 [I op] [] (Sr (sgnS op)) [] := by
  refine fn_ok T Tryz.func205 (by kernel_rfl) rfl rfl rfl rfl fun C hC => ?_
  repeat' first
    | refine g_go T hC true 400 rfl rfl ?_
    | refine g_cond rfl (fun h => ?_) (fun h => ?_)
    | refine g_end T hC (by kernel_rfl) ?_
    | refine g_splitD (fun h => ?_) (fun h => ?_)
    | refine g_splitG rfl rfl rfl (fun h => ?_) (fun h => ?_)
    | refine g_splitP rfl rfl (fun h => ?_) (fun h => ?_)
  all_goals
    refine g_fin ⟨.inl rfl, id, _, rfl, .of ?_, trivial, rfl, rfl⟩
    simp only [sgnS, sgn_of, tupOf, S.ren, V.ren]
    simp_all
theorem rlevel_ok (op : Int) : FnOK Tryz.prog 159 [I op] [] (I (levS op)) [] := by
  refine fn_ok T Tryz.func159 (by kernel_rfl) rfl rfl rfl rfl fun C hC => ?_
  repeat' first
    | refine g_go T hC true 400 rfl rfl ?_
    | refine g_cond rfl (fun h => ?_) (fun h => ?_)
    | refine g_end T hC (by kernel_rfl) ?_
    | refine g_splitD (fun h => ?_) (fun h => ?_)
    | refine g_splitG rfl rfl rfl (fun h => ?_) (fun h => ?_)
    | refine g_splitP rfl rfl (fun h => ?_) (fun h => ?_)
    | refine g_reti T (.inl rfl) rfl ?_
  all_goals
    simp only [levS, sgn_of]
    simp_all
end Hw.Z
namespace Hw.Z
open Go Go.Proofs Hw.M

/-! The text of an expression -/
abbrev Tx := Int × Str
abbrev lpS : Str := (⟨#[40]⟩ : ByteArray)
abbrev rpS : Str := (⟨#[41]⟩ : ByteArray)
def atT (p : Tx) (k : Int) : Str := if p.1 < k then lpS ++ p.2 ++ rpS else p.2
def ptAt (ps : List Tx) (i : Nat) (k : Int) : Str := match ps[i]? with
  | some p => atT p k
  | none => (⟨#[]⟩ : ByteArray)
def cmF (q : Tx × Nat) : Str := (if q.2 = 0 then (⟨#[]⟩ : ByteArray) else (⟨#[44, 32]⟩ : ByteArray)) ++ atT q.1 1
def listT (ps : List Tx) : Str := lpS ++ catB (ps.zipIdx.map cmF) ++ rpS
def fnS (op : Int) : Str := if op = 21 then (⟨#[105, 102]⟩ : ByteArray) else if op = 22 then (⟨#[109, 97, 120]⟩ : ByteArray) else if op = 23 then (⟨#[109, 105, 110]⟩ : ByteArray) else if op = 24 then (⟨#[108, 111, 103]⟩ : ByteArray) else (⟨#[]⟩ : ByteArray)
def nodeTx (op n : Int) (s : Str) (ps : List Tx) : Str := match sgn op with
  | some x => ptAt ps 0 (if x.2.1 = 4 then 5 else x.2.1) ++ ((⟨#[32]⟩ : ByteArray) ++ x.2.2 ++ (⟨#[32]⟩ : ByteArray)) ++ ptAt ps 1 (x.2.1 + 1)
  | none => if op = 1 then itoaB n else if op = 2 then boolB (decide (n = 1)) else if op = 3 then (⟨#[110, 105, 108]⟩ : ByteArray) else if op = 4 then s else if op = 5 then ptAt ps 0 8 ++ (⟨#[46]⟩ : ByteArray) ++ s
    else if op = 6 then (⟨#[110, 101, 119, 32]⟩ : ByteArray) ++ s else if op = 18 then (⟨#[110, 111, 116, 32]⟩ : ByteArray) ++ ptAt ps 0 3 else if op = 8 then (⟨#[45]⟩ : ByteArray) ++ ptAt ps 0 7 else if op = 7 then s ++ listT ps else fnS op ++ listT ps
mutual
def wT : Ex → Str
  | .mk op n s l => nodeTx op n s (wLs l)
def wLs : List Ex → List Tx
  | [] => []
  | e :: es => (levS e.op, wT e) :: wLs es
end
theorem wT_eq (e : Ex) : wT e = nodeTx e.op e.n e.s (wLs e.l) := by cases e; rfl
def txOf (e : Ex) : Tx := (levS e.op, wT e)
theorem wLs_map : ∀ l : List Ex, wLs l = l.map txOf
  | [] => rfl
  | e :: es => by simp only [wLs, List.map_cons, wLs_map es, txOf]

/-! Sizes -/
def szP (p : Tx) : Nat := p.2.size + 4
def szL (ps : List Tx) : Nat := (ps.map szP).sum
theorem atT_size (p : Tx) (k : Int) : (atT p k).size ≤ p.2.size + 2 := by
  have e1 : ByteArray.size lpS = 1 := rfl
  have e2 : ByteArray.size rpS = 1 := rfl
  unfold atT; split
  · simp only [size_app]; omega
  · omega
theorem le_sumN : ∀ {l : List Nat} {x : Nat}, x ∈ l → x ≤ l.sum
  | a :: l, x, h => by
    rw [List.sum_cons]
    rcases List.mem_cons.1 h with rfl | h
    · omega
    · have := le_sumN h; omega
theorem ptAt_size (ps : List Tx) (i : Nat) (k : Int) : (ptAt ps i k).size ≤ szL ps := by
  unfold ptAt
  split
  · rename_i p hp
    have := atT_size p k
    have h2 : szP p ≤ szL ps := le_sumN (List.mem_map.2 ⟨p, List.mem_of_getElem? hp, rfl⟩)
    unfold szP at h2; omega
  · exact Nat.zero_le _
theorem ptAt_size2 (ps : List Tx) (k k' : Int) : (ptAt ps 0 k).size + (ptAt ps 1 k').size ≤ szL ps := by
  match ps with
  | [] => exact Nat.zero_le _
  | [a] => have := ptAt_size [a] 0 k; exact this
  | a :: b :: r =>
    have h1 := atT_size a k
    have h2 := atT_size b k'
    simp only [ptAt, List.getElem?_cons_zero, List.getElem?_cons_succ, szL, List.map_cons, List.sum_cons, szP]
    omega
theorem comma_size (ps : List Tx) (n : Nat) : (catB ((ps.zipIdx n).map cmF)).size ≤ szL ps := by
  induction ps generalizing n with
  | nil => exact Nat.zero_le _
  | cons p ps ih =>
    have h1 := atT_size p 1
    have h2 := ih (n + 1)
    simp only [List.zipIdx_cons, List.map_cons, catB, size_app, cmF, szL, List.sum_cons, szP]
    have h3 : (if n = 0 then ((⟨#[]⟩ : ByteArray) : Str) else (⟨#[44, 32]⟩ : ByteArray)).size ≤ 2 := by
      split
      · exact Nat.zero_le _
      · exact Nat.le_refl _
    simp only [szL, szP] at h2
    omega
theorem listT_size (ps : List Tx) : (listT ps).size ≤ szL ps + 2 := by
  have := comma_size ps 0
  have e1 : ByteArray.size lpS = 1 := rfl
  have e2 : ByteArray.size rpS = 1 := rfl
  simp only [listT, size_app]; omega
theorem sgn_size {op : Int} {x : sgRow} (h : sgn op = some x) : x.2.2.size ≤ 3 ∧ 1 ≤ x.2.1 ∧ x.2.1 ≤ 6 := by
  have key : ∀ x ∈ signT, x.2.2.size ≤ 3 ∧ 1 ≤ x.2.1 ∧ x.2.1 ≤ 6 := by decide
  exact key x (List.mem_of_find?_eq_some h)
theorem nodeTx_size {op n : Int} {s : Str} {ps : List Tx} (hs : s.size ≤ 40) (h0 : -1099511627776 ≤ n) (h1 : n ≤ 1099511627776) : (nodeTx op n s ps).size ≤ 50 + szL ps := by
  have a1 := itoaB_size (n := n) (by omega) (by omega)
  have a2 := boolB_size (decide (n = 1))
  have a3 := listT_size ps
  have b1 : ByteArray.size (⟨#[110, 105, 108]⟩ : ByteArray) = 3 := rfl
  have b2 : ByteArray.size (⟨#[46]⟩ : ByteArray) = 1 := rfl
  have b3 : ByteArray.size (⟨#[110, 101, 119, 32]⟩ : ByteArray) = 4 := rfl
  have b4 : ByteArray.size (⟨#[110, 111, 116, 32]⟩ : ByteArray) = 4 := rfl
  have b5 : ByteArray.size (⟨#[45]⟩ : ByteArray) = 1 := rfl
  have b6 : ByteArray.size (⟨#[32]⟩ : ByteArray) = 1 := rfl
  have c1 := ptAt_size ps 0 8
  have c2 := ptAt_size ps 0 3
  have c3 := ptAt_size ps 0 7
  have d1 : (fnS op).size ≤ 3 := by
    unfold fnS
    repeat' split
    all_goals decide
  unfold nodeTx
  split
  · rename_i x hx
    have := (sgn_size hx).1
    have := ptAt_size2 ps (if x.2.1 = 4 then 5 else x.2.1) (x.2.1 + 1)
    simp only [size_app]; omega
  · repeat' split
    all_goals ((try simp only [size_app]); omega)
theorem node_facts {e : Ex} (h : nodeS e = true) : e.s.size ≤ 40 ∧ -1099511627776 ≤ e.n ∧ e.n ≤ 1099511627776 := by
  have h' := h
  simp only [nodeS, Bool.and_eq_true] at h'
  obtain ⟨⟨_, hn⟩, hv⟩ := h'
  have e1 : ByteArray.size (⟨#[116, 104, 105, 115]⟩ : ByteArray) = 4 := rfl
  have e2 : ByteArray.size (⟨#[]⟩ : ByteArray) = 0 := rfl
  refine ⟨?_, ?_⟩
  · unfold namedS at hn
    split at hn
    · rcases Bool.or_eq_true_iff.1 hn with h1 | h1
      · rw [of_decide_eq_true h1]; omega
      · exact name_le h1
    · split at hn
      · exact name_le hn
      · rw [of_decide_eq_true hn]; omega
  · split at hv
    · simp only [Bool.and_eq_true, decide_eq_true_eq] at hv; omega
    · split at hv
      · simp only [Bool.or_eq_true, decide_eq_true_eq] at hv; omega
      · have := of_decide_eq_true hv; omega
/-- A valid expression's node and parts. -/
theorem good_parts {e : Ex} {d : Int} (h : countS e d ≤ 1000) : d ≤ 60 ∧ nodeS e = true ∧ countL e.l d 1 = countS e d := by
  rw [countS_eq] at h ⊢
  split at h
  · omega
  · rename_i hb
    rw [if_neg hb]
    simp only [Bool.or_eq_true, decide_eq_true_eq, Bool.not_eq_true', not_or, Bool.not_eq_false] at hb
    exact ⟨by omega, hb.2, rfl⟩
theorem good_list : ∀ {l : List Ex} {d n : Int}, countL l d n ≤ 1000 → ∀ x ∈ l, countS x (d + 1) ≤ 1000 - n
  | e :: es, d, n, h, x, hx => by
    simp only [countL] at h
    split at h
    · omega
    · have hb := (countS_bound e (d + 1)).1
      rcases List.mem_cons.1 hx with rfl | hx
      · omega
      · have := good_list h x hx; omega
mutual
theorem wT_size : ∀ (e : Ex) (d : Int), countS e d ≤ 1000 → ((wT e).size : Int) + 4 ≤ 60 * countS e d
  | .mk op n s l, d, h => by
    obtain ⟨hd, hn, hc⟩ := good_parts h
    have hf := node_facts hn
    have hL := wLs_size l d 1 (by omega) (by rw [show countL l d 1 = countS (.mk op n s l) d from hc]; exact h)
    rw [show countL l d 1 = countS (.mk op n s l) d from hc] at hL
    have := nodeTx_size (op := op) (n := n) (s := s) (ps := wLs l) hf.1 hf.2.1 hf.2.2
    simp only [wT]; omega
theorem wLs_size : ∀ (l : List Ex) (d n : Int), 0 ≤ n → countL l d n ≤ 1000 → (szL (wLs l) : Int) ≤ 60 * (countL l d n - n)
  | [], d, n, h0, h => by simp [wLs, szL, countL]
  | e :: es, d, n, h0, h => by
    have h' := h
    simp only [countL] at h ⊢
    split at h
    · omega
    · rename_i hb
      rw [if_neg hb]
      have h1 := wT_size e (d + 1) (by have := good_list h' e (by simp); omega)
      have h2 := wLs_size es d _ (by have := (countS_bound e (d + 1)).1; omega) h
      simp only [wLs, szL, List.map_cons, List.sum_cons, szP] at h2 ⊢
      omega
end
end Hw.Z
namespace Hw.Z
open Go Go.Proofs Go.Shelf Hw.M

/-! Writing an expression -/
def WOK (e : Ex) : Prop := ∀ s : Str, s.size + (wT e).size ≤ 8000000 → FnOK Tryz.prog 148 [.one (.ar 0), aggS (exprC e)] (bA 0 s) (.one (.ar 1)) (bA 1 (s ++ wT e))
def POK (e : Ex) : Prop := ∀ (s : Str) (k : Int), s.size + (atT (txOf e) k).size ≤ 8000000 → FnOK Tryz.prog 154 [.one (.ar 0), aggS (exprC e), I k] (bA 0 s) (.one (.ar 1)) (bA 1 (s ++ atT (txOf e) k))
theorem part_ok {e : Ex} (hW : WOK e) : POK e := by
  intro s k hs
  have e1 : ByteArray.size lpS = 1 := rfl
  have e2 : ByteArray.size rpS = 1 := rfl
  have hL := level_ok e
  by_cases hk : levS e.op < k
  · have hA : atT (txOf e) k = lpS ++ wT e ++ rpS := by unfold atT txOf; rw [if_pos hk]
    rw [hA] at hs ⊢
    simp only [size_app] at hs
    have h1 := hW (s ++ lpS) (by simp only [size_app]; omega)
    have hfin : s ++ lpS ++ wT e ++ rpS = s ++ (lpS ++ wT e ++ rpS) := by simp only [ByteArray.append_assoc]
    refine fn_ok T Tryz.func154 (by kernel_rfl) rfl rfl rfl rfl fun C hC => ?_
    repeat' first
      | refine g_go T hC true 400 rfl rfl ?_
      | refine g_cond rfl (fun h => ?_) (fun h => ?_)
      | refine g_end T hC (by kernel_rfl) ?_
      | refine g_splitD (fun h => ?_) (fun h => ?_)
      | refine g_splitG rfl rfl rfl (fun h => ?_) (fun h => ?_)
      | refine g_splitP rfl rfl (fun h => ?_) (fun h => ?_)
      | refine g_call hC (hL) rfl rfl (LeSs.refl _) rfl rfl rfl ?_
      | refine g_lit T hC rfl rfl rfl rfl rfl rfl rfl rfl rfl ?_
      | (refine g_append T 103 hC (rows := bytesR s) (rows2 := bytesR lpS) (rows3 := bytesR (s ++ lpS)) (bytes := 1) rfl rfl rfl rfl (SrcS.sl (T.es_ok _ _ rfl)) (app_rows rfl) rfl rfl rfl (by kernel_rfl) (by simp only [bytesR_len]; omega) (by simp only [bytesR_len]; omega) rfl rfl rfl ?_)
      | refine g_callR hC (h1) (nm [103, 104]) rfl rfl (LeSs.refl _) rfl rfl rfl rfl rfl rfl rfl rfl ?_
      | (refine g_append T 105 hC (rows := bytesR (s ++ lpS ++ wT e)) (rows2 := bytesR rpS) (rows3 := bytesR (s ++ (lpS ++ wT e ++ rpS))) (bytes := 1) rfl rfl rfl rfl (SrcS.sl (T.es_ok _ _ rfl)) (app_rows hfin) rfl rfl rfl (by kernel_rfl) (by simp only [bytesR_len, size_app]; omega) (by simp only [bytesR_len, size_app]; omega) rfl rfl rfl ?_)
    all_goals first
      | exact g_fin ⟨.inl rfl, nm [0, 105], _, rfl, .refl _, ⟨rfl, trivial⟩, rfl, rfl⟩
      | (exfalso; have := of_decide_eq_false h; omega)
  · have hA : atT (txOf e) k = wT e := by unfold atT txOf; rw [if_neg hk]
    rw [hA] at hs ⊢
    have h1 := hW s hs
    refine fn_ok T Tryz.func154 (by kernel_rfl) rfl rfl rfl rfl fun C hC => ?_
    repeat' first
      | refine g_go T hC true 400 rfl rfl ?_
      | refine g_cond rfl (fun h => ?_) (fun h => ?_)
      | refine g_end T hC (by kernel_rfl) ?_
      | refine g_splitD (fun h => ?_) (fun h => ?_)
      | refine g_splitG rfl rfl rfl (fun h => ?_) (fun h => ?_)
      | refine g_splitP rfl rfl (fun h => ?_) (fun h => ?_)
      | refine g_call hC (hL) rfl rfl (LeSs.refl _) rfl rfl rfl ?_
      | refine g_callR hC (h1) (nm [0, 104]) rfl rfl (LeSs.refl _) rfl rfl rfl rfl rfl rfl rfl rfl ?_
    all_goals first
      | exact g_fin ⟨.inl rfl, nm [0, 104], _, rfl, .refl _, ⟨rfl, trivial⟩, rfl, rfl⟩
      | (exfalso; have := of_decide_eq_true h; omega)
theorem cm_at {l : List Ex} {i : Nat} {x : Ex} (hx : l[i]? = some x) : (((wLs l).zipIdx).map cmF)[i]? = some (cmF (txOf x, i)) := by
  rw [wLs_map, List.getElem?_map, List.getElem?_zipIdx, List.getElem?_map, hx]; simp
theorem call_ok {l : List Ex} (hP : ∀ x ∈ l, POK x) (s nm0 : Str) (hs : s.size + nm0.size + (listT (wLs l)).size ≤ 8000000) (hl : l.length ≤ 100000) :
    FnOK Tryz.prog 193 [.one (.ar 0), Sr nm0, pS (exprsP l)] (bA 0 s) (.one (.ar 1)) (bA 1 (s ++ (nm0 ++ listT (wLs l)))) := by
  have e1 : ByteArray.size lpS = 1 := rfl
  have e2 : ByteArray.size rpS = 1 := rfl
  have e3 : ByteArray.size (⟨#[44, 32]⟩ : ByteArray) = 2 := rfl
  have hsz : s.size + nm0.size + 2 + (catB (((wLs l).zipIdx).map cmF)).size ≤ 8000000 := by
    simp only [listT, size_app] at hs; omega
  generalize hb : s ++ nm0 = b
  have hbs : b.size = s.size + nm0.size := by rw [← hb, size_app]
  refine fn_ok T Tryz.func193 (by kernel_rfl) rfl rfl rfl rfl fun C hC => ?_
  repeat' first
    | refine g_go T hC true 400 rfl rfl ?_
    | refine g_cond rfl (fun h => ?_) (fun h => ?_)
    | refine g_end T hC (by kernel_rfl) ?_
    | refine g_splitD (fun h => ?_) (fun h => ?_)
    | refine g_splitG rfl rfl rfl (fun h => ?_) (fun h => ?_)
    | refine g_splitP rfl rfl (fun h => ?_) (fun h => ?_)
    | (refine g_append T 102 hC (rows := bytesR s) (rows2 := bytesR nm0) (rows3 := bytesR b) (bytes := 1) rfl rfl rfl rfl (SrcS.str (by kernel_rfl)) (app_rows hb) rfl rfl rfl (by kernel_rfl) (by simp only [bytesR_len]; omega) (by simp only [bytesR_len]; omega) rfl rfl rfl ?_)
    | refine g_lit T hC rfl rfl rfl rfl rfl rfl rfl rfl rfl ?_
    | (refine g_append T 103 hC (rows := bytesR b) (rows2 := bytesR lpS) (rows3 := bytesR (b ++ lpS)) (bytes := 1) rfl rfl rfl rfl (SrcS.sl (T.es_ok _ _ rfl)) (app_rows rfl) rfl rfl rfl (by kernel_rfl) (by simp only [bytesR_len]; omega) (by simp only [bytesR_len]; omega) rfl rfl rfl ?_)
  rw [List.length_map]
  refine g_loop (fun i : Nat => i ≤ l.length) (fun i => ([(0, .one (.ar 101)), (14, pS (exprsP l)), (15, I l.length), (16, I i)],
      [(101, some (Res.arr 1 (bytesR (b ++ lpS ++ catB ((((wLs l).zipIdx).map cmF).take i)))))])) (fun i => l.length - i) hC
    0 (Nat.zero_le _) (mvo 101 103) ⟨rfl, ⟨rfl, rfl, rfl, rfl, trivial⟩, ⟨by rw [show catB ((((wLs l).zipIdx).map cmF).take 0) = (⟨#[]⟩ : ByteArray) from rfl, cat_nil]; rfl, trivial⟩, rfl, fun q hq => mvo_low (by omega) hq⟩ ?_
  intro i hi
  refine g_run' T hC true 200 rfl ?_
  refine g_cond rfl (fun h => ?_) (fun h => ?_)
  · have hlt : i < l.length := by have := of_decide_eq_true h; omega
    clear h
    obtain ⟨x, hx⟩ := exists_at (l := l) (i := i) hlt
    have hstep := catB_take (cm_at hx)
    have hle := catB_take_le (((wLs l).zipIdx).map cmF) (i + 1)
    have hPx := hP x (List.mem_of_getElem? hx)
    generalize catB ((((wLs l).zipIdx).map cmF).take i) = f at hstep
    rw [hstep, size_app, cmF, size_app] at hle
    dsimp only at hle
    by_cases h0 : i = 0
    · have hfin : b ++ lpS ++ f ++ atT (txOf x) 1 = b ++ lpS ++ catB ((((wLs l).zipIdx).map cmF).take (i + 1)) := by
        rw [hstep, cmF, if_pos h0, nil_cat]; simp only [ByteArray.append_assoc]
      have h1 := hPx (b ++ lpS ++ f) 1 (by simp only [size_app]; omega)
      rw [hfin] at h1
      repeat' first
        | refine g_go T hC true 400 rfl rfl ?_
        | refine g_cond rfl (fun h => ?_) (fun h => ?_)
        | refine g_end T hC (by kernel_rfl) ?_
        | refine g_splitD (fun h => ?_) (fun h => ?_)
        | refine g_splitG rfl rfl rfl (fun h => ?_) (fun h => ?_)
        | refine g_splitP rfl rfl (fun h => ?_) (fun h => ?_)
        | refine g_idx T hC rfl rfl rfl (Int.natCast_nonneg _) (map_atE (by assumption)) rfl rfl ?_
        | refine g_callR hC (h1) (nm [101, 104]) rfl rfl (LeSs.refl _) rfl rfl rfl rfl rfl rfl rfl rfl ?_
      all_goals first
        | (exfalso; have := of_decide_eq_true h; omega)
        | skip
      rw [wrap64 (by omega)]
      exact g_round (i + 1) (by omega) (mvo 101 104) (by omega) ⟨rfl, ⟨rfl, rfl, rfl, rfl, trivial⟩, ⟨rfl, trivial⟩, rfl, fun q hq => mvo_low (by omega) hq⟩
    · have hfin : b ++ lpS ++ f ++ (⟨#[44, 32]⟩ : ByteArray) ++ atT (txOf x) 1 = b ++ lpS ++ catB ((((wLs l).zipIdx).map cmF).take (i + 1)) := by
        rw [hstep, cmF, if_neg h0]; simp only [ByteArray.append_assoc]
      rw [if_neg h0] at hle
      have h1 := hPx (b ++ lpS ++ f ++ (⟨#[44, 32]⟩ : ByteArray)) 1 (by simp only [size_app]; omega)
      rw [hfin] at h1
      repeat' first
        | refine g_go T hC true 400 rfl rfl ?_
        | refine g_cond rfl (fun h => ?_) (fun h => ?_)
        | refine g_end T hC (by kernel_rfl) ?_
        | refine g_splitD (fun h => ?_) (fun h => ?_)
        | refine g_splitG rfl rfl rfl (fun h => ?_) (fun h => ?_)
        | refine g_splitP rfl rfl (fun h => ?_) (fun h => ?_)
        | refine g_idx T hC rfl rfl rfl (Int.natCast_nonneg _) (map_atE (by assumption)) rfl rfl ?_
        | (refine g_append T 103 hC (rows := bytesR (b ++ lpS ++ f)) (rows2 := bytesR (⟨#[44, 32]⟩ : ByteArray)) (rows3 := bytesR (b ++ lpS ++ f ++ (⟨#[44, 32]⟩ : ByteArray))) (bytes := 1) rfl rfl rfl rfl (SrcS.str (by kernel_rfl)) (app_rows rfl) rfl rfl rfl (by kernel_rfl) (by simp only [bytesR_len, size_app]; omega) (by simp only [bytesR_len, size_app]; omega) rfl rfl rfl ?_)
        | refine g_callR hC (h1) (nm [103, 104]) rfl rfl (LeSs.refl _) rfl rfl rfl rfl rfl rfl rfl rfl ?_
      all_goals first
        | (exfalso; have := of_decide_eq_false h; omega)
        | skip
      rw [wrap64 (by omega)]
      exact g_round (i + 1) (by omega) (mvo 101 104) (by omega) ⟨rfl, ⟨rfl, rfl, rfl, rfl, trivial⟩, ⟨rfl, trivial⟩, rfl, fun q hq => mvo_low (by omega) hq⟩
  · have hge : ¬ i < l.length := by have := of_decide_eq_false h; omega
    have hF : catB ((((wLs l).zipIdx).map cmF).take i) = catB (((wLs l).zipIdx).map cmF) := by
      rw [List.take_of_length_le (by rw [List.length_map, List.length_zipIdx, wLs_map, List.length_map]; omega)]
    rw [hF]
    have hfin : b ++ lpS ++ catB (((wLs l).zipIdx).map cmF) ++ rpS = s ++ (nm0 ++ listT (wLs l)) := by
      rw [listT, ← hb]; simp only [ByteArray.append_assoc]
    generalize catB (((wLs l).zipIdx).map cmF) = f at hsz hfin
    repeat' first
      | refine g_go T hC true 400 rfl rfl ?_
      | refine g_cond rfl (fun h => ?_) (fun h => ?_)
      | refine g_end T hC (by kernel_rfl) ?_
      | refine g_splitD (fun h => ?_) (fun h => ?_)
      | refine g_splitG rfl rfl rfl (fun h => ?_) (fun h => ?_)
      | refine g_splitP rfl rfl (fun h => ?_) (fun h => ?_)
      | refine g_outE ?_
      | refine g_lit T hC rfl rfl rfl rfl rfl rfl rfl rfl rfl ?_
      | (refine g_append T 104 hC (rows := bytesR (b ++ lpS ++ f)) (rows2 := bytesR rpS) (rows3 := bytesR (s ++ (nm0 ++ listT (wLs l)))) (bytes := 1) rfl rfl rfl rfl (SrcS.sl (T.es_ok _ _ rfl)) (app_rows hfin) rfl rfl rfl (by kernel_rfl) (by simp only [bytesR_len, size_app]; omega) (by simp only [bytesR_len, size_app]; omega) rfl rfl rfl ?_)
    exact g_fin ⟨.inl rfl, nm [0, 104], _, rfl, .refl _, ⟨rfl, trivial⟩, rfl, rfl⟩
end Hw.Z
