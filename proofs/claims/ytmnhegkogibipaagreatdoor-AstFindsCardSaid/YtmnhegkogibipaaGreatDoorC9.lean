/- The engine and the contracts. -/
import Derived.Test.YtmnhegkogibipaaGreatDoorC8
set_option linter.unusedVariables false
set_option linter.unusedSimpArgs false
namespace Hw.Z
open Go Go.Proofs Go.Shelf Hw.M

theorem node_len {e : Ex} (h : nodeS e = true) {k : Nat} (hk : partsS e.op = k) : e.l.length = k := by
  simp only [nodeS, Bool.and_eq_true, Bool.not_eq_true', decide_eq_false_iff_not, Bool.and_eq_false_iff] at h
  obtain ⟨⟨⟨⟨_, h2⟩, _⟩, _⟩, _⟩ := h
  rcases h2 with h2 | h2
  · omega
  · simp only [Bool.not_eq_false', decide_eq_true_eq] at h2; omega
theorem len2 {α : Type} : ∀ {l : List α}, l.length = 2 → ∃ a b, l = [a, b]
  | [a, b], _ => ⟨a, b, rfl⟩
theorem sgn_op {op : Int} {x : sgRow} (h : sgn op = some x) : partsS op = 2 := by
  have key : ∀ x ∈ signT, partsS x.1 = 2 := by decide
  have h1 := key x (List.mem_of_find?_eq_some h)
  have h2 := List.find?_some h
  simp only [decide_eq_true_eq] at h2
  rw [← h2]; exact h1
theorem fn_ops {e : Ex} (h : nodeS e = true) (hg : sgn e.op = none) (hn : e.op ≠ 1 ∧ e.op ≠ 2 ∧ e.op ≠ 3 ∧ e.op ≠ 4 ∧ e.op ≠ 5 ∧ e.op ≠ 6 ∧ e.op ≠ 7 ∧ e.op ≠ 8 ∧ e.op ≠ 18) : e.op = 21 ∨ e.op = 22 ∨ e.op = 23 ∨ e.op = 24 := by
  have h1 : partsS e.op ≠ -2 := by
    simp only [nodeS, Bool.and_eq_true, Bool.not_eq_true', decide_eq_false_iff_not] at h
    exact h.1.1.1.1
  have h2 : 1 ≤ e.op ∧ e.op ≤ 24 := by
    refine ⟨?_, ?_⟩ <;> (refine Decidable.byContradiction fun hc => h1 (partsS_out (by omega)))
  have key : ∀ x ∈ signT, x.1 ≠ e.op := fun x hx => by
    have := List.find?_eq_none.1 hg x hx
    simpa using this
  simp [signT] at key
  omega
theorem map_atE1 {l : List Ex} {x : Ex} (h : l[1]? = some x) : (l.map exprR)[(1 : Int).toNat]? = some (exprC x) := map_atE (i := 1) h
theorem pt_at {l : List Ex} {i : Nat} {x : Ex} (h : l[i]? = some x) (k : Int) : ptAt (wLs l) i k = atT (txOf x) k := by
  unfold ptAt; rw [wLs_map, List.getElem?_map, h]; rfl
def fnM : List (Int × PV) := putK (putK (putK (putK [] 21 (ks (⟨#[105, 102]⟩ : ByteArray))) 22 (ks (⟨#[109, 97, 120]⟩ : ByteArray))) 23 (ks (⟨#[109, 105, 110]⟩ : ByteArray))) 24 (ks (⟨#[108, 111, 103]⟩ : ByteArray))
theorem fnM_at (op : Int) : (getK fnM op).getD (.k (.string (⟨#[]⟩ : ByteArray))) = ks (fnS op) := by
  unfold fnS
  repeat' split
  all_goals first
    | (subst_vars; rfl)
    | (have h : fnM = [(21, ks (⟨#[105, 102]⟩ : ByteArray)), (22, ks (⟨#[109, 97, 120]⟩ : ByteArray)), (23, ks (⟨#[109, 105, 110]⟩ : ByteArray)), (24, ks (⟨#[108, 111, 103]⟩ : ByteArray))] := rfl
       rw [h]
       simp only [getK]
       repeat rw [if_neg (by omega)]
       rfl)
theorem write_sign {e : Ex} {x : sgRow} (hn : nodeS e = true) (hP : ∀ y ∈ e.l, POK y) (hg : sgn e.op = some x) : WOK e := by
  intro s hs
  obtain ⟨a, b, hl⟩ := len2 (node_len (k := 2) hn (sgn_op hg))
  have hx0 : e.l[0]? = some a := by rw [hl]; rfl
  have hx1 : e.l[1]? = some b := by rw [hl]; rfl
  have hPa := hP a (List.mem_of_getElem? hx0)
  have hPb := hP b (List.mem_of_getElem? hx1)
  have hsz := sgn_size hg
  have e1 : ByteArray.size (⟨#[32]⟩ : ByteArray) = 1 := rfl
  have hS := sign_ok e.op
  rw [show signV e.op = .tup [Sr x.2.2, I x.2.1, Bo true] by unfold signV; rw [hg]] at hS
  have hw : wT e = atT (txOf a) (if x.2.1 = 4 then 5 else x.2.1) ++ ((⟨#[32]⟩ : ByteArray) ++ x.2.2 ++ (⟨#[32]⟩ : ByteArray)) ++ atT (txOf b) (x.2.1 + 1) := by
    rw [wT_eq, nodeTx, hg]; simp only [pt_at hx0, pt_at hx1]
  have hk9 : atT (txOf b) (IntKind.i64.wrap (x.2.1 + 1)) = atT (txOf b) (x.2.1 + 1) := by rw [wrap64 (by omega)]
  rw [hw, size_app, size_app] at hs
  have hfin : s ++ atT (txOf a) (if x.2.1 = 4 then 5 else x.2.1) ++ ((⟨#[32]⟩ : ByteArray) ++ x.2.2 ++ (⟨#[32]⟩ : ByteArray)) ++ atT (txOf b) (x.2.1 + 1) = s ++ wT e := by
    rw [hw]; simp only [ByteArray.append_assoc]
  simp only [size_app] at hs
  have h2 := hPb (s ++ atT (txOf a) (if x.2.1 = 4 then 5 else x.2.1) ++ ((⟨#[32]⟩ : ByteArray) ++ x.2.2 ++ (⟨#[32]⟩ : ByteArray))) (IntKind.i64.wrap (x.2.1 + 1)) (by rw [hk9]; simp only [size_app]; omega)
  rw [hk9, hfin] at h2
  by_cases h4 : x.2.1 = 4
  · rw [if_pos h4] at hs h2
    have h1 := hPa s 5 (by omega)
    refine fn_ok T Tryz.func148 (by kernel_rfl) rfl rfl rfl rfl fun C hC => ?_
    repeat' first
      | refine g_go T hC true 400 rfl rfl ?_
      | refine g_cond rfl (fun h => ?_) (fun h => ?_)
      | refine g_end T hC (by kernel_rfl) ?_
      | refine g_splitD (fun h => ?_) (fun h => ?_)
      | refine g_splitG rfl rfl rfl (fun h => ?_) (fun h => ?_)
      | refine g_splitP rfl rfl (fun h => ?_) (fun h => ?_)
      | refine g_call hC (hS) rfl rfl (LeSs.refl _) rfl rfl rfl ?_
      | refine g_idx T hC rfl rfl rfl (Int.le_refl _) (map_atE0 hx0) rfl rfl ?_
      | refine g_callR hC (h1) (nm [0, 102]) rfl rfl (LeSs.refl _) rfl rfl rfl rfl rfl rfl rfl rfl ?_
      | (refine g_cat hC rfl rfl (by (try simp only [size_app]); omega) rfl rfl ?_)
      | (refine g_append T 103 hC (rows := bytesR (s ++ atT (txOf a) 5)) (rows2 := bytesR ((⟨#[32]⟩ : ByteArray) ++ x.2.2 ++ (⟨#[32]⟩ : ByteArray))) (rows3 := bytesR (s ++ atT (txOf a) 5 ++ ((⟨#[32]⟩ : ByteArray) ++ x.2.2 ++ (⟨#[32]⟩ : ByteArray)))) (bytes := 1) rfl rfl rfl rfl (SrcS.str (by kernel_rfl)) (app_rows rfl) rfl rfl rfl (by kernel_rfl) (by simp only [bytesR_len, size_app]; omega) (by simp only [bytesR_len, size_app]; omega) rfl rfl rfl ?_)
      | refine g_idx T hC rfl rfl rfl (by decide) (map_atE1 hx1) rfl rfl ?_
      | refine g_callR hC (h2) (nm [103, 104]) rfl rfl (LeSs.refl _) rfl rfl rfl rfl rfl rfl rfl rfl ?_
    all_goals first
      | exact g_fin ⟨.inl rfl, nm [0, 104], _, rfl, .refl _, ⟨rfl, trivial⟩, rfl, rfl⟩
      | (exfalso; have := of_decide_eq_false h; omega)
  · rw [if_neg h4] at hs h2
    have h1 := hPa s x.2.1 (by omega)
    refine fn_ok T Tryz.func148 (by kernel_rfl) rfl rfl rfl rfl fun C hC => ?_
    repeat' first
      | refine g_go T hC true 400 rfl rfl ?_
      | refine g_cond rfl (fun h => ?_) (fun h => ?_)
      | refine g_end T hC (by kernel_rfl) ?_
      | refine g_splitD (fun h => ?_) (fun h => ?_)
      | refine g_splitG rfl rfl rfl (fun h => ?_) (fun h => ?_)
      | refine g_splitP rfl rfl (fun h => ?_) (fun h => ?_)
      | refine g_call hC (hS) rfl rfl (LeSs.refl _) rfl rfl rfl ?_
      | refine g_idx T hC rfl rfl rfl (Int.le_refl _) (map_atE0 hx0) rfl rfl ?_
      | refine g_callR hC (h1) (nm [0, 102]) rfl rfl (LeSs.refl _) rfl rfl rfl rfl rfl rfl rfl rfl ?_
      | (refine g_cat hC rfl rfl (by (try simp only [size_app]); omega) rfl rfl ?_)
      | (refine g_append T 103 hC (rows := bytesR (s ++ atT (txOf a) x.2.1)) (rows2 := bytesR ((⟨#[32]⟩ : ByteArray) ++ x.2.2 ++ (⟨#[32]⟩ : ByteArray))) (rows3 := bytesR (s ++ atT (txOf a) x.2.1 ++ ((⟨#[32]⟩ : ByteArray) ++ x.2.2 ++ (⟨#[32]⟩ : ByteArray)))) (bytes := 1) rfl rfl rfl rfl (SrcS.str (by kernel_rfl)) (app_rows rfl) rfl rfl rfl (by kernel_rfl) (by simp only [bytesR_len, size_app]; omega) (by simp only [bytesR_len, size_app]; omega) rfl rfl rfl ?_)
      | refine g_idx T hC rfl rfl rfl (by decide) (map_atE1 hx1) rfl rfl ?_
      | refine g_callR hC (h2) (nm [103, 104]) rfl rfl (LeSs.refl _) rfl rfl rfl rfl rfl rfl rfl rfl ?_
    all_goals first
      | exact g_fin ⟨.inl rfl, nm [0, 104], _, rfl, .refl _, ⟨rfl, trivial⟩, rfl, rfl⟩
      | (exfalso; have := of_decide_eq_true h; omega)
theorem write_int {e : Ex} (hn : nodeS e = true) (hP : ∀ y ∈ e.l, POK y) (hg : sgn e.op = none) (ho : e.op = 1) : WOK e := by
  intro s hs
  have hf := node_facts hn
  have e1 : ByteArray.size (⟨#[110, 101, 119, 32]⟩ : ByteArray) = 4 := rfl
  have e2 : ByteArray.size (⟨#[110, 111, 116, 32]⟩ : ByteArray) = 4 := rfl
  have e3 : ByteArray.size (⟨#[45]⟩ : ByteArray) = 1 := rfl
  have e4 : ByteArray.size (⟨#[46]⟩ : ByteArray) = 1 := rfl
  have e5 : ByteArray.size (⟨#[110, 105, 108]⟩ : ByteArray) = 3 := rfl
  have hS := sign_ok e.op
  rw [show signV e.op = .tup [Sr (⟨#[]⟩ : ByteArray), I 0, Bo false] by unfold signV; rw [hg]] at hS
  have hw : wT e = itoaB e.n := by
    rw [wT_eq, nodeTx, hg, ho]
    rfl
  rw [hw] at hs ⊢
  have hI := appendInt_ok s e.n (by omega) (by omega) (by omega)
  refine fn_ok T Tryz.func148 (by kernel_rfl) rfl rfl rfl rfl fun C hC => ?_
  repeat' first
    | refine g_go T hC true 400 rfl rfl ?_
    | refine g_cond rfl (fun h => ?_) (fun h => ?_)
    | refine g_end T hC (by kernel_rfl) ?_
    | refine g_splitD (fun h => ?_) (fun h => ?_)
    | refine g_splitG rfl rfl rfl (fun h => ?_) (fun h => ?_)
    | refine g_splitP rfl rfl (fun h => ?_) (fun h => ?_)
    | refine g_call hC (hS) rfl rfl (LeSs.refl _) rfl rfl rfl ?_
    | refine g_callR hC (hI) (nm [0, 102]) rfl rfl (LeSs.refl _) rfl rfl rfl rfl rfl rfl rfl rfl ?_
  all_goals first
    | (exfalso; have := of_decide_eq_true h; omega)
    | (exfalso; simp only [decide_eq_false_iff_not] at *; omega)
    | exact g_fin ⟨.inl rfl, nm [0, 102], _, rfl, .refl _, ⟨rfl, trivial⟩, rfl, rfl⟩
theorem write_bool {e : Ex} (hn : nodeS e = true) (hP : ∀ y ∈ e.l, POK y) (hg : sgn e.op = none) (ho : e.op = 2) : WOK e := by
  intro s hs
  have hf := node_facts hn
  have e1 : ByteArray.size (⟨#[110, 101, 119, 32]⟩ : ByteArray) = 4 := rfl
  have e2 : ByteArray.size (⟨#[110, 111, 116, 32]⟩ : ByteArray) = 4 := rfl
  have e3 : ByteArray.size (⟨#[45]⟩ : ByteArray) = 1 := rfl
  have e4 : ByteArray.size (⟨#[46]⟩ : ByteArray) = 1 := rfl
  have e5 : ByteArray.size (⟨#[110, 105, 108]⟩ : ByteArray) = 3 := rfl
  have hS := sign_ok e.op
  rw [show signV e.op = .tup [Sr (⟨#[]⟩ : ByteArray), I 0, Bo false] by unfold signV; rw [hg]] at hS
  have hw : wT e = boolB (decide (e.n = 1)) := by
    rw [wT_eq, nodeTx, hg, ho]
    rfl
  rw [hw] at hs ⊢
  have hI := appendBool_ok s (decide (e.n = 1)) (by omega)
  refine fn_ok T Tryz.func148 (by kernel_rfl) rfl rfl rfl rfl fun C hC => ?_
  repeat' first
    | refine g_go T hC true 400 rfl rfl ?_
    | refine g_cond rfl (fun h => ?_) (fun h => ?_)
    | refine g_end T hC (by kernel_rfl) ?_
    | refine g_splitD (fun h => ?_) (fun h => ?_)
    | refine g_splitG rfl rfl rfl (fun h => ?_) (fun h => ?_)
    | refine g_splitP rfl rfl (fun h => ?_) (fun h => ?_)
    | refine g_call hC (hS) rfl rfl (LeSs.refl _) rfl rfl rfl ?_
    | refine g_callR hC (hI) (nm [0, 102]) rfl rfl (LeSs.refl _) rfl rfl rfl rfl rfl rfl rfl rfl ?_
  all_goals first
    | (exfalso; have := of_decide_eq_true h; omega)
    | (exfalso; simp only [decide_eq_false_iff_not] at *; omega)
    | exact g_fin ⟨.inl rfl, nm [0, 102], _, rfl, .refl _, ⟨rfl, trivial⟩, rfl, rfl⟩
theorem write_nil {e : Ex} (hn : nodeS e = true) (hP : ∀ y ∈ e.l, POK y) (hg : sgn e.op = none) (ho : e.op = 3) : WOK e := by
  intro s hs
  have hf := node_facts hn
  have e1 : ByteArray.size (⟨#[110, 101, 119, 32]⟩ : ByteArray) = 4 := rfl
  have e2 : ByteArray.size (⟨#[110, 111, 116, 32]⟩ : ByteArray) = 4 := rfl
  have e3 : ByteArray.size (⟨#[45]⟩ : ByteArray) = 1 := rfl
  have e4 : ByteArray.size (⟨#[46]⟩ : ByteArray) = 1 := rfl
  have e5 : ByteArray.size (⟨#[110, 105, 108]⟩ : ByteArray) = 3 := rfl
  have hS := sign_ok e.op
  rw [show signV e.op = .tup [Sr (⟨#[]⟩ : ByteArray), I 0, Bo false] by unfold signV; rw [hg]] at hS
  have hw : wT e = (⟨#[110, 105, 108]⟩ : ByteArray) := by
    rw [wT_eq, nodeTx, hg, ho]
    rfl
  rw [hw] at hs ⊢
  refine fn_ok T Tryz.func148 (by kernel_rfl) rfl rfl rfl rfl fun C hC => ?_
  repeat' first
    | refine g_go T hC true 400 rfl rfl ?_
    | refine g_cond rfl (fun h => ?_) (fun h => ?_)
    | refine g_end T hC (by kernel_rfl) ?_
    | refine g_splitD (fun h => ?_) (fun h => ?_)
    | refine g_splitG rfl rfl rfl (fun h => ?_) (fun h => ?_)
    | refine g_splitP rfl rfl (fun h => ?_) (fun h => ?_)
    | refine g_call hC (hS) rfl rfl (LeSs.refl _) rfl rfl rfl ?_
    | (refine g_append T 102 hC (rows := bytesR (s)) (rows2 := bytesR (⟨#[110, 105, 108]⟩ : ByteArray)) (rows3 := bytesR (s ++ (⟨#[110, 105, 108]⟩ : ByteArray))) (bytes := 1) rfl rfl rfl rfl (SrcS.str (by kernel_rfl)) (app_rows rfl) rfl rfl rfl (by kernel_rfl) (by simp only [bytesR_len, size_app]; omega) (by simp only [bytesR_len, size_app]; omega) rfl rfl rfl ?_)
  all_goals first
    | (exfalso; have := of_decide_eq_true h; omega)
    | (exfalso; simp only [decide_eq_false_iff_not] at *; omega)
    | exact g_fin ⟨.inl rfl, nm [0, 102], _, rfl, .refl _, ⟨rfl, trivial⟩, rfl, rfl⟩
theorem write_name {e : Ex} (hn : nodeS e = true) (hP : ∀ y ∈ e.l, POK y) (hg : sgn e.op = none) (ho : e.op = 4) : WOK e := by
  intro s hs
  have hf := node_facts hn
  have e1 : ByteArray.size (⟨#[110, 101, 119, 32]⟩ : ByteArray) = 4 := rfl
  have e2 : ByteArray.size (⟨#[110, 111, 116, 32]⟩ : ByteArray) = 4 := rfl
  have e3 : ByteArray.size (⟨#[45]⟩ : ByteArray) = 1 := rfl
  have e4 : ByteArray.size (⟨#[46]⟩ : ByteArray) = 1 := rfl
  have e5 : ByteArray.size (⟨#[110, 105, 108]⟩ : ByteArray) = 3 := rfl
  have hS := sign_ok e.op
  rw [show signV e.op = .tup [Sr (⟨#[]⟩ : ByteArray), I 0, Bo false] by unfold signV; rw [hg]] at hS
  have hw : wT e = e.s := by
    rw [wT_eq, nodeTx, hg, ho]
    rfl
  rw [hw] at hs ⊢
  refine fn_ok T Tryz.func148 (by kernel_rfl) rfl rfl rfl rfl fun C hC => ?_
  repeat' first
    | refine g_go T hC true 400 rfl rfl ?_
    | refine g_cond rfl (fun h => ?_) (fun h => ?_)
    | refine g_end T hC (by kernel_rfl) ?_
    | refine g_splitD (fun h => ?_) (fun h => ?_)
    | refine g_splitG rfl rfl rfl (fun h => ?_) (fun h => ?_)
    | refine g_splitP rfl rfl (fun h => ?_) (fun h => ?_)
    | refine g_call hC (hS) rfl rfl (LeSs.refl _) rfl rfl rfl ?_
    | (refine g_append T 102 hC (rows := bytesR (s)) (rows2 := bytesR e.s) (rows3 := bytesR (s ++ e.s)) (bytes := 1) rfl rfl rfl rfl (SrcS.str (by kernel_rfl)) (app_rows rfl) rfl rfl rfl (by kernel_rfl) (by simp only [bytesR_len, size_app]; omega) (by simp only [bytesR_len, size_app]; omega) rfl rfl rfl ?_)
  all_goals first
    | (exfalso; have := of_decide_eq_true h; omega)
    | (exfalso; simp only [decide_eq_false_iff_not] at *; omega)
    | exact g_fin ⟨.inl rfl, nm [0, 102], _, rfl, .refl _, ⟨rfl, trivial⟩, rfl, rfl⟩
theorem write_field {e : Ex} (hn : nodeS e = true) (hP : ∀ y ∈ e.l, POK y) (hg : sgn e.op = none) (ho : e.op = 5) : WOK e := by
  intro s hs
  have hf := node_facts hn
  have e1 : ByteArray.size (⟨#[110, 101, 119, 32]⟩ : ByteArray) = 4 := rfl
  have e2 : ByteArray.size (⟨#[110, 111, 116, 32]⟩ : ByteArray) = 4 := rfl
  have e3 : ByteArray.size (⟨#[45]⟩ : ByteArray) = 1 := rfl
  have e4 : ByteArray.size (⟨#[46]⟩ : ByteArray) = 1 := rfl
  have e5 : ByteArray.size (⟨#[110, 105, 108]⟩ : ByteArray) = 3 := rfl
  have hS := sign_ok e.op
  rw [show signV e.op = .tup [Sr (⟨#[]⟩ : ByteArray), I 0, Bo false] by unfold signV; rw [hg]] at hS
  obtain ⟨a, hl⟩ := List.length_eq_one_iff.1 (node_len (k := 1) hn (by rw [ho]; rfl))
  have hx0 : e.l[0]? = some a := by rw [hl]; rfl
  have hPa := hP a (List.mem_of_getElem? hx0)
  have hw : wT e = atT (txOf a) 8 ++ (⟨#[46]⟩ : ByteArray) ++ e.s := by
    rw [wT_eq, nodeTx, hg, ho]
    simp only [pt_at hx0, Int.reduceEq, if_true, if_false]
  rw [hw] at hs ⊢
  simp only [size_app] at hs
  have h1 := hPa s 8 (by omega)
  have hfin : s ++ atT (txOf a) 8 ++ (⟨#[46]⟩ : ByteArray) ++ e.s = s ++ (atT (txOf a) 8 ++ (⟨#[46]⟩ : ByteArray) ++ e.s) := by simp only [ByteArray.append_assoc]
  refine fn_ok T Tryz.func148 (by kernel_rfl) rfl rfl rfl rfl fun C hC => ?_
  repeat' first
    | refine g_go T hC true 400 rfl rfl ?_
    | refine g_cond rfl (fun h => ?_) (fun h => ?_)
    | refine g_end T hC (by kernel_rfl) ?_
    | refine g_splitD (fun h => ?_) (fun h => ?_)
    | refine g_splitG rfl rfl rfl (fun h => ?_) (fun h => ?_)
    | refine g_splitP rfl rfl (fun h => ?_) (fun h => ?_)
    | refine g_call hC (hS) rfl rfl (LeSs.refl _) rfl rfl rfl ?_
    | refine g_idx T hC rfl rfl rfl (Int.le_refl _) (map_atE0 hx0) rfl rfl ?_
    | refine g_callR hC (h1) (nm [0, 102]) rfl rfl (LeSs.refl _) rfl rfl rfl rfl rfl rfl rfl rfl ?_
    | refine g_lit T hC rfl rfl rfl rfl rfl rfl rfl rfl rfl ?_
    | (refine g_append T 103 hC (rows := bytesR (s ++ atT (txOf a) 8)) (rows2 := bytesR (⟨#[46]⟩ : ByteArray)) (rows3 := bytesR (s ++ atT (txOf a) 8 ++ (⟨#[46]⟩ : ByteArray))) (bytes := 1) rfl rfl rfl rfl (SrcS.sl (T.es_ok _ _ rfl)) (app_rows rfl) rfl rfl rfl (by kernel_rfl) (by simp only [bytesR_len, size_app]; omega) (by simp only [bytesR_len, size_app]; omega) rfl rfl rfl ?_)
    | (refine g_append T 104 hC (rows := bytesR (s ++ atT (txOf a) 8 ++ (⟨#[46]⟩ : ByteArray))) (rows2 := bytesR e.s) (rows3 := bytesR (s ++ (atT (txOf a) 8 ++ (⟨#[46]⟩ : ByteArray) ++ e.s))) (bytes := 1) rfl rfl rfl rfl (SrcS.str (by kernel_rfl)) (app_rows hfin) rfl rfl rfl (by kernel_rfl) (by simp only [bytesR_len, size_app]; omega) (by simp only [bytesR_len, size_app]; omega) rfl rfl rfl ?_)
  all_goals first
    | (exfalso; have := of_decide_eq_true h; omega)
    | (exfalso; simp only [decide_eq_false_iff_not] at *; omega)
    | exact g_fin ⟨.inl rfl, nm [0, 104], _, rfl, .refl _, ⟨rfl, trivial⟩, rfl, rfl⟩
theorem write_new {e : Ex} (hn : nodeS e = true) (hP : ∀ y ∈ e.l, POK y) (hg : sgn e.op = none) (ho : e.op = 6) : WOK e := by
  intro s hs
  have hf := node_facts hn
  have e1 : ByteArray.size (⟨#[110, 101, 119, 32]⟩ : ByteArray) = 4 := rfl
  have e2 : ByteArray.size (⟨#[110, 111, 116, 32]⟩ : ByteArray) = 4 := rfl
  have e3 : ByteArray.size (⟨#[45]⟩ : ByteArray) = 1 := rfl
  have e4 : ByteArray.size (⟨#[46]⟩ : ByteArray) = 1 := rfl
  have e5 : ByteArray.size (⟨#[110, 105, 108]⟩ : ByteArray) = 3 := rfl
  have hS := sign_ok e.op
  rw [show signV e.op = .tup [Sr (⟨#[]⟩ : ByteArray), I 0, Bo false] by unfold signV; rw [hg]] at hS
  have hw : wT e = (⟨#[110, 101, 119, 32]⟩ : ByteArray) ++ e.s := by
    rw [wT_eq, nodeTx, hg, ho]
    rfl
  rw [hw] at hs ⊢
  simp only [size_app] at hs
  have hfin : s ++ (⟨#[110, 101, 119, 32]⟩ : ByteArray) ++ e.s = s ++ ((⟨#[110, 101, 119, 32]⟩ : ByteArray) ++ e.s) := by simp only [ByteArray.append_assoc]
  refine fn_ok T Tryz.func148 (by kernel_rfl) rfl rfl rfl rfl fun C hC => ?_
  repeat' first
    | refine g_go T hC true 400 rfl rfl ?_
    | refine g_cond rfl (fun h => ?_) (fun h => ?_)
    | refine g_end T hC (by kernel_rfl) ?_
    | refine g_splitD (fun h => ?_) (fun h => ?_)
    | refine g_splitG rfl rfl rfl (fun h => ?_) (fun h => ?_)
    | refine g_splitP rfl rfl (fun h => ?_) (fun h => ?_)
    | refine g_call hC (hS) rfl rfl (LeSs.refl _) rfl rfl rfl ?_
    | (refine g_append T 102 hC (rows := bytesR (s)) (rows2 := bytesR (⟨#[110, 101, 119, 32]⟩ : ByteArray)) (rows3 := bytesR (s ++ (⟨#[110, 101, 119, 32]⟩ : ByteArray))) (bytes := 1) rfl rfl rfl rfl (SrcS.str (by kernel_rfl)) (app_rows rfl) rfl rfl rfl (by kernel_rfl) (by simp only [bytesR_len, size_app]; omega) (by simp only [bytesR_len, size_app]; omega) rfl rfl rfl ?_)
    | (refine g_append T 103 hC (rows := bytesR (s ++ (⟨#[110, 101, 119, 32]⟩ : ByteArray))) (rows2 := bytesR e.s) (rows3 := bytesR (s ++ ((⟨#[110, 101, 119, 32]⟩ : ByteArray) ++ e.s))) (bytes := 1) rfl rfl rfl rfl (SrcS.str (by kernel_rfl)) (app_rows hfin) rfl rfl rfl (by kernel_rfl) (by simp only [bytesR_len, size_app]; omega) (by simp only [bytesR_len, size_app]; omega) rfl rfl rfl ?_)
  all_goals first
    | (exfalso; have := of_decide_eq_true h; omega)
    | (exfalso; simp only [decide_eq_false_iff_not] at *; omega)
    | exact g_fin ⟨.inl rfl, nm [0, 103], _, rfl, .refl _, ⟨rfl, trivial⟩, rfl, rfl⟩
theorem write_not {e : Ex} (hn : nodeS e = true) (hP : ∀ y ∈ e.l, POK y) (hg : sgn e.op = none) (ho : e.op = 18) : WOK e := by
  intro s hs
  have hf := node_facts hn
  have e1 : ByteArray.size (⟨#[110, 101, 119, 32]⟩ : ByteArray) = 4 := rfl
  have e2 : ByteArray.size (⟨#[110, 111, 116, 32]⟩ : ByteArray) = 4 := rfl
  have e3 : ByteArray.size (⟨#[45]⟩ : ByteArray) = 1 := rfl
  have e4 : ByteArray.size (⟨#[46]⟩ : ByteArray) = 1 := rfl
  have e5 : ByteArray.size (⟨#[110, 105, 108]⟩ : ByteArray) = 3 := rfl
  have hS := sign_ok e.op
  rw [show signV e.op = .tup [Sr (⟨#[]⟩ : ByteArray), I 0, Bo false] by unfold signV; rw [hg]] at hS
  obtain ⟨a, hl⟩ := List.length_eq_one_iff.1 (node_len (k := 1) hn (by rw [ho]; rfl))
  have hx0 : e.l[0]? = some a := by rw [hl]; rfl
  have hPa := hP a (List.mem_of_getElem? hx0)
  have hw : wT e = (⟨#[110, 111, 116, 32]⟩ : ByteArray) ++ atT (txOf a) 3 := by
    rw [wT_eq, nodeTx, hg, ho]
    simp only [pt_at hx0, Int.reduceEq, if_true, if_false]
  rw [hw] at hs ⊢
  simp only [size_app] at hs
  have h1 := hPa (s ++ (⟨#[110, 111, 116, 32]⟩ : ByteArray)) 3 (by simp only [size_app]; omega)
  rw [ByteArray.append_assoc] at h1
  refine fn_ok T Tryz.func148 (by kernel_rfl) rfl rfl rfl rfl fun C hC => ?_
  repeat' first
    | refine g_go T hC true 400 rfl rfl ?_
    | refine g_cond rfl (fun h => ?_) (fun h => ?_)
    | refine g_end T hC (by kernel_rfl) ?_
    | refine g_splitD (fun h => ?_) (fun h => ?_)
    | refine g_splitG rfl rfl rfl (fun h => ?_) (fun h => ?_)
    | refine g_splitP rfl rfl (fun h => ?_) (fun h => ?_)
    | refine g_call hC (hS) rfl rfl (LeSs.refl _) rfl rfl rfl ?_
    | (refine g_append T 102 hC (rows := bytesR (s)) (rows2 := bytesR (⟨#[110, 111, 116, 32]⟩ : ByteArray)) (rows3 := bytesR (s ++ (⟨#[110, 111, 116, 32]⟩ : ByteArray))) (bytes := 1) rfl rfl rfl rfl (SrcS.str (by kernel_rfl)) (app_rows rfl) rfl rfl rfl (by kernel_rfl) (by simp only [bytesR_len, size_app]; omega) (by simp only [bytesR_len, size_app]; omega) rfl rfl rfl ?_)
    | refine g_idx T hC rfl rfl rfl (Int.le_refl _) (map_atE0 hx0) rfl rfl ?_
    | refine g_callR hC (h1) (nm [102, 103]) rfl rfl (LeSs.refl _) rfl rfl rfl rfl rfl rfl rfl rfl ?_
  all_goals first
    | (exfalso; have := of_decide_eq_true h; omega)
    | (exfalso; simp only [decide_eq_false_iff_not] at *; omega)
    | exact g_fin ⟨.inl rfl, nm [0, 103], _, rfl, .refl _, ⟨rfl, trivial⟩, rfl, rfl⟩
theorem write_neg {e : Ex} (hn : nodeS e = true) (hP : ∀ y ∈ e.l, POK y) (hg : sgn e.op = none) (ho : e.op = 8) : WOK e := by
  intro s hs
  have hf := node_facts hn
  have e1 : ByteArray.size (⟨#[110, 101, 119, 32]⟩ : ByteArray) = 4 := rfl
  have e2 : ByteArray.size (⟨#[110, 111, 116, 32]⟩ : ByteArray) = 4 := rfl
  have e3 : ByteArray.size (⟨#[45]⟩ : ByteArray) = 1 := rfl
  have e4 : ByteArray.size (⟨#[46]⟩ : ByteArray) = 1 := rfl
  have e5 : ByteArray.size (⟨#[110, 105, 108]⟩ : ByteArray) = 3 := rfl
  have hS := sign_ok e.op
  rw [show signV e.op = .tup [Sr (⟨#[]⟩ : ByteArray), I 0, Bo false] by unfold signV; rw [hg]] at hS
  obtain ⟨a, hl⟩ := List.length_eq_one_iff.1 (node_len (k := 1) hn (by rw [ho]; rfl))
  have hx0 : e.l[0]? = some a := by rw [hl]; rfl
  have hPa := hP a (List.mem_of_getElem? hx0)
  have hw : wT e = (⟨#[45]⟩ : ByteArray) ++ atT (txOf a) 7 := by
    rw [wT_eq, nodeTx, hg, ho]
    simp only [pt_at hx0, Int.reduceEq, if_true, if_false]
  rw [hw] at hs ⊢
  simp only [size_app] at hs
  have h1 := hPa (s ++ (⟨#[45]⟩ : ByteArray)) 7 (by simp only [size_app]; omega)
  rw [ByteArray.append_assoc] at h1
  refine fn_ok T Tryz.func148 (by kernel_rfl) rfl rfl rfl rfl fun C hC => ?_
  repeat' first
    | refine g_go T hC true 400 rfl rfl ?_
    | refine g_cond rfl (fun h => ?_) (fun h => ?_)
    | refine g_end T hC (by kernel_rfl) ?_
    | refine g_splitD (fun h => ?_) (fun h => ?_)
    | refine g_splitG rfl rfl rfl (fun h => ?_) (fun h => ?_)
    | refine g_splitP rfl rfl (fun h => ?_) (fun h => ?_)
    | refine g_call hC (hS) rfl rfl (LeSs.refl _) rfl rfl rfl ?_
    | refine g_lit T hC rfl rfl rfl rfl rfl rfl rfl rfl rfl ?_
    | (refine g_append T 102 hC (rows := bytesR (s)) (rows2 := bytesR (⟨#[45]⟩ : ByteArray)) (rows3 := bytesR (s ++ (⟨#[45]⟩ : ByteArray))) (bytes := 1) rfl rfl rfl rfl (SrcS.sl (T.es_ok _ _ rfl)) (app_rows rfl) rfl rfl rfl (by kernel_rfl) (by simp only [bytesR_len, size_app]; omega) (by simp only [bytesR_len, size_app]; omega) rfl rfl rfl ?_)
    | refine g_idx T hC rfl rfl rfl (Int.le_refl _) (map_atE0 hx0) rfl rfl ?_
    | refine g_callR hC (h1) (nm [102, 103]) rfl rfl (LeSs.refl _) rfl rfl rfl rfl rfl rfl rfl rfl ?_
  all_goals first
    | (exfalso; have := of_decide_eq_true h; omega)
    | (exfalso; simp only [decide_eq_false_iff_not] at *; omega)
    | exact g_fin ⟨.inl rfl, nm [0, 103], _, rfl, .refl _, ⟨rfl, trivial⟩, rfl, rfl⟩
theorem write_call {e : Ex} (hn : nodeS e = true) (hP : ∀ y ∈ e.l, POK y) (hg : sgn e.op = none) (ho : e.op = 7) : WOK e := by
  intro s hs
  have hf := node_facts hn
  have e1 : ByteArray.size (⟨#[110, 101, 119, 32]⟩ : ByteArray) = 4 := rfl
  have e2 : ByteArray.size (⟨#[110, 111, 116, 32]⟩ : ByteArray) = 4 := rfl
  have e3 : ByteArray.size (⟨#[45]⟩ : ByteArray) = 1 := rfl
  have e4 : ByteArray.size (⟨#[46]⟩ : ByteArray) = 1 := rfl
  have e5 : ByteArray.size (⟨#[110, 105, 108]⟩ : ByteArray) = 3 := rfl
  have hS := sign_ok e.op
  rw [show signV e.op = .tup [Sr (⟨#[]⟩ : ByteArray), I 0, Bo false] by unfold signV; rw [hg]] at hS
  have hw : wT e = e.s ++ listT (wLs e.l) := by
    rw [wT_eq, nodeTx, hg, ho]
    rfl
  rw [hw] at hs ⊢
  simp only [size_app] at hs
  have hlen : e.l.length ≤ 100000 := by
    have hn' := hn
    simp only [nodeS, Bool.and_eq_true, Bool.not_eq_true', Bool.and_eq_false_iff] at hn'
    obtain ⟨⟨⟨⟨_, h2⟩, h3⟩, _⟩, _⟩ := hn'
    rcases h2 with h2 | h2
    · rcases h3 with h3 | h3
      · have h2 := of_decide_eq_false h2
        have h3 := of_decide_eq_false h3
        have := partsS_ge e.op
        have h5 := hn
        simp only [nodeS, Bool.and_eq_true, Bool.not_eq_true', decide_eq_false_iff_not] at h5
        have := h5.1.1.1.1
        omega
      · have := of_decide_eq_false h3; omega
    · simp only [Bool.not_eq_false', decide_eq_true_eq] at h2
      have : partsS e.op ≤ 3 := by unfold partsS; repeat' split <;> omega
      omega
  have h1 := call_ok hP s e.s (by omega) hlen
  refine fn_ok T Tryz.func148 (by kernel_rfl) rfl rfl rfl rfl fun C hC => ?_
  repeat' first
    | refine g_go T hC true 400 rfl rfl ?_
    | refine g_cond rfl (fun h => ?_) (fun h => ?_)
    | refine g_end T hC (by kernel_rfl) ?_
    | refine g_splitD (fun h => ?_) (fun h => ?_)
    | refine g_splitG rfl rfl rfl (fun h => ?_) (fun h => ?_)
    | refine g_splitP rfl rfl (fun h => ?_) (fun h => ?_)
    | refine g_call hC (hS) rfl rfl (LeSs.refl _) rfl rfl rfl ?_
    | refine g_callR hC (h1) (nm [0, 102]) rfl rfl (LeSs.refl _) rfl rfl rfl rfl rfl rfl rfl rfl ?_
  all_goals first
    | (exfalso; have := of_decide_eq_true h; omega)
    | (exfalso; simp only [decide_eq_false_iff_not] at *; omega)
    | exact g_fin ⟨.inl rfl, nm [0, 102], _, rfl, .refl _, ⟨rfl, trivial⟩, rfl, rfl⟩
theorem write_fn {e : Ex} (hn : nodeS e = true) (hP : ∀ y ∈ e.l, POK y) (hg : sgn e.op = none) (ho : e.op = 21 ∨ e.op = 22 ∨ e.op = 23 ∨ e.op = 24) : WOK e := by
  intro s hs
  have hf := node_facts hn
  have e1 : ByteArray.size (⟨#[110, 101, 119, 32]⟩ : ByteArray) = 4 := rfl
  have e2 : ByteArray.size (⟨#[110, 111, 116, 32]⟩ : ByteArray) = 4 := rfl
  have e3 : ByteArray.size (⟨#[45]⟩ : ByteArray) = 1 := rfl
  have e4 : ByteArray.size (⟨#[46]⟩ : ByteArray) = 1 := rfl
  have e5 : ByteArray.size (⟨#[110, 105, 108]⟩ : ByteArray) = 3 := rfl
  have hS := sign_ok e.op
  rw [show signV e.op = .tup [Sr (⟨#[]⟩ : ByteArray), I 0, Bo false] by unfold signV; rw [hg]] at hS
  have hw : wT e = fnS e.op ++ listT (wLs e.l) := by
    rw [wT_eq, nodeTx, hg]
    dsimp only
    repeat rw [if_neg (by omega)]
  rw [hw] at hs ⊢
  simp only [size_app] at hs
  have hlen : e.l.length ≤ 100000 := by
    have hn' := hn
    simp only [nodeS, Bool.and_eq_true, Bool.not_eq_true', Bool.and_eq_false_iff] at hn'
    obtain ⟨⟨⟨⟨_, h2⟩, h3⟩, _⟩, _⟩ := hn'
    rcases h2 with h2 | h2
    · rcases h3 with h3 | h3
      · have h2 := of_decide_eq_false h2
        have h3 := of_decide_eq_false h3
        have := partsS_ge e.op
        have h5 := hn
        simp only [nodeS, Bool.and_eq_true, Bool.not_eq_true', decide_eq_false_iff_not] at h5
        have := h5.1.1.1.1
        omega
      · have := of_decide_eq_false h3; omega
    · simp only [Bool.not_eq_false', decide_eq_true_eq] at h2
      have : partsS e.op ≤ 3 := by unfold partsS; repeat' split <;> omega
      omega
  have h1 := call_ok hP s (fnS e.op) (by omega) hlen
  refine fn_ok T Tryz.func148 (by kernel_rfl) rfl rfl rfl rfl fun C hC => ?_
  repeat' first
    | refine g_go T hC true 400 rfl rfl ?_
    | refine g_cond rfl (fun h => ?_) (fun h => ?_)
    | refine g_end T hC (by kernel_rfl) ?_
    | refine g_splitD (fun h => ?_) (fun h => ?_)
    | refine g_splitG rfl rfl rfl (fun h => ?_) (fun h => ?_)
    | refine g_splitP rfl rfl (fun h => ?_) (fun h => ?_)
    | refine g_call hC (hS) rfl rfl (LeSs.refl _) rfl rfl rfl ?_
    | refine g_makeMap (intKey .i64) hC rfl rfl rfl ?_
    | refine g_insert (intKey .i64) hC (kt := 3) (et := 9) rfl rfl rfl rfl (by kernel_rfl) (by kernel_rfl) rfl rfl ?_
    | refine g_lookupF (intKey .i64) hC (kt := 3) (et := 9) (c0 := .string (⟨#[]⟩ : ByteArray)) (l := fnM) rfl rfl rfl (by kernel_rfl) (by kernel_rfl) (by kernel_rfl) rfl (fnM_at e.op) rfl rfl ?_
    | refine g_callR hC (h1) (nm [0, 102]) rfl rfl (LeSs.refl _) rfl rfl rfl rfl rfl rfl rfl rfl ?_
  all_goals first
    | (exfalso; have := of_decide_eq_true h; omega)
    | exact g_fin ⟨.inl rfl, nm [0, 102], _, rfl, .refl _, ⟨rfl, trivial⟩, rfl, rfl⟩
theorem write_step {e : Ex} (hn : nodeS e = true) (hP : ∀ y ∈ e.l, POK y) : WOK e := by
  cases hg : sgn e.op with
  | some x => exact write_sign hn hP hg
  | none =>
    by_cases h1 : e.op = 1
    · exact write_int hn hP hg h1
    by_cases h2 : e.op = 2
    · exact write_bool hn hP hg h2
    by_cases h3 : e.op = 3
    · exact write_nil hn hP hg h3
    by_cases h4 : e.op = 4
    · exact write_name hn hP hg h4
    by_cases h5 : e.op = 5
    · exact write_field hn hP hg h5
    by_cases h6 : e.op = 6
    · exact write_new hn hP hg h6
    by_cases h7 : e.op = 7
    · exact write_call hn hP hg h7
    by_cases h8 : e.op = 8
    · exact write_neg hn hP hg h8
    by_cases h9 : e.op = 18
    · exact write_not hn hP hg h9
    exact write_fn hn hP hg (fn_ops hn hg ⟨h1, h2, h3, h4, h5, h6, h7, h8, h9⟩)
theorem write_ok : ∀ (N : Nat) (e : Ex) (d : Int), sizeOf e < N → countS e d ≤ 1000 → WOK e := by
  intro N
  induction N with
  | zero => intro e d h; omega
  | succ N ih =>
    intro e d hN hc
    obtain ⟨hd, hn, hL⟩ := good_parts hc
    refine write_step hn fun y hy => part_ok (ih y (d + 1) ?_ ?_)
    · have := List.sizeOf_lt_of_mem hy; have := sizeE_sub e; omega
    · have := good_list (by rw [hL]; exact hc) y hy; omega
theorem fit_ok (s : Str) (hs : s.size ≤ 65536) : FnOK Tryz.prog 95 [.one (.ar 0)] (bA 0 s) (.tup [Sr s, I 0]) [] := by
  refine fn_ok T Tryz.func95 (by kernel_rfl) rfl rfl rfl rfl fun C hC => ?_
  repeat' first
    | refine g_go T hC true 400 rfl rfl ?_
    | refine g_cond rfl (fun h => ?_) (fun h => ?_)
    | refine g_end T hC (by kernel_rfl) ?_
    | refine g_splitD (fun h => ?_) (fun h => ?_)
    | refine g_splitG rfl rfl rfl (fun h => ?_) (fun h => ?_)
    | refine g_splitP rfl rfl (fun h => ?_) (fun h => ?_)
    | (refine g_b2s (s := s) (e := 5) hC rfl rfl (by kernel_rfl) (by kernel_rfl) (by kernel_rfl) rfl rfl ?_)
  all_goals first
    | (exfalso; have := of_decide_eq_true h; rw [bytesR_len] at this; omega)
    | exact g_fin ⟨.inl rfl, id, _, rfl, .refl _, trivial, rfl, rfl⟩
def exprTx (e : Ex) : Str := if exprOk e = true then wT e else (⟨#[]⟩ : ByteArray)
def exprEr (e : Ex) : Int := if exprOk e = true then 0 else 1
theorem textExpr_ok (e : Ex) : FnOK Tryz.prog 86 [aggS (exprC e)] [] (.tup [Sr (exprTx e), I (exprEr e)]) [] := by
  have hV := validExpr_ok e
  cases hv : exprOk e with
  | false =>
    rw [hv] at hV
    rw [show exprTx e = (⟨#[]⟩ : ByteArray) by unfold exprTx; rw [hv]; rfl, show exprEr e = 1 by unfold exprEr; rw [hv]; rfl]
    refine fn_ok T Tryz.func86 (by kernel_rfl) rfl rfl rfl rfl fun C hC => ?_
    repeat' first
      | refine g_go T hC true 400 rfl rfl ?_
      | refine g_cond rfl (fun h => ?_) (fun h => ?_)
      | refine g_end T hC (by kernel_rfl) ?_
      | refine g_splitD (fun h => ?_) (fun h => ?_)
      | refine g_splitG rfl rfl rfl (fun h => ?_) (fun h => ?_)
      | refine g_splitP rfl rfl (fun h => ?_) (fun h => ?_)
      | refine g_call hC (hV) rfl rfl (LeSs.refl _) rfl rfl rfl ?_
    all_goals first
      | exact g_fin ⟨.inl rfl, id, _, rfl, .refl _, trivial, rfl, rfl⟩
      | (exfalso; cases h; done)
  | true =>
    rw [hv] at hV
    have hc : countS e 1 ≤ 1000 := of_decide_eq_true hv
    have hsz := wT_size e 1 hc
    have hW0 := write_ok (sizeOf e + 1) e 1 (by omega) hc (⟨#[]⟩ : ByteArray) (by have : ByteArray.size (⟨#[]⟩ : ByteArray) = 0 := rfl; omega)
    rw [nil_cat] at hW0
    have hW := FnOK.nil0 (e := 1) hW0 rfl
    have hF := fit_ok (wT e) (by omega)
    rw [show exprTx e = wT e by unfold exprTx; rw [hv]; rfl, show exprEr e = 0 by unfold exprEr; rw [hv]; rfl]
    refine fn_ok T Tryz.func86 (by kernel_rfl) rfl rfl rfl rfl fun C hC => ?_
    repeat' first
      | refine g_go T hC true 400 rfl rfl ?_
      | refine g_cond rfl (fun h => ?_) (fun h => ?_)
      | refine g_end T hC (by kernel_rfl) ?_
      | refine g_splitD (fun h => ?_) (fun h => ?_)
      | refine g_splitG rfl rfl rfl (fun h => ?_) (fun h => ?_)
      | refine g_splitP rfl rfl (fun h => ?_) (fun h => ?_)
      | refine g_call hC (hV) rfl rfl (LeSs.refl _) rfl rfl rfl ?_
      | refine g_callR hC (hW) (nm [0, 101]) rfl rfl (LeSs.refl _) rfl rfl rfl rfl rfl rfl rfl rfl ?_
      | refine g_callR hC (hF) (nm [101]) rfl rfl (LeSs.refl _) rfl rfl rfl rfl rfl rfl rfl rfl ?_
    all_goals first
      | exact g_fin ⟨.inl rfl, id, _, rfl, .refl _, trivial, rfl, rfl⟩
      | (exfalso; cases h; done)
end Hw.Z
