/- The engine and the contracts. -/
import Derived.Test.YtnijeifpjjeccaaGreatDoorC16
import Derived.Test.YtnijeifpjjeccaaGreatDoorC2
set_option linter.unusedVariables false
set_option linter.unusedSimpArgs false
namespace Hw.Mq
open Go Go.Proofs Go.Shelf Hw.M

/-! operations as text: Text of both -/
theorem sameOp_ok (a b : OpT) : FnOK Tryz.prog 11 [aggS (opR a), aggS (opR b)] [] (.bq (decide (a.code = b.code) && decide (a.args = b.args))) [] := by
  have hL := sameList_ok a.args b.args
  generalize decide (a.args = b.args) = q at hL ⊢
  refine fn_ok T Tryz.func11 (by kernel_rfl) rfl rfl rfl rfl fun C hC => ?_
  repeat' first
    | refine g_go T hC true 400 rfl rfl ?_
    | refine g_cond rfl (fun h => ?_) (fun h => ?_)
    | refine g_end T hC (by kernel_rfl) ?_
    | refine g_splitD (fun h => ?_) (fun h => ?_)
    | refine g_splitG rfl rfl rfl (fun h => ?_) (fun h => ?_)
    | refine g_splitP rfl rfl (fun h => ?_) (fun h => ?_)
    | refine g_call hC (hL) rfl rfl (LeSs.refl _) rfl rfl rfl ?_
    | refine g_retq T (.inl rfl) rfl ?_
    | refine g_retl T (.inl rfl) rfl ?_
  all_goals clear hL
  all_goals first
    | rfl
    | (simp; done)
    | (simp_all; done)
def nameS (k c : Int) : Str := match (wordsL k)[(c - 1).toNat]? with
  | some w => w.1
  | none => (⟨#[]⟩ : ByteArray)
def accT : List Int → Str → Str
  | [], a => a
  | n :: r, a => accT r (a ++ ((⟨#[32]⟩ : ByteArray) ++ itoaB n))
def opTx (k : Int) (o : OpT) : Str := accT o.args (nameS k o.code)
theorem ok_parts {k : Int} {o : OpT} (h : okOp k o = true) : (1 ≤ k ∧ k ≤ 6) ∧ 1 ≤ o.code ∧ (∃ w, (wordsL k)[(o.code - 1).toNat]? = some w) ∧ o.args.length ≤ 64 ∧ ∀ n ∈ o.args, -1048576 ≤ n ∧ n ≤ 1048576 := by
  have hk : 1 ≤ k ∧ k ≤ 6 := by
    by_cases hk : 1 ≤ k ∧ k ≤ 6
    · exact hk
    · unfold okOp at h; rw [wordsL_no hk] at h; simp at h
  unfold okOp at h
  simp only [Bool.and_eq_true, decide_eq_true_eq] at h
  obtain ⟨h1, h2⟩ := h
  cases hw : (wordsL k)[(o.code - 1).toNat]? with
  | none => rw [hw] at h2; cases h2
  | some w =>
    rw [hw] at h2
    simp only at h2
    have har : ∀ w ∈ wordsL k, w.2.1 ≤ 4 := by
      rcases kinds hk with rfl | rfl | rfl | rfl | rfl | rfl <;> decide
    have hw4 := har w (List.mem_of_getElem? hw)
    split at h2
    · simp only [Bool.and_eq_true, decide_eq_true_eq, List.all_eq_true] at h2
      refine ⟨hk, h1, ⟨w, rfl⟩, h2.1.2, fun n hn => ?_⟩
      have := h2.2 n hn
      simp only [chrB, Bool.and_eq_true, decide_eq_true_eq] at this
      exact ⟨by omega, by omega⟩
    · simp only [Bool.and_eq_true, decide_eq_true_eq, List.all_eq_true] at h2
      refine ⟨hk, h1, ⟨w, rfl⟩, by omega, fun n hn => ?_⟩
      have := h2.2 n hn
      simp only [numB, Bool.and_eq_true, decide_eq_true_eq] at this
      omega
theorem name_size (k c : Int) : (nameS k c).size ≤ 20 := by
  by_cases hk : 1 ≤ k ∧ k ≤ 6
  · have : ∀ w ∈ wordsL k, w.1.size ≤ 20 := by rcases kinds hk with rfl | rfl | rfl | rfl | rfl | rfl <;> decide
    unfold nameS
    split
    · rename_i w hw; exact this w (List.mem_of_getElem? hw)
    · decide
  · unfold nameS; rw [wordsL_no hk]; simp; decide
theorem piece_size {n : Int} (h : -1048576 ≤ n ∧ n ≤ 1048576) : ((⟨#[32]⟩ : ByteArray) ++ itoaB n).size ≤ 22 := by
  rw [size_app]
  have := itoaB_size (n := n) (by omega) (by omega)
  have : ByteArray.size (⟨#[32]⟩ : ByteArray) = 1 := rfl
  omega
theorem empty_app (s : Str) : ((⟨#[]⟩ : ByteArray) : Str) ++ s = s := ByteArray.empty_append
theorem decimal_one {n : Int} (h0 : 0 ≤ n) (h1 : n < 10) : FnOK Tryz.prog 32 [I n] [] (Sr (itoaB n)) [] := by
  have w : IntKind.u8.wrap (IntKind.i64.wrap (48 + n)) = 48 + n := by
    rw [wrap64 (by omega)]
    simp [IntKind.wrap, IntKind.signed, IntKind.bits]; omega
  have hb : itoaB n = (⟨#[UInt8.ofNat (48 + n.toNat)]⟩ : Str) := by rw [itoaB_nonneg h0, decDigits_one' (by omega)]
  have hr : [[PV.k (Value.int IntKind.u8 (48 + n))]] = bytesR (itoaB n) := by
    rw [hb]
    have : (48 + n : Int) = ((UInt8.ofNat (48 + n.toNat)).toNat : Int) := by
      have : (UInt8.ofNat (48 + n.toNat)).toNat = 48 + n.toNat := by simp; omega
      rw [this]; omega
    rw [this]; rfl
  have hs : 0 < (itoaB n).size := by rw [hb]; exact Nat.one_pos
  refine fn_ok T Tryz.func32 (by kernel_rfl) rfl rfl rfl rfl fun C hC => ?_
  repeat' first
    | refine g_go T hC true 400 rfl rfl ?_
    | (exfalso; have h2 := of_decide_eq_true h; omega)
    | refine g_cond rfl (fun h => ?_) (fun h => ?_)
    | refine g_end T hC (by kernel_rfl) ?_
    | refine g_splitD (fun h => ?_) (fun h => ?_)
    | refine g_splitG rfl rfl rfl (fun h => ?_) (fun h => ?_)
    | refine g_splitP rfl rfl (fun h => ?_) (fun h => ?_)
    | (rw [w])
    | refine g_lit T hC rfl rfl rfl rfl rfl rfl rfl rfl rfl ?_
    | (rw [hr]; refine g_b2sP (s := itoaB n) (e := 5) hC hs rfl (by kernel_rfl) (by kernel_rfl) (by kernel_rfl) rfl rfl ?_)
  all_goals first
    | (exfalso; have := of_decide_eq_false h; omega)
    | exact g_fin ⟨.inl rfl, id, _, rfl, .refl _, trivial, rfl, rfl⟩
theorem decimal_nn : ∀ (k : Nat) (n : Int), n.natAbs < k → 0 ≤ n → n ≤ 4611686018427387904 → FnOK Tryz.prog 32 [I n] [] (Sr (itoaB n)) [] := by
  intro k
  induction k with
  | zero => intro n h; omega
  | succ k ih =>
  intro n hk h0 h1
  by_cases hbig : n < 10
  · exact decimal_one h0 hbig
  have hq : n.tdiv 10 = ((n.toNat / 10 : Nat) : Int) := by
    have e : n = ((n.toNat : Nat) : Int) := by omega
    exact congrArg (·.tdiv 10) e
  have hr : n.tmod 10 = ((n.toNat % 10 : Nat) : Int) := by
    have e : n = ((n.toNat : Nat) : Int) := by omega
    exact congrArg (·.tmod 10) e
  have hI := ih (n.tdiv 10) (by rw [hq]; omega) (by rw [hq]; omega) (by rw [hq]; omega)
  have w1 : IntKind.i64.wrap (n.tdiv 10) = n.tdiv 10 := wrap64 (by rw [hq]; omega)
  have w2 : IntKind.u8.wrap (IntKind.i64.wrap (48 + n.tmod 10)) = 48 + n.tmod 10 := by
    rw [wrap64 (by rw [hr]; omega)]
    simp [IntKind.wrap, IntKind.signed, IntKind.bits]; rw [hr]; omega
  have e1 : itoaB (n.tdiv 10) ++ itoaB (n.tmod 10) = itoaB n := by
    rw [itoaB_nonneg (n := n) (by omega), itoaB_nonneg (n := n.tdiv 10) (by rw [hq]; omega), itoaB_nonneg (n := n.tmod 10) (by rw [hr]; omega), decDigits_big (u := n.toNat) (by omega), hq, hr]
    congr 1
    rw [show ((n.toNat % 10 : Nat) : Int).toNat = n.toNat % 10 by omega, decDigits_one' (by omega)]
  have hb : itoaB (n.tmod 10) = (⟨#[UInt8.ofNat (48 + (n.toNat % 10))]⟩ : Str) := by rw [itoaB_nonneg (by rw [hr]; omega), hr, show ((n.toNat % 10 : Nat) : Int).toNat = n.toNat % 10 by omega, decDigits_one' (by omega)]
  have hrr : [[PV.k (Value.int IntKind.u8 (48 + n.tmod 10))]] = bytesR (itoaB (n.tmod 10)) := by
    rw [hb, hr]
    have : ((48 + (n.toNat % 10 : Nat)) : Int) = ((UInt8.ofNat (48 + n.toNat % 10)).toNat : Int) := by
      have : (UInt8.ofNat (48 + n.toNat % 10)).toNat = 48 + n.toNat % 10 := by simp; omega
      rw [this]; omega
    rw [this]; rfl
  have hs : 0 < (itoaB (n.tmod 10)).size := by rw [hb]; exact Nat.one_pos
  have hsz := itoaB_size (n := n.tdiv 10) (by rw [hq]; omega) (by rw [hq]; omega)
  have hsz2 := itoaB_size (n := n.tmod 10) (by rw [hr]; omega) (by rw [hr]; omega)
  refine fn_ok T Tryz.func32 (by kernel_rfl) rfl rfl rfl rfl fun C hC => ?_
  repeat' first
    | refine g_go T hC true 400 rfl rfl ?_
    | (exfalso; have h2 := of_decide_eq_true h; omega)
    | refine g_cond rfl (fun h => ?_) (fun h => ?_)
    | refine g_end T hC (by kernel_rfl) ?_
    | refine g_splitD (fun h => ?_) (fun h => ?_)
    | refine g_splitG rfl rfl rfl (fun h => ?_) (fun h => ?_)
    | refine g_splitP rfl rfl (fun h => ?_) (fun h => ?_)
    | (refine g_quo hC rfl rfl (by decide) rfl rfl ?_; rw [w1])
    | refine g_call hC (hI) rfl rfl (LeSs.refl _) rfl rfl rfl ?_
    | refine g_rem hC rfl rfl (by decide) rfl rfl ?_
    | (rw [w2])
    | refine g_lit T hC rfl rfl rfl rfl rfl rfl rfl rfl rfl ?_
    | (rw [hrr]; refine g_b2sP (s := itoaB (n.tmod 10)) (e := 5) hC hs rfl (by kernel_rfl) (by kernel_rfl) (by kernel_rfl) rfl rfl ?_)
    | (refine g_cat hC rfl rfl (by omega) rfl rfl ?_)
  all_goals first
    | (exfalso; have := of_decide_eq_true h; omega)
    | skip
  rw [e1]
  exact g_fin ⟨.inl rfl, id, _, rfl, .refl _, trivial, rfl, rfl⟩
theorem decimal_ok (n : Int) (h : -1048576 ≤ n ∧ n ≤ 1048576) : FnOK Tryz.prog 32 [I n] [] (Sr (itoaB n)) [] := by
  by_cases h0 : 0 ≤ n
  · exact decimal_nn (n.natAbs + 1) n (by omega) h0 (by omega)
  have w1 : IntKind.i64.wrap (0 - n) = 0 - n := wrap64 (by omega)
  have hI := decimal_nn ((0 - n).natAbs + 1) (0 - n) (by omega) (by omega) (by omega)
  have hz := itoaB_size (n := 0 - n) (by omega) (by omega)
  have e1 : (⟨#[45]⟩ : ByteArray) ++ itoaB (0 - n) = itoaB n := by
    rw [itoaB_neg (n := n) (by omega), itoaB_nonneg (n := 0 - n) (by omega)]
    congr 2
    omega
  have hi1 : ((⟨#[45]⟩ : ByteArray) : Str).size + (itoaB (0 - n)).size ≤ 9223372036854775807 := by have : ((⟨#[45]⟩ : ByteArray) : Str).size = 1 := rfl; omega
  refine fn_ok T Tryz.func32 (by kernel_rfl) rfl rfl rfl rfl fun C hC => ?_
  repeat' first
    | refine g_go T hC true 400 rfl rfl ?_
    | (exfalso; have h2 := of_decide_eq_false h; omega)
    | refine g_cond rfl (fun h => ?_) (fun h => ?_)
    | refine g_end T hC (by kernel_rfl) ?_
    | refine g_splitD (fun h => ?_) (fun h => ?_)
    | refine g_splitG rfl rfl rfl (fun h => ?_) (fun h => ?_)
    | refine g_splitP rfl rfl (fun h => ?_) (fun h => ?_)
    | (rw [w1])
    | refine g_call hC (hI) rfl rfl (LeSs.refl _) rfl rfl rfl ?_
    | (refine g_cat hC rfl rfl hi1 rfl rfl ?_)
  rw [e1]
  exact g_fin ⟨.inl rfl, id, _, rfl, .refl _, trivial, rfl, rfl⟩
/-! Text -/
theorem mText_no (k : Int) (o : OpT) (ho : okOp k o = false) : FnOK Tryz.prog 7 [I k, aggS (opR o)] [] (.tup [Sr (⟨#[]⟩ : ByteArray), I 1]) [] := by
  have hV := validOp_ok k o
  rw [ho] at hV
  refine fn_ok T Tryz.func7 (by kernel_rfl) rfl rfl rfl rfl fun C hC => ?_
  repeat' first
    | refine g_go T hC true 400 rfl rfl ?_
    | (exfalso; simp at h; done)
    | refine g_cond rfl (fun h => ?_) (fun h => ?_)
    | refine g_end T hC (by kernel_rfl) ?_
    | refine g_splitD (fun h => ?_) (fun h => ?_)
    | refine g_splitG rfl rfl rfl (fun h => ?_) (fun h => ?_)
    | refine g_splitP rfl rfl (fun h => ?_) (fun h => ?_)
    | refine g_call hC (hV) rfl rfl (LeSs.refl _) rfl rfl rfl ?_
  all_goals first
    | exact g_fin ⟨.inl rfl, id, _, rfl, .refl _, trivial, rfl, rfl⟩
theorem mText_yes (k : Int) (o : OpT) (ho : okOp k o = true) : FnOK Tryz.prog 7 [I k, aggS (opR o)] [] (.tup [Sr (opTx k o), I 0]) [] := by
  have hV := validOp_ok k o
  obtain ⟨hk, hc, ⟨w, hw⟩, hl, hn⟩ := ok_parts ho
  have hW := words_ok hk
  have hlt := (List.getElem?_eq_some_iff.1 hw).1
  have h8 := words_len (k := k)
  have w1 : IntKind.i64.wrap (o.code - 1) = o.code - 1 := wrap64 (by omega)
  have hnm : nameS k o.code = w.1 := by unfold nameS; rw [hw]
  have hns := name_size k o.code
  rw [ho] at hV
  refine fn_ok T Tryz.func7 (by kernel_rfl) rfl rfl rfl rfl fun C hC => ?_
  have ws0 : ∀ b, FnOK Tryz.prog 21 [Bp b, Sr w.1] [(0, Bd b (⟨#[]⟩ : ByteArray))] (.tup [I w.1.size, .one (.p (.k .nilIface))]) [(1, Bd b w.1)] := fun b => by
    have := ws_ok b (⟨#[]⟩ : ByteArray) w.1 (by rw [← hnm]; have : ByteArray.size (⟨#[]⟩ : ByteArray) = 0 := rfl; omega)
    rw [empty_app] at this
    exact this
  repeat' first
    | refine g_go T hC true 400 rfl rfl ?_
    | (exfalso; simp at h; done)
    | refine g_cond rfl (fun h => ?_) (fun h => ?_)
    | refine g_end T hC (by kernel_rfl) ?_
    | refine g_splitD (fun h => ?_) (fun h => ?_)
    | refine g_splitG rfl rfl rfl (fun h => ?_) (fun h => ?_)
    | refine g_splitP rfl rfl (fun h => ?_) (fun h => ?_)
    | refine g_call hC (hV) rfl rfl (LeSs.refl _) rfl rfl rfl ?_
    | (refine g_newBld hC 5 (by kernel_rfl) rfl rfl (fun b => ?_))
    | refine g_call hC (hW) rfl rfl (LeSs.refl _) rfl rfl rfl ?_
    | (rw [w1]; refine g_idx T hC rfl rfl rfl (by omega) (map_atI (f := wordR) hw) rfl rfl ?_)
    | refine g_callR hC ((ws0 b)) (nm [1006, 100]) rfl rfl (LeSs.refl _) rfl rfl rfl rfl rfl rfl rfl rfl ?_
  rw [List.length_map]
  refine g_loop (fun q : Nat × Str => q.1 ≤ o.args.length ∧ accT (o.args.drop q.1) q.2 = opTx k o ∧ q.2.size ≤ 20 + 22 * q.1) (fun q => ([(23, pS (intsP o.args)), (24, I o.args.length), (25, I q.1), (6, Bp b)], [(101, some (Bd b q.2))])) (fun q => o.args.length - q.1) hC
    (0, w.1) ⟨Nat.zero_le _, by unfold opTx; rw [hnm]; rfl, by rw [← hnm]; simp only; omega⟩ (mvU 101 100) ⟨rfl, ⟨rfl, rfl, rfl, rfl, trivial⟩, ⟨rfl, trivial⟩, rfl, fun i hi => mvU_low (by omega) hi⟩ ?_
  clear h
  rintro ⟨j, a⟩ ⟨hj, ha, hz⟩
  simp only at hj ha hz
  refine g_run' T hC true 200 rfl ?_
  refine g_cond rfl (fun h => ?_) (fun h => ?_)
  rotate_left
  · have hge : ¬ j < o.args.length := by have := of_decide_eq_false h; omega
    rw [List.drop_of_length_le (by omega)] at ha
    rw [← ha]
    have hS := bs_ok b a
    repeat' first
      | refine g_go T hC true 400 rfl rfl ?_
      | refine g_cond rfl (fun h => ?_) (fun h => ?_)
      | refine g_end T hC (by kernel_rfl) ?_
      | refine g_splitD (fun h => ?_) (fun h => ?_)
      | refine g_splitG rfl rfl rfl (fun h => ?_) (fun h => ?_)
      | refine g_splitP rfl rfl (fun h => ?_) (fun h => ?_)
      | refine g_outE ?_
      | refine g_callR hC (hS) (nm [101]) rfl rfl (LeSs.refl _) rfl rfl rfl rfl rfl rfl rfl rfl ?_
    exact g_fin ⟨.inl rfl, id, _, rfl, .refl _, trivial, rfl, rfl⟩
  have hlt : j < o.args.length := by have := of_decide_eq_true h; omega
  clear h
  obtain ⟨n, hn'⟩ := exists_at hlt
  have hnb := hn n (List.mem_of_getElem? hn')
  rw [drop_at hn'] at ha
  have hp := piece_size hnb
  have hD := itoa_ok n (by omega) (by omega)
  have hWs := ws_ok b a ((⟨#[32]⟩ : ByteArray) ++ itoaB n) (by omega)
  have hz2 : (a ++ ((⟨#[32]⟩ : ByteArray) ++ itoaB n)).size ≤ 20 + 22 * (j + 1) := by rw [size_app]; omega
  have hi1 : ((⟨#[32]⟩ : ByteArray) : Str).size + (itoaB n).size ≤ 9223372036854775807 := by rw [← size_app]; omega
  repeat' first
    | refine g_go T hC true 400 rfl rfl ?_
    | refine g_cond rfl (fun h => ?_) (fun h => ?_)
    | refine g_end T hC (by kernel_rfl) ?_
    | refine g_splitD (fun h => ?_) (fun h => ?_)
    | refine g_splitG rfl rfl rfl (fun h => ?_) (fun h => ?_)
    | refine g_splitP rfl rfl (fun h => ?_) (fun h => ?_)
    | refine g_idx T hC rfl rfl rfl (Int.natCast_nonneg _) (map_at (by assumption)) rfl rfl ?_
    | refine g_call hC (hD) rfl rfl (LeSs.refl _) rfl rfl rfl ?_
    | (refine g_cat hC rfl rfl hi1 rfl rfl ?_)
    | refine g_callR hC (hWs) (nm [101, 102]) rfl rfl (LeSs.refl _) rfl rfl rfl rfl rfl rfl rfl rfl ?_
    | refine g_outR ?_
  rw [wrapS (by omega)]
  exact g_round (j + 1, a ++ ((⟨#[32]⟩ : ByteArray) ++ itoaB n)) ⟨by simp only; omega, ha, hz2⟩ (mvU 101 102) (by simp only; omega) ⟨rfl, ⟨rfl, rfl, rfl, rfl, trivial⟩, ⟨rfl, trivial⟩, rfl, fun i hi => mvU_low (by omega) hi⟩
theorem app_assoc (a b c : Str) : a ++ b ++ c = a ++ (b ++ c) := ByteArray.append_assoc
theorem rText_ok (k : Int) (o : OpT) (ho : okOp k o = true) : FnOK Tryz.prog 10 [I k, aggS (opR o)] [] (Sr (opTx k o)) [] := by
  obtain ⟨hk, hc, ⟨w, hw⟩, hl, hn⟩ := ok_parts ho
  have hW := rWords_ok hk
  have hlt := (List.getElem?_eq_some_iff.1 hw).1
  have h8 := words_len (k := k)
  have w1 : IntKind.i64.wrap (o.code - 1) = o.code - 1 := wrap64 (by omega)
  have hnm : nameS k o.code = w.1 := by unfold nameS; rw [hw]
  have hnl : (namesL k)[(o.code - 1).toNat]? = some w.1 := by unfold namesL; rw [List.getElem?_map, hw]; rfl
  have hns := name_size k o.code
  refine fn_ok T Tryz.func10 (by kernel_rfl) rfl rfl rfl rfl fun C hC => ?_
  repeat' first
    | refine g_go T hC true 400 rfl rfl ?_
    | refine g_cond rfl (fun h => ?_) (fun h => ?_)
    | refine g_end T hC (by kernel_rfl) ?_
    | refine g_splitD (fun h => ?_) (fun h => ?_)
    | refine g_splitG rfl rfl rfl (fun h => ?_) (fun h => ?_)
    | refine g_splitP rfl rfl (fun h => ?_) (fun h => ?_)
    | refine g_call hC (hW) rfl rfl (LeSs.refl _) rfl rfl rfl ?_
    | (rw [w1]; refine g_idx T hC rfl rfl rfl (by omega) (map_atI (f := strR) hnl) rfl rfl ?_)
  refine g_loop (fun q : Nat × Str => q.1 ≤ o.args.length ∧ accT (o.args.drop q.1) q.2 = opTx k o ∧ q.2.size ≤ 20 + 22 * q.1) (fun q => ([(3, .one (.bx 1003 0)), (5, Sr q.2), (6, I q.1)], [(1003, some (.box ((opR o).map V.p)))])) (fun q => o.args.length - q.1) hC
    (0, w.1) ⟨Nat.zero_le _, by unfold opTx; rw [hnm]; rfl, by rw [← hnm]; simp only; omega⟩ id ⟨rfl, ⟨rfl, rfl, rfl, trivial⟩, ⟨rfl, trivial⟩, rfl, fun _ _ => rfl⟩ ?_
  rintro ⟨j, a⟩ ⟨hj, ha, hz⟩
  simp only at hj ha hz
  refine g_run' T hC true 200 rfl ?_
  rw [List.length_map]
  refine g_cond rfl (fun h => ?_) (fun h => ?_)
  rotate_left
  · have hge : ¬ j < o.args.length := by have := of_decide_eq_false h; omega
    rw [List.drop_of_length_le (by omega)] at ha
    rw [← ha]
    repeat' first
      | refine g_go T hC true 400 rfl rfl ?_
      | refine g_cond rfl (fun h => ?_) (fun h => ?_)
      | refine g_end T hC (by kernel_rfl) ?_
      | refine g_splitD (fun h => ?_) (fun h => ?_)
      | refine g_splitG rfl rfl rfl (fun h => ?_) (fun h => ?_)
      | refine g_splitP rfl rfl (fun h => ?_) (fun h => ?_)
      | refine g_outE ?_
    exact g_fin ⟨.inl rfl, id, _, rfl, .refl _, trivial, rfl, rfl⟩
  have hlt : j < o.args.length := by have := of_decide_eq_true h; omega
  clear h
  obtain ⟨n, hn'⟩ := exists_at hlt
  have hnb := hn n (List.mem_of_getElem? hn')
  rw [drop_at hn'] at ha
  have hp := piece_size hnb
  have hD := decimal_ok n hnb
  have hz2 : (a ++ ((⟨#[32]⟩ : ByteArray) ++ itoaB n)).size ≤ 20 + 22 * (j + 1) := by rw [size_app]; omega
  have hb1 : ((⟨#[32]⟩ : ByteArray) : Str).size = 1 := rfl
  rw [size_app, hb1] at hp
  have hi1 : a.size + ((⟨#[32]⟩ : ByteArray) : Str).size ≤ 9223372036854775807 := by omega
  have hi2 : (a ++ (⟨#[32]⟩ : ByteArray)).size + (itoaB n).size ≤ 9223372036854775807 := by rw [size_app]; omega
  repeat' first
    | refine g_go T hC true 400 rfl rfl ?_
    | refine g_cond rfl (fun h => ?_) (fun h => ?_)
    | refine g_end T hC (by kernel_rfl) ?_
    | refine g_splitD (fun h => ?_) (fun h => ?_)
    | refine g_splitG rfl rfl rfl (fun h => ?_) (fun h => ?_)
    | refine g_splitP rfl rfl (fun h => ?_) (fun h => ?_)
    | (refine g_cat hC rfl rfl hi1 rfl rfl ?_)
    | refine g_idx T hC rfl rfl rfl (Int.natCast_nonneg _) (map_at (by assumption)) rfl rfl ?_
    | refine g_call hC (hD) rfl rfl (LeSs.refl _) rfl rfl rfl ?_
    | (refine g_cat hC rfl rfl hi2 rfl rfl ?_)
    | refine g_outR ?_
  rw [wrapS (by omega), app_assoc]
  exact g_round (j + 1, a ++ ((⟨#[32]⟩ : ByteArray) ++ itoaB n)) ⟨by simp only; omega, ha, hz2⟩ id (by simp only; omega) ⟨rfl, ⟨rfl, rfl, rfl, trivial⟩, ⟨rfl, trivial⟩, rfl, fun _ _ => rfl⟩
end Hw.Mq
namespace Hw.Mq
open Go Go.Proofs Go.Shelf Hw.M

/-! operations as text: model.Parse -/
theorem wrdN_idx (f : FuncId) (ps : List Str) (l : List (Str × Int × Bool)) (p : (Str × Int × Bool) → Unit → Bool) (nx : (Str × Int × Bool) → Unit → Unit) (inv : Unit → Prop)
    (hf : ∀ x ∈ l, ∀ s : Unit, inv s → FnOK Tryz.prog f [aggS (wordR x), .one (.bx 0 0)] [(0, .box [.p (strsP ps)])] (.bq (p x s)) ((fun s : Unit => [(0, .box [.p (strsP ps)])]) (nx x s)) ∧ (p x s = false → inv (nx x s))) (s : Unit) (hs : inv s) :
    FnOK Tryz.prog 26 [pS (.sl 3 (l.map wordR)), .one (.cl f [] [.bx 0 0])] [(0, .box [.p (strsP ps)])] (I (idxR p nx l 0 s).1) ((fun s : Unit => [(0, .box [.p (strsP ps)])]) (idxR p nx l 0 s).2) := by
  refine fn_ok T Tryz.func26 (by kernel_rfl) rfl rfl rfl rfl fun C hC => ?_
  have hs0 := hs
  refine g_len 0 rfl fun hl => ?_
  rw [List.length_map] at hl
  repeat' first
    | refine g_go T hC true 400 rfl rfl ?_
    | refine g_cond rfl (fun h => ?_) (fun h => ?_)
    | refine g_end T hC (by kernel_rfl) ?_
    | refine g_splitD (fun h => ?_) (fun h => ?_)
    | refine g_splitG rfl rfl rfl (fun h => ?_) (fun h => ?_)
    | refine g_splitP rfl rfl (fun h => ?_) (fun h => ?_)
  rw [List.length_map]
  refine g_loop (fun q : Nat × Unit => q.1 ≤ l.length ∧ inv q.2 ∧ idxR p nx (l.drop q.1) q.1 q.2 = idxR p nx l 0 s) (fun q => (fun s : Unit => ([(0, pS (.sl 3 (l.map wordR))), (1, .one (.cl f [] [.bx 0 0])), (7, I l.length), (8, I q.1)], [(0, some (.box [.p (strsP ps)]))])) q.2) (fun q => l.length - q.1) hC
    (0, s) ⟨Nat.zero_le _, hs, rfl⟩ id ⟨rfl, ⟨rfl, rfl, rfl, rfl, trivial⟩, ⟨rfl, trivial⟩, rfl, fun _ _ => rfl⟩ ?_
  generalize idxR p nx l 0 s = res
  clear hs hs0
  rintro ⟨i, s⟩ ⟨hi, hv, hn⟩
  simp only at hi hv hn
  refine g_run' T hC true 200 rfl ?_
  refine g_cond rfl (fun hh => ?_) (fun hh => ?_)
  · have hlt : i < l.length := by simpa using hh
    clear hh
    obtain ⟨x, hx⟩ := exists_at hlt
    rw [drop_at hx] at hn
    simp only [idxR] at hn
    have hv2 := (hf x (List.mem_of_getElem? hx) s hv).2
    repeat' first
      | refine g_go T hC true 400 rfl rfl ?_
      | refine g_cond rfl (fun h => ?_) (fun h => ?_)
      | refine g_end T hC (by kernel_rfl) ?_
      | refine g_splitD (fun h => ?_) (fun h => ?_)
      | refine g_splitG rfl rfl rfl (fun h => ?_) (fun h => ?_)
      | refine g_splitP rfl rfl (fun h => ?_) (fun h => ?_)
      | refine g_idx T hC rfl rfl rfl (Int.natCast_nonneg _) (map_at hx) rfl rfl ?_
      | refine g_callR hC (hf x (List.mem_of_getElem? hx) s hv).1 id rfl rfl (LeSs.refl _) rfl rfl rfl rfl rfl rfl rfl rfl ?_
      | refine g_outR ?_
    · rw [if_pos (by assumption)] at hn
      subst hn
      exact g_fin ⟨.inl rfl, id, _, rfl, .refl _, ⟨rfl, trivial⟩, rfl, rfl⟩
    · have hpf : p x s = false := by assumption
      rw [hpf] at hn
      simp only [Bool.false_eq_true, if_false] at hn
      rw [wrap64 (by omega)]
      exact g_round (i + 1, nx x s) ⟨by simp only; omega, hv2 hpf, hn⟩ id (by simp only; omega) ⟨rfl, ⟨rfl, rfl, rfl, rfl, trivial⟩, ⟨rfl, trivial⟩, rfl, fun _ _ => rfl⟩
  · have hge : ¬ i < l.length := by simpa using hh
    rw [List.drop_eq_nil_of_le (by omega)] at hn
    simp only [idxR] at hn
    subst hn
    repeat' first
      | refine g_go T hC true 400 rfl rfl ?_
      | refine g_cond rfl (fun h => ?_) (fun h => ?_)
      | refine g_end T hC (by kernel_rfl) ?_
      | refine g_splitD (fun h => ?_) (fun h => ?_)
      | refine g_splitG rfl rfl rfl (fun h => ?_) (fun h => ?_)
      | refine g_splitP rfl rfl (fun h => ?_) (fun h => ?_)
      | refine g_outE ?_
    exact g_fin ⟨.inl rfl, id, _, rfl, .refl _, ⟨rfl, trivial⟩, rfl, rfl⟩
theorem parse1_ok (x : Str × Int × Bool) (ps : List Str) (p : Str) (hp : ps[0]? = some p) : FnOK Tryz.prog 27 [aggS (wordR x), .one (.bx 0 0)] [(0, .box [.p (strsP ps)])] (.bq (decide (x.1 = p))) [(0, .box [.p (strsP ps)])] := by
  refine fn_ok T Tryz.func27 (by kernel_rfl) rfl rfl rfl rfl fun C hC => ?_
  repeat' first
    | refine g_go T hC true 400 rfl rfl ?_
    | refine g_cond rfl (fun h => ?_) (fun h => ?_)
    | refine g_end T hC (by kernel_rfl) ?_
    | refine g_splitD (fun h => ?_) (fun h => ?_)
    | refine g_splitG rfl rfl rfl (fun h => ?_) (fun h => ?_)
    | refine g_splitP rfl rfl (fun h => ?_) (fun h => ?_)
    | refine g_idx T hC rfl rfl rfl (Int.le_refl _) (map_atI (f := strR) (i := 0) hp) rfl rfl ?_
  exact g_fin ⟨.inl rfl, id, _, rfl, .refl _, ⟨rfl, trivial⟩, rfl, rfl⟩
def argsA : List Str → List Int → Option (List Int)
  | [], a => some a
  | p :: r, a => match Lib.atoiAll (lst p) with
    | .ok v => if 64 < a.length then none else argsA r (a ++ [v])
    | _ => none
def codeM (k : Int) (p : Str) : Int := 1 + (idxR (fun (w : Str × Int × Bool) (_ : Unit) => decide (w.1 = p)) (fun _ u => u) (wordsL k) 0 ()).1
def opM (k : Int) (s : Str) : Option OpT := match argsA ((pcs s).drop 1) [] with
  | none => none
  | some l => if okOp k ⟨codeM k ((pcs s).headD (⟨#[]⟩ : ByteArray)), l⟩ = true ∧ opTx k ⟨codeM k ((pcs s).headD (⟨#[]⟩ : ByteArray)), l⟩ = s then some ⟨codeM k ((pcs s).headD (⟨#[]⟩ : ByteArray)), l⟩ else none
theorem idxR_range {α σ : Type} (p : α → σ → Bool) (nx : α → σ → σ) : ∀ (l : List α) (k : Nat) (s : σ), -1 ≤ (idxR p nx l k s).1 ∧ (idxR p nx l k s).1 ≤ ((k + l.length : Nat) : Int)
  | [], k, s => by simp [idxR] <;> omega
  | x :: r, k, s => by
    simp only [idxR]
    have := idxR_range p nx r (k + 1) (nx x s)
    split
    · simp only [List.length_cons]; omega
    · simp only [List.length_cons]; omega
theorem codeM_range (k : Int) (p : Str) : 0 ≤ codeM k p ∧ codeM k p ≤ 9 := by
  have := idxR_range (fun (w : Str × Int × Bool) (_ : Unit) => decide (w.1 = p)) (fun _ u => u) (wordsL k) 0 ()
  have h8 := words_len (k := k)
  unfold codeM
  omega
theorem splitB_size (sep : ByteArray) : ∀ (k : Nat) (s p : ByteArray), p ∈ Lib.splitB sep 0 k s → p.size ≤ s.size
  | 0, s, p, h => by
    rw [Lib.splitB_zero, List.mem_singleton] at h
    rw [h]; exact Nat.le_refl _
  | k + 1, s, p, h => by
    unfold Lib.splitB at h
    split at h
    · rw [List.mem_singleton] at h; rw [h]; exact Nat.le_refl _
    · rcases List.mem_cons.1 h with rfl | h
      · rw [ByteArray.size_extract]; omega
      · have := splitB_size sep k _ p h
        rw [ByteArray.size_extract] at this
        omega
theorem pcs_size (s p : Str) (h : p ∈ pcs s) : p.size ≤ s.size := splitB_size _ _ _ _ h
def zeroOp : OpT := ⟨0, []⟩
theorem mParse_out (k : Int) (s : Str) (hk : ¬(1 ≤ k ∧ k ≤ 6)) : FnOK Tryz.prog 8 [I k, Sr s] [] (.tup [aggS (opR zeroOp), I 1]) [] := by
  have hW := words_no hk
  refine fn_ok T Tryz.func8 (by kernel_rfl) rfl rfl rfl rfl fun C hC => ?_
  repeat' first
    | refine g_go T hC true 400 rfl rfl ?_
    | refine g_cond rfl (fun h => ?_) (fun h => ?_)
    | refine g_end T hC (by kernel_rfl) ?_
    | refine g_splitD (fun h => ?_) (fun h => ?_)
    | refine g_splitG rfl rfl rfl (fun h => ?_) (fun h => ?_)
    | refine g_splitP rfl rfl (fun h => ?_) (fun h => ?_)
    | refine g_call hC (hW) rfl rfl (LeSs.refl _) rfl rfl rfl ?_
    | (refine g_nilE hC rfl (et := 64) (by kernel_rfl) rfl rfl ?_)
  exact g_fin ⟨.inl rfl, id, _, rfl, LeS.tup (.cons (LeS.agg (.cons (.refl _) (.cons (LeV.nil 1) .nil))) (.cons (.refl _) .nil)), trivial, rfl, rfl⟩
theorem mParse_ok (k : Int) (s : Str) (hk : 1 ≤ k ∧ k ≤ 6) (hs : s.size ≤ 1000000) : FnOK Tryz.prog 8 [I k, Sr s] [] (.tup [aggS (opR ((opM k s).getD zeroOp)), I (if (opM k s).isSome = true then 0 else 7)]) [] := by
  have hW := words_ok hk
  have hne : (wordsL k).map wordR ≠ [] := by
    rcases kinds hk with rfl | rfl | rfl | rfl | rfl | rfl <;> decide
  have hle := Lib.countB_le blank (by decide) s.size s (Nat.le_refl _)
  have hpl := pcs_len s
  have hSp := split_ok s hs
  obtain ⟨p0, qs, hps⟩ : ∃ p0 qs, pcs s = p0 :: qs := by
    cases h : pcs s with
    | nil => rw [h] at hpl; simp at hpl
    | cons p q => exact ⟨p, q, rfl⟩
  have hql : qs.length ≤ 1000001 := by rw [hps] at hpl; simp only [List.length_cons] at hpl; omega
  have hpz : ∀ p ∈ pcs s, p.size ≤ 1000000 := fun p hp => Nat.le_trans (pcs_size s p hp) hs
  have hX := wrdN_idx 27 (pcs s) (wordsL k) (fun w _ => decide (w.1 = p0)) (fun _ u => u) (fun _ => True) (fun x _ _ _ => ⟨parse1_ok x _ p0 (by rw [hps]; rfl), fun _ => trivial⟩) () trivial
  obtain ⟨c0, c9⟩ := codeM_range k p0
  have w1 : IntKind.i64.wrap (1 + (idxR (fun (w : Str × Int × Bool) (_ : Unit) => decide (w.1 = p0)) (fun _ u => u) (wordsL k) 0 ()).1) = codeM k p0 := wrap64 (by unfold codeM at c0 c9; omega)
  have hr : ((pcs s).map strR).drop ((1 : Int)).toNat = qs.map strR := by rw [hps]; rfl
  have ho : opM k s = match argsA qs [] with
      | none => none
      | some l => if okOp k ⟨codeM k p0, l⟩ = true ∧ opTx k ⟨codeM k p0, l⟩ = s then some ⟨codeM k p0, l⟩ else none := by
    unfold opM; rw [hps]; rfl
  generalize opM k s = res at ho ⊢
  have hlen1 : ((1 : Int)) ≤ ((pcs s).map strR).length := by rw [List.length_map, hpl]; omega
  generalize codeM k p0 = c at w1 c0 c9 ho
  refine fn_ok T Tryz.func8 (by kernel_rfl) rfl rfl rfl rfl fun C hC => ?_
  repeat' first
    | refine g_go T hC true 400 rfl rfl ?_
    | refine g_cond rfl (fun h => ?_) (fun h => ?_)
    | refine g_end T hC (by kernel_rfl) ?_
    | refine g_splitD (fun h => ?_) (fun h => ?_)
    | refine g_splitG rfl rfl rfl (fun h => ?_) (fun h => ?_)
    | refine g_splitP rfl rfl (fun h => ?_) (fun h => ?_)
    | refine g_call hC (hW) rfl rfl (LeSs.refl _) rfl rfl rfl ?_
  refine g_slnil (rows := (wordsL k).map wordR) (e := 3) (et := 64) rfl (by kernel_rfl) rfl (fun b hb => ?_)
  have hbf : b = false := by cases b with
    | false => rfl
    | true => exact absurd (hb rfl) hne
  subst hbf
  repeat' first
    | refine g_go T hC true 400 rfl rfl ?_
    | (exfalso; simp at h; done)
    | refine g_cond rfl (fun h => ?_) (fun h => ?_)
    | refine g_end T hC (by kernel_rfl) ?_
    | refine g_splitD (fun h => ?_) (fun h => ?_)
    | refine g_splitG rfl rfl rfl (fun h => ?_) (fun h => ?_)
    | refine g_splitP rfl rfl (fun h => ?_) (fun h => ?_)
    | refine g_call hC (hSp) rfl rfl (LeSs.refl _) rfl rfl rfl ?_
    | refine g_callR hC (hX) (nm [1007]) rfl rfl (LeSs.refl _) rfl rfl rfl rfl rfl rfl rfl rfl ?_
    | (rw [w1])
    | (refine g_partL T hC (qs.map strR) rfl rfl rfl (by decide) hlen1 hr rfl rfl ?_)
  rw [List.length_map]
  clear h hb hW hSp hX hne hr hlen1 w1
  refine g_adopt hC rfl 101 1 rfl [] trivial [(1008, [.p (ki c), .ar 101])] ⟨⟨_, rfl, by decide, .cons (.refl _) (.cons .nil .nil)⟩, trivial⟩ ?_
  refine g_loop (fun q : Nat × List Int => q.1 ≤ qs.length ∧ argsA (qs.drop q.1) q.2 = argsA qs [] ∧ q.2.length = q.1) (fun q => ([(0, I k), (1, Sr s), (4, .one (.bx 1004 0)), (8, .one (.bx 1008 0)), (28, pS (strsP qs)), (29, I qs.length), (30, I q.1)],
      [(101, some (.arr 1 (q.2.map intR))), (1004, some (.box [.p (ki 0), .p (.k (.slice none 0 0))])), (1008, some (.box [.p (ki c), .ar 101]))])) (fun q => qs.length - q.1) hC
    (0, []) ⟨Nat.zero_le _, rfl, rfl⟩ id ⟨rfl, ⟨rfl, rfl, rfl, rfl, rfl, rfl, rfl, trivial⟩, ⟨rfl, rfl, rfl, trivial⟩, rfl, fun _ _ => rfl⟩ ?_
  rintro ⟨j, a⟩ ⟨hj, ha, hl⟩
  simp only at hj ha hl
  refine g_run' T hC true 200 rfl ?_
  refine g_cond rfl (fun hh => ?_) (fun hh => ?_)
  · have hlt : j < qs.length := by have := of_decide_eq_true hh; omega
    clear hh
    obtain ⟨p, hp⟩ := exists_at hlt
    rw [drop_at hp] at ha
    have hps' : p.size ≤ 1000000 := hpz p (by rw [hps]; exact List.mem_cons_of_mem _ (List.mem_of_getElem? hp))
    by_cases hbad : ∀ v, Lib.atoiAll (lst p) ≠ .ok v
    · have hnone : argsA qs [] = none := by
        rw [← ha]
        unfold argsA
        cases hh : Lib.atoiAll (lst p)
        · exact absurd hh (hbad _)
        · rfl
        · rfl
      rw [hnone] at ho
      subst ho
      obtain ⟨z, hA⟩ := atoi_bad hbad hps'
      repeat' first
        | refine g_go T hC true 400 rfl rfl ?_
        | refine g_cond rfl (fun h => ?_) (fun h => ?_)
        | refine g_end T hC (by kernel_rfl) ?_
        | refine g_splitD (fun h => ?_) (fun h => ?_)
        | refine g_splitG rfl rfl rfl (fun h => ?_) (fun h => ?_)
        | refine g_splitP rfl rfl (fun h => ?_) (fun h => ?_)
        | refine g_idx T hC rfl rfl rfl (Int.natCast_nonneg _) (map_at (f := strR) hp) rfl rfl ?_
        | (refine g_callR hC hA (nm [140]) rfl rfl (LeSs.refl _) rfl rfl rfl rfl rfl rfl rfl rfl ?_)
        | refine g_ifcN hC rfl rfl (by kernel_rfl) rfl rfl ?_
      exact g_fin ⟨.inl rfl, id, _, rfl, LeS.tup (.cons (LeS.agg (.cons (.refl _) (.cons (LeV.nil 1) .nil))) (.cons (.refl _) .nil)), trivial, rfl, rfl⟩
    · obtain ⟨v, hv⟩ : ∃ v, Lib.atoiAll (lst p) = .ok v := by
        cases hh : Lib.atoiAll (lst p)
        · exact ⟨_, rfl⟩
        · exact absurd (fun v e => by rw [hh] at e; cases e) hbad
        · exact absurd (fun v e => by rw [hh] at e; cases e) hbad
      have hA := atoi_ok hv hps'
      have hal : (a.map intR).length = a.length := List.length_map _
      by_cases h64 : 64 < a.length
      · have hnone : argsA qs [] = none := by
          rw [← ha]
          unfold argsA
          rw [hv]
          simp only [if_pos h64]
        rw [hnone] at ho
        subst ho
        have hno : ¬ (((a.map intR).length : Nat) : Int) ≤ 64 := by rw [hal]; omega
        repeat' first
          | refine g_go T hC true 400 rfl rfl ?_
          | (exfalso; have h2 := of_decide_eq_false h; simp only [hal] at h2; omega)
          | refine g_cond rfl (fun h => ?_) (fun h => ?_)
          | refine g_end T hC (by kernel_rfl) ?_
          | refine g_splitD (fun h => ?_) (fun h => ?_)
          | refine g_splitG rfl rfl rfl (fun h => ?_) (fun h => ?_)
          | refine g_splitP rfl rfl (fun h => ?_) (fun h => ?_)
          | refine g_idx T hC rfl rfl rfl (Int.natCast_nonneg _) (map_at (f := strR) hp) rfl rfl ?_
          | refine g_call hC (hA) rfl rfl (LeSs.refl _) rfl rfl rfl ?_
          | refine g_ifnN hC rfl (by kernel_rfl) rfl rfl ?_
        exact g_fin ⟨.inl rfl, id, _, rfl, LeS.tup (.cons (LeS.agg (.cons (.refl _) (.cons (LeV.nil 1) .nil))) (.cons (.refl _) .nil)), trivial, rfl, rfl⟩
      · have hd : argsA (qs.drop (j + 1)) (a ++ [v]) = argsA qs [] := by
          rw [← ha]
          conv => rhs; unfold argsA
          rw [hv]
          simp only [if_neg h64]
        have hr3 : a.map intR ++ [intR v] = (a ++ [v]).map intR := by rw [List.map_append]; rfl
        repeat' first
          | refine g_go T hC true 400 rfl rfl ?_
          | (exfalso; have h2 := of_decide_eq_true h; simp only [hal] at h2; omega)
          | refine g_cond rfl (fun h => ?_) (fun h => ?_)
          | refine g_end T hC (by kernel_rfl) ?_
          | refine g_splitD (fun h => ?_) (fun h => ?_)
          | refine g_splitG rfl rfl rfl (fun h => ?_) (fun h => ?_)
          | refine g_splitP rfl rfl (fun h => ?_) (fun h => ?_)
          | refine g_idx T hC rfl rfl rfl (Int.natCast_nonneg _) (map_at (f := strR) hp) rfl rfl ?_
          | refine g_call hC (hA) rfl rfl (LeSs.refl _) rfl rfl rfl ?_
          | refine g_ifnN hC rfl (by kernel_rfl) rfl rfl ?_
          | refine g_lit T hC rfl rfl rfl rfl rfl rfl rfl rfl rfl ?_
          | (refine g_append T 102 hC (rows := a.map intR) (rows2 := [intR v]) (rows3 := (a ++ [v]).map intR) (bytes := 8) rfl rfl rfl rfl (SrcS.sl (T.es_ok _ _ rfl)) hr3 rfl rfl rfl (by kernel_rfl) (by rw [hal, List.length_singleton]; omega) (by rw [hal, List.length_singleton]; omega) rfl rfl rfl ?_)
          | refine g_outR ?_
        rw [wrapS (by omega)]
        exact g_round (j + 1, a ++ [v]) ⟨by simp only; omega, hd, by simp only [List.length_append, List.length_singleton]; omega⟩ (mvU 101 102) (by simp only; omega) ⟨rfl, ⟨rfl, rfl, rfl, rfl, rfl, rfl, rfl, trivial⟩, ⟨rfl, rfl, rfl, trivial⟩, rfl, fun i hi => mvU_low (by omega) hi⟩
  · have hge : ¬ j < qs.length := by have := of_decide_eq_false hh; omega
    rw [List.drop_of_length_le (by omega)] at ha
    simp only [argsA] at ha
    rw [← ha] at ho
    simp only at ho
    clear hh
    repeat' first
      | refine g_go T hC true 400 rfl rfl ?_
      | refine g_cond rfl (fun h => ?_) (fun h => ?_)
      | refine g_end T hC (by kernel_rfl) ?_
      | refine g_splitD (fun h => ?_) (fun h => ?_)
      | refine g_splitG rfl rfl rfl (fun h => ?_) (fun h => ?_)
      | refine g_splitP rfl rfl (fun h => ?_) (fun h => ?_)
      | refine g_outE ?_
    refine g_freeze rfl (id := 101) (e := 1) (rows := a.map intR) rfl [(57, .agg [.p (ki c), .p (intsP a)])] ⟨⟨_, rfl, FrS.agg (.cons (.refl _) (.cons .ar .nil))⟩, trivial⟩ [(1008, [.p (ki c), .p (intsP a)])] ⟨⟨_, rfl, by decide, .cons (.refl _) (.cons .ar .nil)⟩, trivial⟩ ?_
    cases hok : okOp k ⟨c, a⟩ with
    | false =>
      have hT := mText_no k ⟨c, a⟩ hok
      rw [hok, if_neg (by simp)] at ho
      subst ho
      repeat' first
        | refine g_go T hC true 400 rfl rfl ?_
        | (exfalso; simp at h; done)
        | refine g_cond rfl (fun h => ?_) (fun h => ?_)
        | refine g_end T hC (by kernel_rfl) ?_
        | refine g_splitD (fun h => ?_) (fun h => ?_)
        | refine g_splitG rfl rfl rfl (fun h => ?_) (fun h => ?_)
        | refine g_splitP rfl rfl (fun h => ?_) (fun h => ?_)
        | refine g_call hC (hT) rfl rfl (LeSs.refl _) rfl rfl rfl ?_
      all_goals first
        | exact g_fin ⟨.inl rfl, id, _, rfl, LeS.tup (.cons (LeS.agg (.cons (.refl _) (.cons (LeV.nil 1) .nil))) (.cons (.refl _) .nil)), trivial, rfl, rfl⟩
    | true =>
      have hT := mText_yes k ⟨c, a⟩ hok
      by_cases hs' : opTx k ⟨c, a⟩ = s
      · rw [if_pos ⟨hok, hs'⟩] at ho
        subst ho
        repeat' first
          | refine g_go T hC true 400 rfl rfl ?_
          | (exfalso; simp [hs'] at h; done)
          | refine g_cond rfl (fun h => ?_) (fun h => ?_)
          | refine g_end T hC (by kernel_rfl) ?_
          | refine g_splitD (fun h => ?_) (fun h => ?_)
          | refine g_splitG rfl rfl rfl (fun h => ?_) (fun h => ?_)
          | refine g_splitP rfl rfl (fun h => ?_) (fun h => ?_)
          | refine g_call hC (hT) rfl rfl (LeSs.refl _) rfl rfl rfl ?_
        exact g_fin ⟨.inl rfl, id, _, rfl, .refl _, trivial, rfl, rfl⟩
      · rw [if_neg (fun e => hs' e.2)] at ho
        subst ho
        repeat' first
          | refine g_go T hC true 400 rfl rfl ?_
          | (exfalso; simp [hs'] at h; done)
          | refine g_cond rfl (fun h => ?_) (fun h => ?_)
          | refine g_end T hC (by kernel_rfl) ?_
          | refine g_splitD (fun h => ?_) (fun h => ?_)
          | refine g_splitG rfl rfl rfl (fun h => ?_) (fun h => ?_)
          | refine g_splitP rfl rfl (fun h => ?_) (fun h => ?_)
          | refine g_call hC (hT) rfl rfl (LeSs.refl _) rfl rfl rfl ?_
        exact g_fin ⟨.inl rfl, id, _, rfl, LeS.tup (.cons (LeS.agg (.cons (.refl _) (.cons (LeV.nil 1) .nil))) (.cons (.refl _) .nil)), trivial, rfl, rfl⟩
end Hw.Mq
