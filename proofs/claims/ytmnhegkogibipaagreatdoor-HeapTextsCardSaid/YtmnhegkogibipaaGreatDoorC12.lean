/- The engine and the contracts. -/
import Derived.Test.YtmnhegkogibipaaGreatDoorC11
import Derived.Test.YtmnhegkogibipaaGreatDoorC10
set_option linter.unusedVariables false
set_option linter.unusedSimpArgs false
namespace Hw.Z
open Go Go.Proofs Go.Shelf Hw.M

theorem wrapU (n : Int) : IntKind.u64.wrap n = n % 18446744073709551616 := by
  simp [IntKind.wrap, IntKind.signed, IntKind.bits]
theorem wrapU_in {n : Int} (h0 : 0 ≤ n) (h1 : n < 18446744073709551616) : IntKind.u64.wrap n = n := by rw [wrapU]; omega
theorem appendIntI_ok (s : Str) (n : Int) (h0 : -4611686018427387904 ≤ n) (h1 : n ≤ 4611686018427387904) (hs : s.size ≤ 900000) :
    FnOK Tryz.prog 146 [.one (.ar 0), I n, I 10] (bA 0 s) (.one (.ar 1)) (bA 1 (s ++ itoaB n)) := by
  have hsl := bytesR_len s
  by_cases h : n < 0
  · have hU := appendUint_ok (s ++ (⟨#[45]⟩ : Str)) n.natAbs (by omega) (by rw [size_app]; have : ByteArray.size ⟨#[45]⟩ = 1 := rfl; omega)
    have w2 : IntKind.u64.wrap (0 - IntKind.u64.wrap n) = (n.natAbs : Int) := by rw [wrapU, wrapU]; omega
    have e : s ++ (⟨#[45]⟩ : Str) ++ decB n.natAbs = s ++ itoaB n := by rw [itoaB_neg h, ByteArray.append_assoc]
    rw [e] at hU
    refine fn_ok T Tryz.func146 (by kernel_rfl) rfl rfl rfl rfl fun C hC => ?_
    repeat' first
      | refine g_go T hC true 400 rfl rfl ?_
      | refine g_cond rfl (fun h => ?_) (fun h => ?_)
      | refine g_end T hC (by kernel_rfl) ?_
      | refine g_splitD (fun h => ?_) (fun h => ?_)
      | refine g_splitG rfl rfl rfl (fun h => ?_) (fun h => ?_)
      | refine g_splitP rfl rfl (fun h => ?_) (fun h => ?_)
      | refine g_lit T hC rfl rfl rfl rfl rfl rfl rfl rfl rfl ?_
      | (refine g_append T 101 hC (rows := bytesR s) (rows2 := bytesR ⟨#[45]⟩) (rows3 := bytesR (s ++ ⟨#[45]⟩)) (bytes := 1) rfl rfl rfl rfl (SrcS.sl (T.es_ok _ _ rfl)) (bytesR_append _ _).symm rfl rfl rfl (by kernel_rfl) (by rw [hsl]; simp only [bytesR_len]; have : ByteArray.size ⟨#[45]⟩ = 1 := rfl; omega) (by rw [hsl]; simp only [bytesR_len]; have : ByteArray.size ⟨#[45]⟩ = 1 := rfl; omega) rfl rfl rfl ?_)
      | refine g_neg hC rfl rfl rfl ?_
      | (rw [w2]; refine g_callR hC hU (nm [101, 102]) rfl rfl (LeSs.refl _) rfl rfl rfl rfl rfl rfl rfl rfl ?_)
    all_goals first
      | (exfalso; simp only [decide_eq_true_eq, decide_eq_false_iff_not] at *; omega)
      | exact g_fin ⟨.inl rfl, nm [0, 102], _, rfl, .refl _, ⟨rfl, trivial⟩, rfl, rfl⟩
  · have hU := appendUint_ok s n.toNat (by omega) (by omega)
    have w1 : IntKind.u64.wrap n = (n.toNat : Int) := by rw [wrapU]; omega
    rw [← itoaB_nonneg (by omega)] at hU
    refine fn_ok T Tryz.func146 (by kernel_rfl) rfl rfl rfl rfl fun C hC => ?_
    repeat' first
      | refine g_go T hC true 400 rfl rfl ?_
      | refine g_cond rfl (fun h => ?_) (fun h => ?_)
      | refine g_end T hC (by kernel_rfl) ?_
      | refine g_splitD (fun h => ?_) (fun h => ?_)
      | refine g_splitG rfl rfl rfl (fun h => ?_) (fun h => ?_)
      | refine g_splitP rfl rfl (fun h => ?_) (fun h => ?_)
      | (rw [w1]; refine g_callR hC hU (nm [0, 102]) rfl rfl (LeSs.refl _) rfl rfl rfl rfl rfl rfl rfl rfl ?_)
    all_goals first
      | exact g_fin ⟨.inl rfl, nm [0, 102], _, rfl, .refl _, ⟨rfl, trivial⟩, rfl, rfl⟩
      | (exfalso; simp only [decide_eq_true_eq, decide_eq_false_iff_not] at *; omega)
theorem appendInt_ok (s : Str) (n : Int) (h0 : -4611686018427387904 ≤ n) (h1 : n ≤ 4611686018427387904) (hs : s.size ≤ 900000) :
    FnOK Tryz.prog 83 [.one (.ar 0), I n, I 10] (bA 0 s) (.one (.ar 1)) (bA 1 (s ++ itoaB n)) := by
  have hU := appendIntI_ok s n h0 h1 hs
  refine fn_ok T Tryz.func83 (by kernel_rfl) rfl rfl rfl rfl fun C hC => ?_
  repeat' first
    | refine g_go T hC true 400 rfl rfl ?_
    | refine g_cond rfl (fun h => ?_) (fun h => ?_)
    | refine g_end T hC (by kernel_rfl) ?_
    | refine g_splitD (fun h => ?_) (fun h => ?_)
    | refine g_splitG rfl rfl rfl (fun h => ?_) (fun h => ?_)
    | refine g_splitP rfl rfl (fun h => ?_) (fun h => ?_)
    | refine g_callR hC (hU) (nm [0, 102]) rfl rfl (LeSs.refl _) rfl rfl rfl rfl rfl rfl rfl rfl ?_
  exact g_fin ⟨.inl rfl, nm [0, 102], _, rfl, .refl _, ⟨rfl, trivial⟩, rfl, rfl⟩
def boolB (b : Bool) : Str := if b = true then (⟨#[116, 114, 117, 101]⟩ : ByteArray) else (⟨#[102, 97, 108, 115, 101]⟩ : ByteArray)
theorem appendBoolI_ok (s : Str) (b : Bool) (hs : s.size ≤ 900000) : FnOK Tryz.prog 189 [.one (.ar 0), .bq b] (bA 0 s) (.one (.ar 1)) (bA 1 (s ++ boolB b)) := by
  have hsl := bytesR_len s
  have e1 : ByteArray.size (⟨#[116, 114, 117, 101]⟩ : ByteArray) = 4 := rfl
  have e2 : ByteArray.size (⟨#[102, 97, 108, 115, 101]⟩ : ByteArray) = 5 := rfl
  refine fn_ok T Tryz.func189 (by kernel_rfl) rfl rfl rfl rfl fun C hC => ?_
  repeat' first
    | refine g_go T hC true 400 rfl rfl ?_
    | refine g_cond rfl (fun h => ?_) (fun h => ?_)
    | refine g_end T hC (by kernel_rfl) ?_
    | refine g_splitD (fun h => ?_) (fun h => ?_)
    | refine g_splitG rfl rfl rfl (fun h => ?_) (fun h => ?_)
    | refine g_splitP rfl rfl (fun h => ?_) (fun h => ?_)
  · have hb : boolB b = (⟨#[116, 114, 117, 101]⟩ : ByteArray) := by simp only [boolB, h, if_true]
    rw [hb]
    refine g_append T 101 hC (rows := bytesR s) (rows2 := bytesR (⟨#[116, 114, 117, 101]⟩ : ByteArray)) (rows3 := bytesR (s ++ (⟨#[116, 114, 117, 101]⟩ : ByteArray))) (bytes := 1) rfl rfl rfl rfl (SrcS.str (by kernel_rfl)) (bytesR_append _ _).symm rfl rfl rfl (by kernel_rfl) (by rw [hsl, bytesR_len]; omega) (by rw [hsl, bytesR_len]; omega) rfl rfl rfl ?_
    repeat' first
      | refine g_go T hC true 400 rfl rfl ?_
      | refine g_cond rfl (fun h => ?_) (fun h => ?_)
      | refine g_end T hC (by kernel_rfl) ?_
      | refine g_splitD (fun h => ?_) (fun h => ?_)
      | refine g_splitG rfl rfl rfl (fun h => ?_) (fun h => ?_)
      | refine g_splitP rfl rfl (fun h => ?_) (fun h => ?_)
    exact g_fin ⟨.inl rfl, nm [0, 101], _, rfl, .refl _, ⟨rfl, trivial⟩, rfl, rfl⟩
  · have hb : boolB b = (⟨#[102, 97, 108, 115, 101]⟩ : ByteArray) := by simp only [boolB, h, Bool.false_eq_true, if_false]
    rw [hb]
    refine g_append T 101 hC (rows := bytesR s) (rows2 := bytesR (⟨#[102, 97, 108, 115, 101]⟩ : ByteArray)) (rows3 := bytesR (s ++ (⟨#[102, 97, 108, 115, 101]⟩ : ByteArray))) (bytes := 1) rfl rfl rfl rfl (SrcS.str (by kernel_rfl)) (bytesR_append _ _).symm rfl rfl rfl (by kernel_rfl) (by rw [hsl, bytesR_len]; omega) (by rw [hsl, bytesR_len]; omega) rfl rfl rfl ?_
    repeat' first
      | refine g_go T hC true 400 rfl rfl ?_
      | refine g_cond rfl (fun h => ?_) (fun h => ?_)
      | refine g_end T hC (by kernel_rfl) ?_
      | refine g_splitD (fun h => ?_) (fun h => ?_)
      | refine g_splitG rfl rfl rfl (fun h => ?_) (fun h => ?_)
      | refine g_splitP rfl rfl (fun h => ?_) (fun h => ?_)
    exact g_fin ⟨.inl rfl, nm [0, 101], _, rfl, .refl _, ⟨rfl, trivial⟩, rfl, rfl⟩
theorem appendBool_ok (s : Str) (b : Bool) (hs : s.size ≤ 900000) : FnOK Tryz.prog 145 [.one (.ar 0), .bq b] (bA 0 s) (.one (.ar 1)) (bA 1 (s ++ boolB b)) := by
  have hU := appendBoolI_ok s b hs
  refine fn_ok T Tryz.func145 (by kernel_rfl) rfl rfl rfl rfl fun C hC => ?_
  repeat' first
    | refine g_go T hC true 400 rfl rfl ?_
    | refine g_cond rfl (fun h => ?_) (fun h => ?_)
    | refine g_end T hC (by kernel_rfl) ?_
    | refine g_splitD (fun h => ?_) (fun h => ?_)
    | refine g_splitG rfl rfl rfl (fun h => ?_) (fun h => ?_)
    | refine g_splitP rfl rfl (fun h => ?_) (fun h => ?_)
    | refine g_callR hC (hU) (nm [0, 102]) rfl rfl (LeSs.refl _) rfl rfl rfl rfl rfl rfl rfl rfl ?_
  exact g_fin ⟨.inl rfl, nm [0, 102], _, rfl, .refl _, ⟨rfl, trivial⟩, rfl, rfl⟩

/-! The reference's decimals -/
theorem encode_digit {n : Int} (h0 : 48 ≤ n) (h1 : n ≤ 57) : Utf8.encode n = (⟨#[UInt8.ofNat n.toNat]⟩ : Str) := by
  have hv : Utf8.valid n = true := by simp [Utf8.valid]; omega
  have hc : n.toNat < 128 := by omega
  simp only [Utf8.encode, hv, if_true]
  rw [if_pos (by omega)]
theorem decDigits_big {u : Nat} (h : ¬ u < 10) : decB u = decB (u / 10) ++ (⟨#[UInt8.ofNat (48 + u % 10)]⟩ : Str) := by
  simp only [decB]
  rw [Lib.decDigits, dif_neg h]
  apply ByteArray.ext
  rw [ByteArray.data_append]
  apply Array.toList_inj.1
  simp
theorem decDigits_one' {u : Nat} (h : u < 10) : decB u = (⟨#[UInt8.ofNat (48 + u)]⟩ : Str) := by
  simp only [decB, Lib.decDigits_one h]
theorem itoaB_size {n : Int} (h0 : -4611686018427387904 ≤ n) (h1 : n ≤ 4611686018427387904) : (itoaB n).size ≤ 21 := by
  by_cases h : n < 0
  · rw [itoaB_neg h, size_app, decB_size]
    have := nDigits_le (u := n.natAbs) (by omega)
    have : ByteArray.size ⟨#[45]⟩ = 1 := rfl
    omega
  · rw [itoaB_nonneg (by omega), decB_size]
    have := nDigits_le (u := n.toNat) (by omega)
    omega
theorem tdiv_neg10 (m : Nat) : (-(m : Int)).tdiv 10 = -((m / 10 : Nat) : Int) := by rw [Int.neg_tdiv]; rfl
theorem tmod_neg10 (m : Nat) : (-(m : Int)).tmod 10 = -((m % 10 : Nat) : Int) := by rw [Int.neg_tmod]; rfl
theorem decimal_ok : ∀ (k : Nat) (n : Int), n.natAbs < k → -4611686018427387904 ≤ n → n ≤ 4611686018427387904 → FnOK Tryz.prog 85 [I n] [] (Sr (itoaB n)) [] := by
  intro k
  induction k with
  | zero => intro n h; omega
  | succ k ih =>
  intro n hk h0 h1
  have one : ∀ c : UInt8, ByteArray.size ⟨#[c]⟩ = 1 := fun c => rfl
  by_cases hneg : n < 0
  · by_cases hbig : n < -9
    · have hq : n.tdiv 10 = -((n.natAbs / 10 : Nat) : Int) := by
        have e : n = -((n.natAbs : Nat) : Int) := by omega
        exact (congrArg (·.tdiv 10) e).trans (tdiv_neg10 _)
      have hr : n.tmod 10 = -((n.natAbs % 10 : Nat) : Int) := by
        have e : n = -((n.natAbs : Nat) : Int) := by omega
        exact (congrArg (·.tmod 10) e).trans (tmod_neg10 _)
      have hI := ih (n.tdiv 10) (by rw [hq]; omega) (by rw [hq]; omega) (by rw [hq]; omega)
      have w1 : IntKind.i64.wrap (n.tdiv 10) = n.tdiv 10 := wrap64 (by rw [hq]; omega)
      have w2 : IntKind.i32.wrap (IntKind.i64.wrap (48 - n.tmod 10)) = 48 + ((n.natAbs % 10 : Nat) : Int) := by
        rw [wrap64 (by rw [hr]; omega), hr, Go.IntWalk.i32_in _ (by omega)]; omega
      have e1 : itoaB (n.tdiv 10) ++ Utf8.encode (48 + ((n.natAbs % 10 : Nat) : Int)) = itoaB n := by
        rw [encode_digit (by omega) (by omega), itoaB_neg hneg, itoaB_neg (by rw [hq]; omega), decDigits_big (u := n.natAbs) (by omega), hq, ByteArray.append_assoc]
        congr 2
        · congr 1; omega
      have hsz := itoaB_size (n := n.tdiv 10) (by rw [hq]; omega) (by rw [hq]; omega)
      refine fn_ok T Tryz.func85 (by kernel_rfl) rfl rfl rfl rfl fun C hC => ?_
      repeat' first
        | refine g_go T hC true 400 rfl rfl ?_
        | refine g_cond rfl (fun h => ?_) (fun h => ?_)
        | refine g_end T hC (by kernel_rfl) ?_
        | refine g_splitD (fun h => ?_) (fun h => ?_)
        | refine g_splitG rfl rfl rfl (fun h => ?_) (fun h => ?_)
        | refine g_splitP rfl rfl (fun h => ?_) (fun h => ?_)
        | (refine g_quo hC rfl rfl (by decide) rfl rfl ?_; rw [w1])
        | refine g_call hC (hI) rfl rfl (LeSs.refl _) rfl rfl rfl ?_
        | refine g_rem hC rfl rfl (by decide) rfl rfl ?_
        | (rw [w2]; refine g_r2s hC (k1 := .i32) rfl (by kernel_rfl) (by kernel_rfl) rfl rfl ?_)
        | (refine g_cat hC rfl rfl (by rw [encode_digit (by omega) (by omega), one]; omega) rfl rfl ?_)
      all_goals first
        | (exfalso; simp only [decide_eq_true_eq, decide_eq_false_iff_not] at *; omega)
        | skip
      rw [e1]
      exact g_fin ⟨.inl rfl, id, _, rfl, .refl _, trivial, rfl, rfl⟩
    · have w2 : IntKind.i32.wrap (IntKind.i64.wrap (48 - n)) = 48 + ((n.natAbs : Nat) : Int) := by
        rw [wrap64 (by omega), Go.IntWalk.i32_in _ (by omega)]; omega
      have e1 : (⟨#[45]⟩ : Str) ++ Utf8.encode (48 + ((n.natAbs : Nat) : Int)) = itoaB n := by
        rw [encode_digit (by omega) (by omega), itoaB_neg hneg, decDigits_one' (by omega)]
        congr 3
      refine fn_ok T Tryz.func85 (by kernel_rfl) rfl rfl rfl rfl fun C hC => ?_
      repeat' first
        | refine g_go T hC true 400 rfl rfl ?_
        | refine g_cond rfl (fun h => ?_) (fun h => ?_)
        | refine g_end T hC (by kernel_rfl) ?_
        | refine g_splitD (fun h => ?_) (fun h => ?_)
        | refine g_splitG rfl rfl rfl (fun h => ?_) (fun h => ?_)
        | refine g_splitP rfl rfl (fun h => ?_) (fun h => ?_)
        | (rw [w2]; refine g_r2s hC (k1 := .i32) rfl (by kernel_rfl) (by kernel_rfl) rfl rfl ?_)
        | (refine g_cat hC rfl rfl (by rw [encode_digit (by omega) (by omega)]; simp only [one]; omega) rfl rfl ?_)
      all_goals first
        | (exfalso; simp only [decide_eq_true_eq, decide_eq_false_iff_not] at *; omega)
        | skip
      rw [e1]
      exact g_fin ⟨.inl rfl, id, _, rfl, .refl _, trivial, rfl, rfl⟩
  · by_cases hbig : 9 < n
    · have hq : n.tdiv 10 = ((n.toNat / 10 : Nat) : Int) := by
        have e : n = ((n.toNat : Nat) : Int) := by omega
        exact congrArg (·.tdiv 10) e
      have hr : n.tmod 10 = ((n.toNat % 10 : Nat) : Int) := by
        have e : n = ((n.toNat : Nat) : Int) := by omega
        exact congrArg (·.tmod 10) e
      have hI := ih (n.tdiv 10) (by rw [hq]; omega) (by rw [hq]; omega) (by rw [hq]; omega)
      have w1 : IntKind.i64.wrap (n.tdiv 10) = n.tdiv 10 := wrap64 (by rw [hq]; omega)
      have w2 : IntKind.i32.wrap (IntKind.i64.wrap (48 + n.tmod 10)) = 48 + ((n.toNat % 10 : Nat) : Int) := by
        rw [wrap64 (by rw [hr]; omega), hr, Go.IntWalk.i32_in _ (by omega)]
      have e1 : itoaB (n.tdiv 10) ++ Utf8.encode (48 + ((n.toNat % 10 : Nat) : Int)) = itoaB n := by
        rw [encode_digit (by omega) (by omega), itoaB_nonneg (n := n) (by omega), itoaB_nonneg (by rw [hq]; omega), decDigits_big (u := n.toNat) (by omega), hq]
        congr 2
      have hsz := itoaB_size (n := n.tdiv 10) (by rw [hq]; omega) (by rw [hq]; omega)
      refine fn_ok T Tryz.func85 (by kernel_rfl) rfl rfl rfl rfl fun C hC => ?_
      repeat' first
        | refine g_go T hC true 400 rfl rfl ?_
        | refine g_cond rfl (fun h => ?_) (fun h => ?_)
        | refine g_end T hC (by kernel_rfl) ?_
        | refine g_splitD (fun h => ?_) (fun h => ?_)
        | refine g_splitG rfl rfl rfl (fun h => ?_) (fun h => ?_)
        | refine g_splitP rfl rfl (fun h => ?_) (fun h => ?_)
        | (refine g_quo hC rfl rfl (by decide) rfl rfl ?_; rw [w1])
        | refine g_call hC (hI) rfl rfl (LeSs.refl _) rfl rfl rfl ?_
        | refine g_rem hC rfl rfl (by decide) rfl rfl ?_
        | (rw [w2]; refine g_r2s hC (k1 := .i32) rfl (by kernel_rfl) (by kernel_rfl) rfl rfl ?_)
        | (refine g_cat hC rfl rfl (by rw [encode_digit (by omega) (by omega), one]; omega) rfl rfl ?_)
      all_goals first
        | (exfalso; simp only [decide_eq_true_eq, decide_eq_false_iff_not] at *; omega)
        | skip
      rw [e1]
      exact g_fin ⟨.inl rfl, id, _, rfl, .refl _, trivial, rfl, rfl⟩
    · have w2 : IntKind.i32.wrap (IntKind.i64.wrap (48 + n)) = 48 + ((n.toNat : Nat) : Int) := by
        rw [wrap64 (by omega), Go.IntWalk.i32_in _ (by omega)]; omega
      have e1 : Utf8.encode (48 + ((n.toNat : Nat) : Int)) = itoaB n := by
        rw [encode_digit (by omega) (by omega), itoaB_nonneg (by omega), decDigits_one' (by omega)]
        congr 3
      refine fn_ok T Tryz.func85 (by kernel_rfl) rfl rfl rfl rfl fun C hC => ?_
      repeat' first
        | refine g_go T hC true 400 rfl rfl ?_
        | refine g_cond rfl (fun h => ?_) (fun h => ?_)
        | refine g_end T hC (by kernel_rfl) ?_
        | refine g_splitD (fun h => ?_) (fun h => ?_)
        | refine g_splitG rfl rfl rfl (fun h => ?_) (fun h => ?_)
        | refine g_splitP rfl rfl (fun h => ?_) (fun h => ?_)
        | (rw [w2]; refine g_r2s hC (k1 := .i32) rfl (by kernel_rfl) (by kernel_rfl) rfl rfl ?_)
      all_goals first
        | (exfalso; simp only [decide_eq_true_eq, decide_eq_false_iff_not] at *; omega)
        | skip
      rw [e1]
      exact g_fin ⟨.inl rfl, id, _, rfl, .refl _, trivial, rfl, rfl⟩
end Hw.Z
namespace Hw.Z
open Go Go.Proofs Go.Shelf Hw.M

/-! The text of a memory -/
def catB : List Str → Str
  | [] => (⟨#[]⟩ : ByteArray)
  | a :: l => a ++ catB l
theorem nil_cat (a : Str) : (⟨#[]⟩ : ByteArray) ++ a = a := ByteArray.empty_append
theorem cat_nil (a : Str) : a ++ (⟨#[]⟩ : ByteArray) = a := ByteArray.append_empty
theorem catB_append : ∀ a b : List Str, catB (a ++ b) = catB a ++ catB b
  | [], b => (nil_cat _).symm
  | x :: a, b => by simp only [List.cons_append, catB, catB_append a b, ByteArray.append_assoc]
theorem catB_take {l : List Str} {i : Nat} {x : Str} (h : l[i]? = some x) : catB (l.take (i + 1)) = catB (l.take i) ++ x := by
  rw [take_snoc' h, catB_append, catB, catB, cat_nil]
theorem catB_le {k : Nat} : ∀ {l : List Str}, (∀ x ∈ l, x.size ≤ k) → (catB l).size ≤ k * l.length
  | [], _ => Nat.zero_le _
  | a :: l, h => by
    have h1 := h a (by simp)
    have h2 := catB_le (l := l) fun x hx => h x (by simp [hx])
    rw [catB, size_app, List.length_cons, Nat.mul_add, Nat.mul_one]; omega
theorem catB_take_le (l : List Str) (i : Nat) : (catB (l.take i)).size ≤ (catB l).size := by
  conv => rhs; rw [← List.take_append_drop i l, catB_append, size_app]
  omega
def showB (t : Str) (v : Int) : Str := if t = (⟨#[105, 110, 116]⟩ : ByteArray) then itoaB v else if t = (⟨#[98, 111, 111, 108]⟩ : ByteArray) then boolB (decide (v = 1)) else if v = 0 then (⟨#[110, 105, 108]⟩ : ByteArray) else (⟨#[35]⟩ : ByteArray) ++ itoaB v
def smallV (v : Int) : Prop := -1099511627776 ≤ v ∧ v ≤ 1099511627776
theorem boolB_size (b : Bool) : (boolB b).size ≤ 5 := by
  unfold boolB; split
  · show 4 ≤ 5; decide
  · show 5 ≤ 5; decide
theorem showB_size (t : Str) {v : Int} (h : smallV v) : (showB t v).size ≤ 22 := by
  have := itoaB_size (n := v) (by have := h.1; omega) (by have := h.2; omega)
  unfold showB
  split
  · omega
  · split
    · have := boolB_size (decide (v = 1)); omega
    · split
      · show 3 ≤ 22; decide
      · rw [size_app]; have : ByteArray.size (⟨#[35]⟩ : ByteArray) = 1 := rfl
        omega
theorem value_ok (s t : Str) (v : Int) (hv : smallV v) (hs : s.size ≤ 800000) : FnOK Tryz.prog 82 [.one (.ar 0), Sr t, I v] (bA 0 s) (.one (.ar 1)) (bA 1 (s ++ showB t v)) := by
  have hsl := bytesR_len s
  have h1 : ByteArray.size (⟨#[35]⟩ : ByteArray) = 1 := rfl
  have h3 : ByteArray.size (⟨#[110, 105, 108]⟩ : ByteArray) = 3 := rfl
  obtain ⟨v0, v1⟩ := hv
  have hI := appendInt_ok s v (by omega) (by omega) (by omega)
  have hI2 := appendInt_ok (s ++ (⟨#[35]⟩ : ByteArray)) v (by omega) (by omega) (by rw [size_app]; omega)
  have hB := appendBool_ok s (decide (v = 1)) (by omega)
  by_cases e1 : t = (⟨#[105, 110, 116]⟩ : ByteArray)
  · have e : showB t v = itoaB v := by simp only [showB, if_pos e1]
    rw [e]
    refine fn_ok T Tryz.func82 (by kernel_rfl) rfl rfl rfl rfl fun C hC => ?_
    repeat' first
      | refine g_go T hC true 400 rfl rfl ?_
      | refine g_cond rfl (fun h => ?_) (fun h => ?_)
      | refine g_end T hC (by kernel_rfl) ?_
      | refine g_splitD (fun h => ?_) (fun h => ?_)
      | refine g_splitG rfl rfl rfl (fun h => ?_) (fun h => ?_)
      | refine g_splitP rfl rfl (fun h => ?_) (fun h => ?_)
      | refine g_callR hC (hI) (nm [0, 102]) rfl rfl (LeSs.refl _) rfl rfl rfl rfl rfl rfl rfl rfl ?_
    all_goals first
      | exact g_fin ⟨.inl rfl, nm [0, 102], _, rfl, .refl _, ⟨rfl, trivial⟩, rfl, rfl⟩
      | (exfalso; clear hI hI2 hB; simp_all; done)
  · by_cases e2 : t = (⟨#[98, 111, 111, 108]⟩ : ByteArray)
    · have e : showB t v = boolB (decide (v = 1)) := by simp only [showB, if_neg e1, if_pos e2]
      rw [e]
      refine fn_ok T Tryz.func82 (by kernel_rfl) rfl rfl rfl rfl fun C hC => ?_
      repeat' first
        | refine g_go T hC true 400 rfl rfl ?_
        | refine g_cond rfl (fun h => ?_) (fun h => ?_)
        | refine g_end T hC (by kernel_rfl) ?_
        | refine g_splitD (fun h => ?_) (fun h => ?_)
        | refine g_splitG rfl rfl rfl (fun h => ?_) (fun h => ?_)
        | refine g_splitP rfl rfl (fun h => ?_) (fun h => ?_)
        | refine g_callR hC (hB) (nm [0, 102]) rfl rfl (LeSs.refl _) rfl rfl rfl rfl rfl rfl rfl rfl ?_
      all_goals first
        | exact g_fin ⟨.inl rfl, nm [0, 102], _, rfl, .refl _, ⟨rfl, trivial⟩, rfl, rfl⟩
        | (exfalso; clear hI hI2 hB; simp_all; done)
    · by_cases e3 : v = 0
      · have e : showB t v = (⟨#[110, 105, 108]⟩ : ByteArray) := by simp only [showB, if_neg e1, if_neg e2, if_pos e3]
        rw [e]
        refine fn_ok T Tryz.func82 (by kernel_rfl) rfl rfl rfl rfl fun C hC => ?_
        repeat' first
          | refine g_go T hC true 400 rfl rfl ?_
          | refine g_cond rfl (fun h => ?_) (fun h => ?_)
          | refine g_end T hC (by kernel_rfl) ?_
          | refine g_splitD (fun h => ?_) (fun h => ?_)
          | refine g_splitG rfl rfl rfl (fun h => ?_) (fun h => ?_)
          | refine g_splitP rfl rfl (fun h => ?_) (fun h => ?_)
          | (refine g_append T 101 hC (rows := bytesR s) (rows2 := bytesR (⟨#[110, 105, 108]⟩ : ByteArray)) (rows3 := bytesR (s ++ (⟨#[110, 105, 108]⟩ : ByteArray))) (bytes := 1) rfl rfl rfl rfl (SrcS.str (by kernel_rfl)) (bytesR_append _ _).symm rfl rfl rfl (by kernel_rfl) (by rw [hsl, bytesR_len]; omega) (by rw [hsl, bytesR_len]; omega) rfl rfl rfl ?_)
        all_goals first
          | exact g_fin ⟨.inl rfl, nm [0, 101], _, rfl, .refl _, ⟨rfl, trivial⟩, rfl, rfl⟩
          | (exfalso; clear hI hI2 hB; simp_all; done)
      · have e : s ++ showB t v = s ++ (⟨#[35]⟩ : ByteArray) ++ itoaB v := by simp only [showB, if_neg e1, if_neg e2, if_neg e3, ByteArray.append_assoc]
        rw [e]
        refine fn_ok T Tryz.func82 (by kernel_rfl) rfl rfl rfl rfl fun C hC => ?_
        repeat' first
          | refine g_go T hC true 400 rfl rfl ?_
          | refine g_cond rfl (fun h => ?_) (fun h => ?_)
          | refine g_end T hC (by kernel_rfl) ?_
          | refine g_splitD (fun h => ?_) (fun h => ?_)
          | refine g_splitG rfl rfl rfl (fun h => ?_) (fun h => ?_)
          | refine g_splitP rfl rfl (fun h => ?_) (fun h => ?_)
          | refine g_lit T hC rfl rfl rfl rfl rfl rfl rfl rfl rfl ?_
          | (refine g_append T 101 hC (rows := bytesR s) (rows2 := bytesR (⟨#[35]⟩ : ByteArray)) (rows3 := bytesR (s ++ (⟨#[35]⟩ : ByteArray))) (bytes := 1) rfl rfl rfl rfl (SrcS.sl (T.es_ok _ _ rfl)) (bytesR_append _ _).symm rfl rfl rfl (by kernel_rfl) (by rw [hsl, bytesR_len]; omega) (by rw [hsl, bytesR_len]; omega) rfl rfl rfl ?_)
          | refine g_callR hC (hI2) (nm [101, 102]) rfl rfl (LeSs.refl _) rfl rfl rfl rfl rfl rfl rfl rfl ?_
        all_goals first
          | exact g_fin ⟨.inl rfl, nm [0, 102], _, rfl, .refl _, ⟨rfl, trivial⟩, rfl, rfl⟩
          | (exfalso; clear hI hI2 hB; simp_all; done)
theorem show_ok (t : Str) (v : Int) (hv : smallV v) : FnOK Tryz.prog 84 [Sr t, I v] [] (Sr (showB t v)) [] := by
  obtain ⟨v0, v1⟩ := hv
  have hD := decimal_ok (v.natAbs + 1) v (by omega) (by omega) (by omega)
  have hsz := itoaB_size (n := v) (by omega) (by omega)
  have h1 : ByteArray.size (⟨#[35]⟩ : ByteArray) = 1 := rfl
  refine fn_ok T Tryz.func84 (by kernel_rfl) rfl rfl rfl rfl fun C hC => ?_
  repeat' first
    | refine g_go T hC true 400 rfl rfl ?_
    | refine g_cond rfl (fun h => ?_) (fun h => ?_)
    | refine g_end T hC (by kernel_rfl) ?_
    | refine g_splitD (fun h => ?_) (fun h => ?_)
    | refine g_splitG rfl rfl rfl (fun h => ?_) (fun h => ?_)
    | refine g_splitP rfl rfl (fun h => ?_) (fun h => ?_)
    | refine g_call hC (hD) rfl rfl (LeSs.refl _) rfl rfl rfl ?_
    | (refine g_cat hC rfl rfl (by rw [h1]; omega) rfl rfl ?_)
  all_goals
    refine g_fin ⟨.inl rfl, id, _, rfl, .of ?_, trivial, rfl, rfl⟩
    clear hD
    simp_all [showB, boolB, tupOf, S.ren, V.ren]
end Hw.Z
