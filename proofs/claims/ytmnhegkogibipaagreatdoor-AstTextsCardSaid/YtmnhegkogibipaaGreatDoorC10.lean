/- The engine and the contracts. -/
import Derived.Test.YtmnhegkogibipaaGreatDoorC9
set_option linter.unusedVariables false
set_option linter.unusedSimpArgs false
namespace Hw.Z
open Go Go.Proofs Go.Shelf Hw.M

theorem dec01_one {n : Int} (h0 : 0 ≤ n) (h1 : n < 10) : FnOK Tryz.prog 158 [I n] [] (Sr (itoaB n)) [] := by
  have w : IntKind.u8.wrap (IntKind.i64.wrap (48 + n)) = 48 + n := by
    rw [wrap64 (by omega)]
    simp [IntKind.wrap, IntKind.signed, IntKind.bits]; omega
  have hb : itoaB n = (⟨#[UInt8.ofNat (48 + n.toNat)]⟩ : Str) := by rw [itoaB_nonneg h0, decDigits_one' (by omega)]
  have hr : [[PV.k (Value.int IntKind.u8 (48 + n))]] = bytesR (itoaB n) := by
    rw [hb]
    have : (48 + n : Int) = ((UInt8.ofNat (48 + n.toNat)).toNat : Int) := by
      have : (UInt8.ofNat (48 + n.toNat)).toNat = 48 + n.toNat := by simp; omega
      rw [this]; omega
    rw [this]; rfl
  have hs : 0 < (itoaB n).size := by rw [hb]; exact Nat.one_pos
  refine fn_ok T Tryz.func158 (by kernel_rfl) rfl rfl rfl rfl fun C hC => ?_
  repeat' first
    | refine g_go T hC true 400 rfl rfl ?_
    | refine g_cond rfl (fun h => ?_) (fun h => ?_)
    | refine g_end T hC (by kernel_rfl) ?_
    | refine g_splitD (fun h => ?_) (fun h => ?_)
    | refine g_splitG rfl rfl rfl (fun h => ?_) (fun h => ?_)
    | refine g_splitP rfl rfl (fun h => ?_) (fun h => ?_)
    | (rw [w])
    | refine g_lit T hC rfl rfl rfl rfl rfl rfl rfl rfl rfl ?_
    | (rw [hr]; refine g_b2sP (s := itoaB n) (e := 5) hC hs rfl (by kernel_rfl) (by kernel_rfl) (by kernel_rfl) rfl rfl ?_)
  all_goals first
    | (exfalso; have := of_decide_eq_false h; omega)
    | exact g_fin ⟨.inl rfl, id, _, rfl, .refl _, trivial, rfl, rfl⟩
theorem dec01_ok : ∀ (k : Nat) (n : Int), n.natAbs < k → 0 ≤ n → n ≤ 4611686018427387904 → FnOK Tryz.prog 158 [I n] [] (Sr (itoaB n)) [] := by
  intro k
  induction k with
  | zero => intro n h; omega
  | succ k ih =>
  intro n hk h0 h1
  by_cases hbig : n < 10
  · exact dec01_one h0 hbig
  have hq : n.tdiv 10 = ((n.toNat / 10 : Nat) : Int) := by
    have e : n = ((n.toNat : Nat) : Int) := by omega
    exact congrArg (·.tdiv 10) e
  have hr : n.tmod 10 = ((n.toNat % 10 : Nat) : Int) := by
    have e : n = ((n.toNat : Nat) : Int) := by omega
    exact congrArg (·.tmod 10) e
  have hI := ih (n.tdiv 10) (by rw [hq]; omega) (by rw [hq]; omega) (by rw [hq]; omega)
  have hJ := dec01_one (n := n.tmod 10) (by rw [hr]; omega) (by rw [hr]; omega)
  have w1 : IntKind.i64.wrap (n.tdiv 10) = n.tdiv 10 := wrap64 (by rw [hq]; omega)
  have e1 : itoaB (n.tdiv 10) ++ itoaB (n.tmod 10) = itoaB n := by
    rw [itoaB_nonneg (n := n) (by omega), itoaB_nonneg (n := n.tdiv 10) (by rw [hq]; omega), itoaB_nonneg (n := n.tmod 10) (by rw [hr]; omega), decDigits_big (u := n.toNat) (by omega), hq, hr]
    congr 1
    rw [show ((n.toNat % 10 : Nat) : Int).toNat = n.toNat % 10 by omega, decDigits_one' (by omega)]
  have hsz := itoaB_size (n := n.tdiv 10) (by rw [hq]; omega) (by rw [hq]; omega)
  have hsz2 := itoaB_size (n := n.tmod 10) (by rw [hr]; omega) (by rw [hr]; omega)
  refine fn_ok T Tryz.func158 (by kernel_rfl) rfl rfl rfl rfl fun C hC => ?_
  repeat' first
    | refine g_go T hC true 400 rfl rfl ?_
    | refine g_cond rfl (fun h => ?_) (fun h => ?_)
    | refine g_end T hC (by kernel_rfl) ?_
    | refine g_splitD (fun h => ?_) (fun h => ?_)
    | refine g_splitG rfl rfl rfl (fun h => ?_) (fun h => ?_)
    | refine g_splitP rfl rfl (fun h => ?_) (fun h => ?_)
    | (refine g_quo hC rfl rfl (by decide) rfl rfl ?_; rw [w1])
    | refine g_call hC (hI) rfl rfl (LeSs.refl _) rfl rfl rfl ?_
    | refine g_rem hC rfl rfl (by decide) rfl rfl ?_
    | refine g_call hC (hJ) rfl rfl (LeSs.refl _) rfl rfl rfl ?_
    | (refine g_cat hC rfl rfl (by omega) rfl rfl ?_)
  all_goals first
    | (exfalso; have := of_decide_eq_true h; omega)
    | skip
  rw [e1]
  exact g_fin ⟨.inl rfl, id, _, rfl, .refl _, trivial, rfl, rfl⟩

def RW (e : Ex) : Prop := (wT e).size ≤ 8000000 → FnOK Tryz.prog 160 [aggS (exprC e)] [] (Sr (wT e)) []
def RA (e : Ex) : Prop := ∀ k : Int, (atT (txOf e) k).size ≤ 8000000 → FnOK Tryz.prog 99 [aggS (exprC e), I k] [] (Sr (atT (txOf e) k)) []
theorem at_ok {e : Ex} (hW : RW e) : RA e := by
  intro k hs
  have e1 : ByteArray.size lpS = 1 := rfl
  have e2 : ByteArray.size rpS = 1 := rfl
  have e1' : ByteArray.size (⟨#[40]⟩ : ByteArray) = 1 := rfl
  have e2' : ByteArray.size (⟨#[41]⟩ : ByteArray) = 1 := rfl
  have hL := rlevel_ok e.op
  by_cases hk : levS e.op < k
  · have hA : atT (txOf e) k = lpS ++ wT e ++ rpS := by unfold atT txOf; rw [if_pos hk]
    rw [hA] at hs ⊢
    simp only [size_app] at hs
    have h1 := hW (by omega)
    refine fn_ok T Tryz.func99 (by kernel_rfl) rfl rfl rfl rfl fun C hC => ?_
    repeat' first
      | refine g_go T hC true 400 rfl rfl ?_
      | refine g_cond rfl (fun h => ?_) (fun h => ?_)
      | refine g_end T hC (by kernel_rfl) ?_
      | refine g_splitD (fun h => ?_) (fun h => ?_)
      | refine g_splitG rfl rfl rfl (fun h => ?_) (fun h => ?_)
      | refine g_splitP rfl rfl (fun h => ?_) (fun h => ?_)
      | refine g_call hC (hL) rfl rfl (LeSs.refl _) rfl rfl rfl ?_
      | refine g_call hC (h1) rfl rfl (LeSs.refl _) rfl rfl rfl ?_
      | (refine g_cat hC rfl rfl (by (try simp only [size_app]); omega) rfl rfl ?_)
    all_goals first
      | (exfalso; have := of_decide_eq_false h; omega)
      | exact g_fin ⟨.inl rfl, id, _, rfl, .refl _, trivial, rfl, rfl⟩
  · have hA : atT (txOf e) k = wT e := by unfold atT txOf; rw [if_neg hk]
    rw [hA] at hs ⊢
    have h1 := hW hs
    refine fn_ok T Tryz.func99 (by kernel_rfl) rfl rfl rfl rfl fun C hC => ?_
    repeat' first
      | refine g_go T hC true 400 rfl rfl ?_
      | refine g_cond rfl (fun h => ?_) (fun h => ?_)
      | refine g_end T hC (by kernel_rfl) ?_
      | refine g_splitD (fun h => ?_) (fun h => ?_)
      | refine g_splitG rfl rfl rfl (fun h => ?_) (fun h => ?_)
      | refine g_splitP rfl rfl (fun h => ?_) (fun h => ?_)
      | refine g_call hC (hL) rfl rfl (LeSs.refl _) rfl rfl rfl ?_
      | refine g_call hC (h1) rfl rfl (LeSs.refl _) rfl rfl rfl ?_
    all_goals first
      | (exfalso; have := of_decide_eq_true h; omega)
      | exact g_fin ⟨.inl rfl, id, _, rfl, .refl _, trivial, rfl, rfl⟩
theorem rlist_ok {l : List Ex} (hP : ∀ x ∈ l, RA x) (hs : (listT (wLs l)).size ≤ 8000000) (hl : l.length ≤ 100000) :
    FnOK Tryz.prog 204 [pS (exprsP l)] [] (Sr (listT (wLs l))) [] := by
  have e1 : ByteArray.size lpS = 1 := rfl
  have e2 : ByteArray.size rpS = 1 := rfl
  have e1' : ByteArray.size (⟨#[40]⟩ : ByteArray) = 1 := rfl
  have e2' : ByteArray.size (⟨#[41]⟩ : ByteArray) = 1 := rfl
  have e3 : ByteArray.size (⟨#[44, 32]⟩ : ByteArray) = 2 := rfl
  have hsz : 2 + (catB (((wLs l).zipIdx).map cmF)).size ≤ 8000000 := by
    simp only [listT, size_app] at hs; omega
  refine fn_ok T Tryz.func204 (by kernel_rfl) rfl rfl rfl rfl fun C hC => ?_
  repeat' first
    | refine g_go T hC true 400 rfl rfl ?_
    | refine g_cond rfl (fun h => ?_) (fun h => ?_)
    | refine g_end T hC (by kernel_rfl) ?_
    | refine g_splitD (fun h => ?_) (fun h => ?_)
    | refine g_splitG rfl rfl rfl (fun h => ?_) (fun h => ?_)
    | refine g_splitP rfl rfl (fun h => ?_) (fun h => ?_)
  refine g_loop (fun i : Nat => i ≤ l.length) (fun i => ([(0, pS (exprsP l)), (3, Sr (catB ((((wLs l).zipIdx).map cmF).take i))), (4, I i)], [])) (fun i => l.length - i) hC
    0 (Nat.zero_le _) id ⟨rfl, ⟨rfl, rfl, rfl, trivial⟩, trivial, rfl, fun q hq => rfl⟩ ?_
  intro i hi
  refine g_run' T hC true 200 rfl ?_
  refine g_cond rfl (fun h => ?_) (fun h => ?_)
  · have hlt : i < l.length := by have := of_decide_eq_true h; rw [List.length_map] at this; omega
    clear h
    obtain ⟨x, hx⟩ := exists_at (l := l) (i := i) hlt
    have hstep := catB_take (cm_at hx)
    have hle := catB_take_le (((wLs l).zipIdx).map cmF) (i + 1)
    have hPx := hP x (List.mem_of_getElem? hx)
    generalize catB ((((wLs l).zipIdx).map cmF).take i) = f at hstep
    rw [hstep, size_app, cmF, size_app] at hle
    dsimp only at hle
    have h1 := hPx 1 (by omega)
    by_cases h0 : i = 0
    · have hfin : f ++ atT (txOf x) 1 = catB ((((wLs l).zipIdx).map cmF).take (i + 1)) := by
        rw [hstep, cmF, if_pos h0, nil_cat]
      repeat' first
        | refine g_go T hC true 400 rfl rfl ?_
        | refine g_cond rfl (fun h => ?_) (fun h => ?_)
        | refine g_end T hC (by kernel_rfl) ?_
        | refine g_splitD (fun h => ?_) (fun h => ?_)
        | refine g_splitG rfl rfl rfl (fun h => ?_) (fun h => ?_)
        | refine g_splitP rfl rfl (fun h => ?_) (fun h => ?_)
        | refine g_idx T hC rfl rfl rfl (Int.natCast_nonneg _) (map_atE (by assumption)) rfl rfl ?_
        | refine g_call hC (h1) rfl rfl (LeSs.refl _) rfl rfl rfl ?_
        | (refine g_cat hC rfl rfl (by (try simp only [size_app]); omega) rfl rfl ?_)
      all_goals first
        | (exfalso; have := of_decide_eq_true h; omega)
        | skip
      rw [wrap64 (by omega), hfin]
      exact g_round (i + 1) (by omega) id (by omega) ⟨rfl, ⟨rfl, rfl, rfl, trivial⟩, trivial, rfl, fun q hq => rfl⟩
    · have hfin : f ++ (⟨#[44, 32]⟩ : ByteArray) ++ atT (txOf x) 1 = catB ((((wLs l).zipIdx).map cmF).take (i + 1)) := by
        rw [hstep, cmF, if_neg h0]; simp only [ByteArray.append_assoc]
      rw [if_neg h0] at hle
      repeat' first
        | refine g_go T hC true 400 rfl rfl ?_
        | refine g_cond rfl (fun h => ?_) (fun h => ?_)
        | refine g_end T hC (by kernel_rfl) ?_
        | refine g_splitD (fun h => ?_) (fun h => ?_)
        | refine g_splitG rfl rfl rfl (fun h => ?_) (fun h => ?_)
        | refine g_splitP rfl rfl (fun h => ?_) (fun h => ?_)
        | refine g_idx T hC rfl rfl rfl (Int.natCast_nonneg _) (map_atE (by assumption)) rfl rfl ?_
        | refine g_call hC (h1) rfl rfl (LeSs.refl _) rfl rfl rfl ?_
        | (refine g_cat hC rfl rfl (by (try simp only [size_app]); omega) rfl rfl ?_)
      all_goals first
        | (exfalso; have := of_decide_eq_false h; omega)
        | skip
      rw [wrap64 (by omega), hfin]
      exact g_round (i + 1) (by omega) id (by omega) ⟨rfl, ⟨rfl, rfl, rfl, trivial⟩, trivial, rfl, fun q hq => rfl⟩
  · have hge : ¬ i < l.length := by have := of_decide_eq_false h; rw [List.length_map] at this; omega
    have hF : catB ((((wLs l).zipIdx).map cmF).take i) = catB (((wLs l).zipIdx).map cmF) := by
      rw [List.take_of_length_le (by rw [List.length_map, List.length_zipIdx, wLs_map, List.length_map]; omega)]
    rw [hF]
    rw [listT]
    generalize catB (((wLs l).zipIdx).map cmF) = f at hsz
    repeat' first
      | refine g_go T hC true 400 rfl rfl ?_
      | refine g_cond rfl (fun h => ?_) (fun h => ?_)
      | refine g_end T hC (by kernel_rfl) ?_
      | refine g_splitD (fun h => ?_) (fun h => ?_)
      | refine g_splitG rfl rfl rfl (fun h => ?_) (fun h => ?_)
      | refine g_splitP rfl rfl (fun h => ?_) (fun h => ?_)
      | refine g_outE ?_
      | (refine g_cat hC rfl rfl (by (try simp only [size_app]); omega) rfl rfl ?_)
    exact g_fin ⟨.inl rfl, id, _, rfl, .refl _, trivial, rfl, rfl⟩
theorem sg_ops {op : Int} {x : sgRow} (h : sgn op = some x) : op ≠ 1 ∧ op ≠ 2 ∧ op ≠ 3 ∧ op ≠ 4 ∧ op ≠ 5 ∧ op ≠ 6 ∧ op ≠ 7 ∧ op ≠ 8 ∧ op ≠ 18 ∧ op ≠ 21 ∧ op ≠ 22 ∧ op ≠ 23 ∧ op ≠ 24 := by
  have key : ∀ x ∈ signT, x.1 ≠ 1 ∧ x.1 ≠ 2 ∧ x.1 ≠ 3 ∧ x.1 ≠ 4 ∧ x.1 ≠ 5 ∧ x.1 ≠ 6 ∧ x.1 ≠ 7 ∧ x.1 ≠ 8 ∧ x.1 ≠ 18 ∧ x.1 ≠ 21 ∧ x.1 ≠ 22 ∧ x.1 ≠ 23 ∧ x.1 ≠ 24 := by decide
  have h1 := key x (List.mem_of_find?_eq_some h)
  have h2 := List.find?_some h
  simp only [decide_eq_true_eq] at h2
  rw [← h2]; exact h1
theorem node_few {e : Ex} (hn : nodeS e = true) : e.l.length ≤ 100000 := by
  have hn' := hn
  simp only [nodeS, Bool.and_eq_true, Bool.not_eq_true', Bool.and_eq_false_iff] at hn'
  obtain ⟨⟨⟨⟨_, h2⟩, h3⟩, _⟩, _⟩ := hn'
  rcases h2 with h2 | h2
  · rcases h3 with h3 | h3
    · have h2 := of_decide_eq_false h2
      have h3 := of_decide_eq_false h3
      have := partsS_ge e.op
      have h5 := hn
      simp only [nodeS, Bool.and_eq_true, Bool.not_eq_true', decide_eq_false_iff_not] at h5
      have := h5.1.1.1.1
      omega
    · have := of_decide_eq_false h3; omega
  · simp only [Bool.not_eq_false', decide_eq_true_eq] at h2
    have : partsS e.op ≤ 3 := by unfold partsS; repeat' split <;> omega
    omega
theorem plain_sign {e : Ex} {x : sgRow} (hn : nodeS e = true) (hP : ∀ y ∈ e.l, RA y) (hg : sgn e.op = some x) : RW e := by
  intro hs
  obtain ⟨a, b, hl⟩ := len2 (node_len (k := 2) hn (sgn_op hg))
  have hx0 : e.l[0]? = some a := by rw [hl]; rfl
  have hx1 : e.l[1]? = some b := by rw [hl]; rfl
  have hPa := hP a (List.mem_of_getElem? hx0)
  have hPb := hP b (List.mem_of_getElem? hx1)
  have hsz := sgn_size hg
  have e1 : ByteArray.size (⟨#[32]⟩ : ByteArray) = 1 := rfl
  have hS := rsign_ok e.op
  rw [show sgnS e.op = x.2.2 by unfold sgnS; rw [hg]] at hS
  have hL := rlevel_ok e.op
  rw [show levS e.op = x.2.1 by unfold levS; rw [hg]] at hL
  have hw : wT e = atT (txOf a) (if x.2.1 = 4 then 5 else x.2.1) ++ ((⟨#[32]⟩ : ByteArray) ++ x.2.2 ++ (⟨#[32]⟩ : ByteArray)) ++ atT (txOf b) (x.2.1 + 1) := by
    rw [wT_eq, nodeTx, hg]; simp only [pt_at hx0, pt_at hx1]
  have hk9 : atT (txOf b) (IntKind.i64.wrap (x.2.1 + 1)) = atT (txOf b) (x.2.1 + 1) := by rw [wrap64 (by omega)]
  rw [hw, size_app, size_app] at hs
  simp only [size_app] at hs
  have hops := sg_ops hg
  have h2 := hPb (IntKind.i64.wrap (x.2.1 + 1)) (by rw [hk9]; omega)
  rw [hk9] at h2
  by_cases h4 : x.2.1 = 4
  · rw [if_pos h4] at hs hw
    have h1 := hPa 5 (by omega)
    have hfin : atT (txOf a) 5 ++ (⟨#[32]⟩ : ByteArray) ++ x.2.2 ++ (⟨#[32]⟩ : ByteArray) ++ atT (txOf b) (x.2.1 + 1) = wT e := by
      rw [hw]; simp only [ByteArray.append_assoc]
    refine fn_ok T Tryz.func160 (by kernel_rfl) rfl rfl rfl rfl fun C hC => ?_
    repeat' first
      | refine g_go T hC true 400 rfl rfl ?_
      | refine g_cond rfl (fun h => ?_) (fun h => ?_)
      | refine g_end T hC (by kernel_rfl) ?_
      | refine g_splitD (fun h => ?_) (fun h => ?_)
      | refine g_splitG rfl rfl rfl (fun h => ?_) (fun h => ?_)
      | refine g_splitP rfl rfl (fun h => ?_) (fun h => ?_)
      | refine g_call hC (hL) rfl rfl (LeSs.refl _) rfl rfl rfl ?_
      | refine g_idx T hC rfl rfl rfl (Int.le_refl _) (map_atE0 hx0) rfl rfl ?_
      | refine g_call hC (h1) rfl rfl (LeSs.refl _) rfl rfl rfl ?_
      | (refine g_cat hC rfl rfl (by (try simp only [size_app]); omega) rfl rfl ?_)
      | refine g_call hC (hS) rfl rfl (LeSs.refl _) rfl rfl rfl ?_
      | refine g_idx T hC rfl rfl rfl (by decide) (map_atE1 hx1) rfl rfl ?_
      | refine g_call hC (h2) rfl rfl (LeSs.refl _) rfl rfl rfl ?_
    all_goals first
      | (exfalso; have := of_decide_eq_true h; omega)
      | (exfalso; simp only [decide_eq_true_eq, decide_eq_false_iff_not] at *; omega)
      | (rw [hfin]; exact g_fin ⟨.inl rfl, id, _, rfl, .refl _, trivial, rfl, rfl⟩)
  · rw [if_neg h4] at hs hw
    have h1 := hPa x.2.1 (by omega)
    have hfin : atT (txOf a) x.2.1 ++ (⟨#[32]⟩ : ByteArray) ++ x.2.2 ++ (⟨#[32]⟩ : ByteArray) ++ atT (txOf b) (x.2.1 + 1) = wT e := by
      rw [hw]; simp only [ByteArray.append_assoc]
    refine fn_ok T Tryz.func160 (by kernel_rfl) rfl rfl rfl rfl fun C hC => ?_
    repeat' first
      | refine g_go T hC true 400 rfl rfl ?_
      | refine g_cond rfl (fun h => ?_) (fun h => ?_)
      | refine g_end T hC (by kernel_rfl) ?_
      | refine g_splitD (fun h => ?_) (fun h => ?_)
      | refine g_splitG rfl rfl rfl (fun h => ?_) (fun h => ?_)
      | refine g_splitP rfl rfl (fun h => ?_) (fun h => ?_)
      | refine g_call hC (hL) rfl rfl (LeSs.refl _) rfl rfl rfl ?_
      | refine g_idx T hC rfl rfl rfl (Int.le_refl _) (map_atE0 hx0) rfl rfl ?_
      | refine g_call hC (h1) rfl rfl (LeSs.refl _) rfl rfl rfl ?_
      | (refine g_cat hC rfl rfl (by (try simp only [size_app]); omega) rfl rfl ?_)
      | refine g_call hC (hS) rfl rfl (LeSs.refl _) rfl rfl rfl ?_
      | refine g_idx T hC rfl rfl rfl (by decide) (map_atE1 hx1) rfl rfl ?_
      | refine g_call hC (h2) rfl rfl (LeSs.refl _) rfl rfl rfl ?_
    all_goals first
      | (exfalso; have := of_decide_eq_true h; omega)
      | (exfalso; simp only [decide_eq_true_eq, decide_eq_false_iff_not] at *; omega)
      | (rw [hfin]; exact g_fin ⟨.inl rfl, id, _, rfl, .refl _, trivial, rfl, rfl⟩)
theorem plain_int {e : Ex} (hn : nodeS e = true) (hP : ∀ y ∈ e.l, RA y) (hg : sgn e.op = none) (ho : e.op = 1) : RW e := by
  intro hs
  have hf := node_facts hn
  have e1 : ByteArray.size (⟨#[110, 101, 119, 32]⟩ : ByteArray) = 4 := rfl
  have e2 : ByteArray.size (⟨#[110, 111, 116, 32]⟩ : ByteArray) = 4 := rfl
  have e3 : ByteArray.size (⟨#[45]⟩ : ByteArray) = 1 := rfl
  have e4 : ByteArray.size (⟨#[46]⟩ : ByteArray) = 1 := rfl
  have e5 : ByteArray.size (⟨#[110, 105, 108]⟩ : ByteArray) = 3 := rfl
  have e6 : ByteArray.size (⟨#[105, 102]⟩ : ByteArray) = 2 := rfl
  have e7 : ByteArray.size (⟨#[109, 97, 120]⟩ : ByteArray) = 3 := rfl
  have e8 : ByteArray.size (⟨#[109, 105, 110]⟩ : ByteArray) = 3 := rfl
  have e9 : ByteArray.size (⟨#[108, 111, 103]⟩ : ByteArray) = 3 := rfl
  have hL := rlevel_ok e.op
  have hw : wT e = itoaB e.n := by
    rw [wT_eq, nodeTx, hg, ho]
    rfl
  rw [hw] at hs ⊢
  have hn0 : 0 ≤ e.n := by
    have hn' := hn
    simp only [nodeS, ho, if_true, Bool.and_eq_true, decide_eq_true_eq] at hn'
    exact hn'.2.1
  have hI := dec01_ok (e.n.natAbs + 1) e.n (by omega) hn0 (by omega)
  refine fn_ok T Tryz.func160 (by kernel_rfl) rfl rfl rfl rfl fun C hC => ?_
  repeat' first
    | refine g_go T hC true 400 rfl rfl ?_
    | refine g_cond rfl (fun h => ?_) (fun h => ?_)
    | refine g_end T hC (by kernel_rfl) ?_
    | refine g_splitD (fun h => ?_) (fun h => ?_)
    | refine g_splitG rfl rfl rfl (fun h => ?_) (fun h => ?_)
    | refine g_splitP rfl rfl (fun h => ?_) (fun h => ?_)
    | refine g_call hC (hL) rfl rfl (LeSs.refl _) rfl rfl rfl ?_
    | refine g_call hC (hI) rfl rfl (LeSs.refl _) rfl rfl rfl ?_
  all_goals first
    | (exfalso; have := of_decide_eq_true h; omega)
    | (exfalso; simp only [decide_eq_true_eq, decide_eq_false_iff_not] at *; omega)
    | exact g_fin ⟨.inl rfl, id, _, rfl, .refl _, trivial, rfl, rfl⟩
theorem plain_bool {e : Ex} (hn : nodeS e = true) (hP : ∀ y ∈ e.l, RA y) (hg : sgn e.op = none) (ho : e.op = 2) : RW e := by
  intro hs
  have hf := node_facts hn
  have e1 : ByteArray.size (⟨#[110, 101, 119, 32]⟩ : ByteArray) = 4 := rfl
  have e2 : ByteArray.size (⟨#[110, 111, 116, 32]⟩ : ByteArray) = 4 := rfl
  have e3 : ByteArray.size (⟨#[45]⟩ : ByteArray) = 1 := rfl
  have e4 : ByteArray.size (⟨#[46]⟩ : ByteArray) = 1 := rfl
  have e5 : ByteArray.size (⟨#[110, 105, 108]⟩ : ByteArray) = 3 := rfl
  have e6 : ByteArray.size (⟨#[105, 102]⟩ : ByteArray) = 2 := rfl
  have e7 : ByteArray.size (⟨#[109, 97, 120]⟩ : ByteArray) = 3 := rfl
  have e8 : ByteArray.size (⟨#[109, 105, 110]⟩ : ByteArray) = 3 := rfl
  have e9 : ByteArray.size (⟨#[108, 111, 103]⟩ : ByteArray) = 3 := rfl
  have hL := rlevel_ok e.op
  have hw : wT e = boolB (decide (e.n = 1)) := by
    rw [wT_eq, nodeTx, hg, ho]
    rfl
  rw [hw] at hs ⊢
  by_cases h1 : e.n = 1
  · rw [show boolB (decide (e.n = 1)) = (⟨#[116, 114, 117, 101]⟩ : ByteArray) by rw [decide_eq_true h1]; rfl]
    refine fn_ok T Tryz.func160 (by kernel_rfl) rfl rfl rfl rfl fun C hC => ?_
    repeat' first
      | refine g_go T hC true 400 rfl rfl ?_
      | refine g_cond rfl (fun h => ?_) (fun h => ?_)
      | refine g_end T hC (by kernel_rfl) ?_
      | refine g_splitD (fun h => ?_) (fun h => ?_)
      | refine g_splitG rfl rfl rfl (fun h => ?_) (fun h => ?_)
      | refine g_splitP rfl rfl (fun h => ?_) (fun h => ?_)
      | refine g_call hC (hL) rfl rfl (LeSs.refl _) rfl rfl rfl ?_
    all_goals first
      | (exfalso; have := of_decide_eq_true h; omega)
      | (exfalso; simp only [decide_eq_true_eq, decide_eq_false_iff_not] at *; omega)
      | exact g_fin ⟨.inl rfl, id, _, rfl, .refl _, trivial, rfl, rfl⟩
  · rw [show boolB (decide (e.n = 1)) = (⟨#[102, 97, 108, 115, 101]⟩ : ByteArray) by rw [decide_eq_false h1]; rfl]
    refine fn_ok T Tryz.func160 (by kernel_rfl) rfl rfl rfl rfl fun C hC => ?_
    repeat' first
      | refine g_go T hC true 400 rfl rfl ?_
      | refine g_cond rfl (fun h => ?_) (fun h => ?_)
      | refine g_end T hC (by kernel_rfl) ?_
      | refine g_splitD (fun h => ?_) (fun h => ?_)
      | refine g_splitG rfl rfl rfl (fun h => ?_) (fun h => ?_)
      | refine g_splitP rfl rfl (fun h => ?_) (fun h => ?_)
      | refine g_call hC (hL) rfl rfl (LeSs.refl _) rfl rfl rfl ?_
    all_goals first
      | (exfalso; have := of_decide_eq_true h; omega)
      | exact g_fin ⟨.inl rfl, id, _, rfl, .refl _, trivial, rfl, rfl⟩
      | (exfalso; simp only [decide_eq_true_eq, decide_eq_false_iff_not] at *; omega)
theorem plain_nil {e : Ex} (hn : nodeS e = true) (hP : ∀ y ∈ e.l, RA y) (hg : sgn e.op = none) (ho : e.op = 3) : RW e := by
  intro hs
  have hf := node_facts hn
  have e1 : ByteArray.size (⟨#[110, 101, 119, 32]⟩ : ByteArray) = 4 := rfl
  have e2 : ByteArray.size (⟨#[110, 111, 116, 32]⟩ : ByteArray) = 4 := rfl
  have e3 : ByteArray.size (⟨#[45]⟩ : ByteArray) = 1 := rfl
  have e4 : ByteArray.size (⟨#[46]⟩ : ByteArray) = 1 := rfl
  have e5 : ByteArray.size (⟨#[110, 105, 108]⟩ : ByteArray) = 3 := rfl
  have e6 : ByteArray.size (⟨#[105, 102]⟩ : ByteArray) = 2 := rfl
  have e7 : ByteArray.size (⟨#[109, 97, 120]⟩ : ByteArray) = 3 := rfl
  have e8 : ByteArray.size (⟨#[109, 105, 110]⟩ : ByteArray) = 3 := rfl
  have e9 : ByteArray.size (⟨#[108, 111, 103]⟩ : ByteArray) = 3 := rfl
  have hL := rlevel_ok e.op
  have hw : wT e = (⟨#[110, 105, 108]⟩ : ByteArray) := by
    rw [wT_eq, nodeTx, hg, ho]
    rfl
  rw [hw] at hs ⊢
  refine fn_ok T Tryz.func160 (by kernel_rfl) rfl rfl rfl rfl fun C hC => ?_
  repeat' first
    | refine g_go T hC true 400 rfl rfl ?_
    | refine g_cond rfl (fun h => ?_) (fun h => ?_)
    | refine g_end T hC (by kernel_rfl) ?_
    | refine g_splitD (fun h => ?_) (fun h => ?_)
    | refine g_splitG rfl rfl rfl (fun h => ?_) (fun h => ?_)
    | refine g_splitP rfl rfl (fun h => ?_) (fun h => ?_)
    | refine g_call hC (hL) rfl rfl (LeSs.refl _) rfl rfl rfl ?_
  all_goals first
    | (exfalso; have := of_decide_eq_true h; omega)
    | (exfalso; simp only [decide_eq_true_eq, decide_eq_false_iff_not] at *; omega)
    | exact g_fin ⟨.inl rfl, id, _, rfl, .refl _, trivial, rfl, rfl⟩
theorem plain_name {e : Ex} (hn : nodeS e = true) (hP : ∀ y ∈ e.l, RA y) (hg : sgn e.op = none) (ho : e.op = 4) : RW e := by
  intro hs
  have hf := node_facts hn
  have e1 : ByteArray.size (⟨#[110, 101, 119, 32]⟩ : ByteArray) = 4 := rfl
  have e2 : ByteArray.size (⟨#[110, 111, 116, 32]⟩ : ByteArray) = 4 := rfl
  have e3 : ByteArray.size (⟨#[45]⟩ : ByteArray) = 1 := rfl
  have e4 : ByteArray.size (⟨#[46]⟩ : ByteArray) = 1 := rfl
  have e5 : ByteArray.size (⟨#[110, 105, 108]⟩ : ByteArray) = 3 := rfl
  have e6 : ByteArray.size (⟨#[105, 102]⟩ : ByteArray) = 2 := rfl
  have e7 : ByteArray.size (⟨#[109, 97, 120]⟩ : ByteArray) = 3 := rfl
  have e8 : ByteArray.size (⟨#[109, 105, 110]⟩ : ByteArray) = 3 := rfl
  have e9 : ByteArray.size (⟨#[108, 111, 103]⟩ : ByteArray) = 3 := rfl
  have hL := rlevel_ok e.op
  have hw : wT e = e.s := by
    rw [wT_eq, nodeTx, hg, ho]
    rfl
  rw [hw] at hs ⊢
  refine fn_ok T Tryz.func160 (by kernel_rfl) rfl rfl rfl rfl fun C hC => ?_
  repeat' first
    | refine g_go T hC true 400 rfl rfl ?_
    | refine g_cond rfl (fun h => ?_) (fun h => ?_)
    | refine g_end T hC (by kernel_rfl) ?_
    | refine g_splitD (fun h => ?_) (fun h => ?_)
    | refine g_splitG rfl rfl rfl (fun h => ?_) (fun h => ?_)
    | refine g_splitP rfl rfl (fun h => ?_) (fun h => ?_)
    | refine g_call hC (hL) rfl rfl (LeSs.refl _) rfl rfl rfl ?_
  all_goals first
    | (exfalso; have := of_decide_eq_true h; omega)
    | (exfalso; simp only [decide_eq_true_eq, decide_eq_false_iff_not] at *; omega)
    | exact g_fin ⟨.inl rfl, id, _, rfl, .refl _, trivial, rfl, rfl⟩
theorem plain_field {e : Ex} (hn : nodeS e = true) (hP : ∀ y ∈ e.l, RA y) (hg : sgn e.op = none) (ho : e.op = 5) : RW e := by
  intro hs
  have hf := node_facts hn
  have e1 : ByteArray.size (⟨#[110, 101, 119, 32]⟩ : ByteArray) = 4 := rfl
  have e2 : ByteArray.size (⟨#[110, 111, 116, 32]⟩ : ByteArray) = 4 := rfl
  have e3 : ByteArray.size (⟨#[45]⟩ : ByteArray) = 1 := rfl
  have e4 : ByteArray.size (⟨#[46]⟩ : ByteArray) = 1 := rfl
  have e5 : ByteArray.size (⟨#[110, 105, 108]⟩ : ByteArray) = 3 := rfl
  have e6 : ByteArray.size (⟨#[105, 102]⟩ : ByteArray) = 2 := rfl
  have e7 : ByteArray.size (⟨#[109, 97, 120]⟩ : ByteArray) = 3 := rfl
  have e8 : ByteArray.size (⟨#[109, 105, 110]⟩ : ByteArray) = 3 := rfl
  have e9 : ByteArray.size (⟨#[108, 111, 103]⟩ : ByteArray) = 3 := rfl
  have hL := rlevel_ok e.op
  obtain ⟨a, hl⟩ := List.length_eq_one_iff.1 (node_len (k := 1) hn (by rw [ho]; rfl))
  have hx0 : e.l[0]? = some a := by rw [hl]; rfl
  have hPa := hP a (List.mem_of_getElem? hx0)
  have hw : wT e = atT (txOf a) 8 ++ (⟨#[46]⟩ : ByteArray) ++ e.s := by
    rw [wT_eq, nodeTx, hg, ho]
    simp only [pt_at hx0, Int.reduceEq, if_true, if_false]
  rw [hw] at hs ⊢
  simp only [size_app] at hs
  have h1 := hPa 8 (by omega)
  refine fn_ok T Tryz.func160 (by kernel_rfl) rfl rfl rfl rfl fun C hC => ?_
  repeat' first
    | refine g_go T hC true 400 rfl rfl ?_
    | refine g_cond rfl (fun h => ?_) (fun h => ?_)
    | refine g_end T hC (by kernel_rfl) ?_
    | refine g_splitD (fun h => ?_) (fun h => ?_)
    | refine g_splitG rfl rfl rfl (fun h => ?_) (fun h => ?_)
    | refine g_splitP rfl rfl (fun h => ?_) (fun h => ?_)
    | refine g_call hC (hL) rfl rfl (LeSs.refl _) rfl rfl rfl ?_
    | refine g_idx T hC rfl rfl rfl (Int.le_refl _) (map_atE0 hx0) rfl rfl ?_
    | refine g_call hC (h1) rfl rfl (LeSs.refl _) rfl rfl rfl ?_
    | (refine g_cat hC rfl rfl (by (try simp only [size_app]); omega) rfl rfl ?_)
  all_goals first
    | (exfalso; have := of_decide_eq_true h; omega)
    | (exfalso; simp only [decide_eq_true_eq, decide_eq_false_iff_not] at *; omega)
    | exact g_fin ⟨.inl rfl, id, _, rfl, .refl _, trivial, rfl, rfl⟩
theorem plain_new {e : Ex} (hn : nodeS e = true) (hP : ∀ y ∈ e.l, RA y) (hg : sgn e.op = none) (ho : e.op = 6) : RW e := by
  intro hs
  have hf := node_facts hn
  have e1 : ByteArray.size (⟨#[110, 101, 119, 32]⟩ : ByteArray) = 4 := rfl
  have e2 : ByteArray.size (⟨#[110, 111, 116, 32]⟩ : ByteArray) = 4 := rfl
  have e3 : ByteArray.size (⟨#[45]⟩ : ByteArray) = 1 := rfl
  have e4 : ByteArray.size (⟨#[46]⟩ : ByteArray) = 1 := rfl
  have e5 : ByteArray.size (⟨#[110, 105, 108]⟩ : ByteArray) = 3 := rfl
  have e6 : ByteArray.size (⟨#[105, 102]⟩ : ByteArray) = 2 := rfl
  have e7 : ByteArray.size (⟨#[109, 97, 120]⟩ : ByteArray) = 3 := rfl
  have e8 : ByteArray.size (⟨#[109, 105, 110]⟩ : ByteArray) = 3 := rfl
  have e9 : ByteArray.size (⟨#[108, 111, 103]⟩ : ByteArray) = 3 := rfl
  have hL := rlevel_ok e.op
  have hw : wT e = (⟨#[110, 101, 119, 32]⟩ : ByteArray) ++ e.s := by
    rw [wT_eq, nodeTx, hg, ho]
    rfl
  rw [hw] at hs ⊢
  simp only [size_app] at hs
  refine fn_ok T Tryz.func160 (by kernel_rfl) rfl rfl rfl rfl fun C hC => ?_
  repeat' first
    | refine g_go T hC true 400 rfl rfl ?_
    | refine g_cond rfl (fun h => ?_) (fun h => ?_)
    | refine g_end T hC (by kernel_rfl) ?_
    | refine g_splitD (fun h => ?_) (fun h => ?_)
    | refine g_splitG rfl rfl rfl (fun h => ?_) (fun h => ?_)
    | refine g_splitP rfl rfl (fun h => ?_) (fun h => ?_)
    | refine g_call hC (hL) rfl rfl (LeSs.refl _) rfl rfl rfl ?_
    | (refine g_cat hC rfl rfl (by (try simp only [size_app]); omega) rfl rfl ?_)
  all_goals first
    | (exfalso; have := of_decide_eq_true h; omega)
    | (exfalso; simp only [decide_eq_true_eq, decide_eq_false_iff_not] at *; omega)
    | exact g_fin ⟨.inl rfl, id, _, rfl, .refl _, trivial, rfl, rfl⟩
theorem plain_not {e : Ex} (hn : nodeS e = true) (hP : ∀ y ∈ e.l, RA y) (hg : sgn e.op = none) (ho : e.op = 18) : RW e := by
  intro hs
  have hf := node_facts hn
  have e1 : ByteArray.size (⟨#[110, 101, 119, 32]⟩ : ByteArray) = 4 := rfl
  have e2 : ByteArray.size (⟨#[110, 111, 116, 32]⟩ : ByteArray) = 4 := rfl
  have e3 : ByteArray.size (⟨#[45]⟩ : ByteArray) = 1 := rfl
  have e4 : ByteArray.size (⟨#[46]⟩ : ByteArray) = 1 := rfl
  have e5 : ByteArray.size (⟨#[110, 105, 108]⟩ : ByteArray) = 3 := rfl
  have e6 : ByteArray.size (⟨#[105, 102]⟩ : ByteArray) = 2 := rfl
  have e7 : ByteArray.size (⟨#[109, 97, 120]⟩ : ByteArray) = 3 := rfl
  have e8 : ByteArray.size (⟨#[109, 105, 110]⟩ : ByteArray) = 3 := rfl
  have e9 : ByteArray.size (⟨#[108, 111, 103]⟩ : ByteArray) = 3 := rfl
  have hL := rlevel_ok e.op
  obtain ⟨a, hl⟩ := List.length_eq_one_iff.1 (node_len (k := 1) hn (by rw [ho]; rfl))
  have hx0 : e.l[0]? = some a := by rw [hl]; rfl
  have hPa := hP a (List.mem_of_getElem? hx0)
  have hw : wT e = (⟨#[110, 111, 116, 32]⟩ : ByteArray) ++ atT (txOf a) 3 := by
    rw [wT_eq, nodeTx, hg, ho]
    simp only [pt_at hx0, Int.reduceEq, if_true, if_false]
  rw [hw] at hs ⊢
  simp only [size_app] at hs
  have h1 := hPa 3 (by omega)
  refine fn_ok T Tryz.func160 (by kernel_rfl) rfl rfl rfl rfl fun C hC => ?_
  repeat' first
    | refine g_go T hC true 400 rfl rfl ?_
    | refine g_cond rfl (fun h => ?_) (fun h => ?_)
    | refine g_end T hC (by kernel_rfl) ?_
    | refine g_splitD (fun h => ?_) (fun h => ?_)
    | refine g_splitG rfl rfl rfl (fun h => ?_) (fun h => ?_)
    | refine g_splitP rfl rfl (fun h => ?_) (fun h => ?_)
    | refine g_call hC (hL) rfl rfl (LeSs.refl _) rfl rfl rfl ?_
    | refine g_idx T hC rfl rfl rfl (Int.le_refl _) (map_atE0 hx0) rfl rfl ?_
    | refine g_call hC (h1) rfl rfl (LeSs.refl _) rfl rfl rfl ?_
    | (refine g_cat hC rfl rfl (by (try simp only [size_app]); omega) rfl rfl ?_)
  all_goals first
    | (exfalso; have := of_decide_eq_true h; omega)
    | (exfalso; simp only [decide_eq_true_eq, decide_eq_false_iff_not] at *; omega)
    | exact g_fin ⟨.inl rfl, id, _, rfl, .refl _, trivial, rfl, rfl⟩
theorem plain_neg {e : Ex} (hn : nodeS e = true) (hP : ∀ y ∈ e.l, RA y) (hg : sgn e.op = none) (ho : e.op = 8) : RW e := by
  intro hs
  have hf := node_facts hn
  have e1 : ByteArray.size (⟨#[110, 101, 119, 32]⟩ : ByteArray) = 4 := rfl
  have e2 : ByteArray.size (⟨#[110, 111, 116, 32]⟩ : ByteArray) = 4 := rfl
  have e3 : ByteArray.size (⟨#[45]⟩ : ByteArray) = 1 := rfl
  have e4 : ByteArray.size (⟨#[46]⟩ : ByteArray) = 1 := rfl
  have e5 : ByteArray.size (⟨#[110, 105, 108]⟩ : ByteArray) = 3 := rfl
  have e6 : ByteArray.size (⟨#[105, 102]⟩ : ByteArray) = 2 := rfl
  have e7 : ByteArray.size (⟨#[109, 97, 120]⟩ : ByteArray) = 3 := rfl
  have e8 : ByteArray.size (⟨#[109, 105, 110]⟩ : ByteArray) = 3 := rfl
  have e9 : ByteArray.size (⟨#[108, 111, 103]⟩ : ByteArray) = 3 := rfl
  have hL := rlevel_ok e.op
  obtain ⟨a, hl⟩ := List.length_eq_one_iff.1 (node_len (k := 1) hn (by rw [ho]; rfl))
  have hx0 : e.l[0]? = some a := by rw [hl]; rfl
  have hPa := hP a (List.mem_of_getElem? hx0)
  have hw : wT e = (⟨#[45]⟩ : ByteArray) ++ atT (txOf a) 7 := by
    rw [wT_eq, nodeTx, hg, ho]
    simp only [pt_at hx0, Int.reduceEq, if_true, if_false]
  rw [hw] at hs ⊢
  simp only [size_app] at hs
  have h1 := hPa 7 (by omega)
  refine fn_ok T Tryz.func160 (by kernel_rfl) rfl rfl rfl rfl fun C hC => ?_
  repeat' first
    | refine g_go T hC true 400 rfl rfl ?_
    | refine g_cond rfl (fun h => ?_) (fun h => ?_)
    | refine g_end T hC (by kernel_rfl) ?_
    | refine g_splitD (fun h => ?_) (fun h => ?_)
    | refine g_splitG rfl rfl rfl (fun h => ?_) (fun h => ?_)
    | refine g_splitP rfl rfl (fun h => ?_) (fun h => ?_)
    | refine g_call hC (hL) rfl rfl (LeSs.refl _) rfl rfl rfl ?_
    | refine g_idx T hC rfl rfl rfl (Int.le_refl _) (map_atE0 hx0) rfl rfl ?_
    | refine g_call hC (h1) rfl rfl (LeSs.refl _) rfl rfl rfl ?_
    | (refine g_cat hC rfl rfl (by (try simp only [size_app]); omega) rfl rfl ?_)
  all_goals first
    | (exfalso; have := of_decide_eq_true h; omega)
    | (exfalso; simp only [decide_eq_true_eq, decide_eq_false_iff_not] at *; omega)
    | exact g_fin ⟨.inl rfl, id, _, rfl, .refl _, trivial, rfl, rfl⟩
theorem plain_call {e : Ex} (hn : nodeS e = true) (hP : ∀ y ∈ e.l, RA y) (hg : sgn e.op = none) (ho : e.op = 7) : RW e := by
  intro hs
  have hf := node_facts hn
  have e1 : ByteArray.size (⟨#[110, 101, 119, 32]⟩ : ByteArray) = 4 := rfl
  have e2 : ByteArray.size (⟨#[110, 111, 116, 32]⟩ : ByteArray) = 4 := rfl
  have e3 : ByteArray.size (⟨#[45]⟩ : ByteArray) = 1 := rfl
  have e4 : ByteArray.size (⟨#[46]⟩ : ByteArray) = 1 := rfl
  have e5 : ByteArray.size (⟨#[110, 105, 108]⟩ : ByteArray) = 3 := rfl
  have e6 : ByteArray.size (⟨#[105, 102]⟩ : ByteArray) = 2 := rfl
  have e7 : ByteArray.size (⟨#[109, 97, 120]⟩ : ByteArray) = 3 := rfl
  have e8 : ByteArray.size (⟨#[109, 105, 110]⟩ : ByteArray) = 3 := rfl
  have e9 : ByteArray.size (⟨#[108, 111, 103]⟩ : ByteArray) = 3 := rfl
  have hL := rlevel_ok e.op
  have hw : wT e = e.s ++ listT (wLs e.l) := by
    rw [wT_eq, nodeTx, hg, ho]
    rfl
  rw [hw] at hs ⊢
  simp only [size_app] at hs
  have h1 := rlist_ok hP (by omega) (node_few hn)
  refine fn_ok T Tryz.func160 (by kernel_rfl) rfl rfl rfl rfl fun C hC => ?_
  repeat' first
    | refine g_go T hC true 400 rfl rfl ?_
    | refine g_cond rfl (fun h => ?_) (fun h => ?_)
    | refine g_end T hC (by kernel_rfl) ?_
    | refine g_splitD (fun h => ?_) (fun h => ?_)
    | refine g_splitG rfl rfl rfl (fun h => ?_) (fun h => ?_)
    | refine g_splitP rfl rfl (fun h => ?_) (fun h => ?_)
    | refine g_call hC (hL) rfl rfl (LeSs.refl _) rfl rfl rfl ?_
    | refine g_call hC (h1) rfl rfl (LeSs.refl _) rfl rfl rfl ?_
    | (refine g_cat hC rfl rfl (by (try simp only [size_app]); omega) rfl rfl ?_)
  all_goals first
    | (exfalso; have := of_decide_eq_true h; omega)
    | (exfalso; simp only [decide_eq_true_eq, decide_eq_false_iff_not] at *; omega)
    | exact g_fin ⟨.inl rfl, id, _, rfl, .refl _, trivial, rfl, rfl⟩
theorem plain_if {e : Ex} (hn : nodeS e = true) (hP : ∀ y ∈ e.l, RA y) (hg : sgn e.op = none) (ho : e.op = 21) : RW e := by
  intro hs
  have hf := node_facts hn
  have e1 : ByteArray.size (⟨#[110, 101, 119, 32]⟩ : ByteArray) = 4 := rfl
  have e2 : ByteArray.size (⟨#[110, 111, 116, 32]⟩ : ByteArray) = 4 := rfl
  have e3 : ByteArray.size (⟨#[45]⟩ : ByteArray) = 1 := rfl
  have e4 : ByteArray.size (⟨#[46]⟩ : ByteArray) = 1 := rfl
  have e5 : ByteArray.size (⟨#[110, 105, 108]⟩ : ByteArray) = 3 := rfl
  have e6 : ByteArray.size (⟨#[105, 102]⟩ : ByteArray) = 2 := rfl
  have e7 : ByteArray.size (⟨#[109, 97, 120]⟩ : ByteArray) = 3 := rfl
  have e8 : ByteArray.size (⟨#[109, 105, 110]⟩ : ByteArray) = 3 := rfl
  have e9 : ByteArray.size (⟨#[108, 111, 103]⟩ : ByteArray) = 3 := rfl
  have hL := rlevel_ok e.op
  have hw : wT e = (⟨#[105, 102]⟩ : ByteArray) ++ listT (wLs e.l) := by
    rw [wT_eq, nodeTx, hg, ho]
    rfl
  rw [hw] at hs ⊢
  simp only [size_app] at hs
  have h1 := rlist_ok hP (by omega) (node_few hn)
  refine fn_ok T Tryz.func160 (by kernel_rfl) rfl rfl rfl rfl fun C hC => ?_
  repeat' first
    | refine g_go T hC true 400 rfl rfl ?_
    | refine g_cond rfl (fun h => ?_) (fun h => ?_)
    | refine g_end T hC (by kernel_rfl) ?_
    | refine g_splitD (fun h => ?_) (fun h => ?_)
    | refine g_splitG rfl rfl rfl (fun h => ?_) (fun h => ?_)
    | refine g_splitP rfl rfl (fun h => ?_) (fun h => ?_)
    | refine g_call hC (hL) rfl rfl (LeSs.refl _) rfl rfl rfl ?_
    | refine g_call hC (h1) rfl rfl (LeSs.refl _) rfl rfl rfl ?_
    | (refine g_cat hC rfl rfl (by (try simp only [size_app]); omega) rfl rfl ?_)
  all_goals first
    | (exfalso; have := of_decide_eq_true h; omega)
    | (exfalso; simp only [decide_eq_true_eq, decide_eq_false_iff_not] at *; omega)
    | exact g_fin ⟨.inl rfl, id, _, rfl, .refl _, trivial, rfl, rfl⟩
theorem plain_max {e : Ex} (hn : nodeS e = true) (hP : ∀ y ∈ e.l, RA y) (hg : sgn e.op = none) (ho : e.op = 22) : RW e := by
  intro hs
  have hf := node_facts hn
  have e1 : ByteArray.size (⟨#[110, 101, 119, 32]⟩ : ByteArray) = 4 := rfl
  have e2 : ByteArray.size (⟨#[110, 111, 116, 32]⟩ : ByteArray) = 4 := rfl
  have e3 : ByteArray.size (⟨#[45]⟩ : ByteArray) = 1 := rfl
  have e4 : ByteArray.size (⟨#[46]⟩ : ByteArray) = 1 := rfl
  have e5 : ByteArray.size (⟨#[110, 105, 108]⟩ : ByteArray) = 3 := rfl
  have e6 : ByteArray.size (⟨#[105, 102]⟩ : ByteArray) = 2 := rfl
  have e7 : ByteArray.size (⟨#[109, 97, 120]⟩ : ByteArray) = 3 := rfl
  have e8 : ByteArray.size (⟨#[109, 105, 110]⟩ : ByteArray) = 3 := rfl
  have e9 : ByteArray.size (⟨#[108, 111, 103]⟩ : ByteArray) = 3 := rfl
  have hL := rlevel_ok e.op
  have hw : wT e = (⟨#[109, 97, 120]⟩ : ByteArray) ++ listT (wLs e.l) := by
    rw [wT_eq, nodeTx, hg, ho]
    rfl
  rw [hw] at hs ⊢
  simp only [size_app] at hs
  have h1 := rlist_ok hP (by omega) (node_few hn)
  refine fn_ok T Tryz.func160 (by kernel_rfl) rfl rfl rfl rfl fun C hC => ?_
  repeat' first
    | refine g_go T hC true 400 rfl rfl ?_
    | refine g_cond rfl (fun h => ?_) (fun h => ?_)
    | refine g_end T hC (by kernel_rfl) ?_
    | refine g_splitD (fun h => ?_) (fun h => ?_)
    | refine g_splitG rfl rfl rfl (fun h => ?_) (fun h => ?_)
    | refine g_splitP rfl rfl (fun h => ?_) (fun h => ?_)
    | refine g_call hC (hL) rfl rfl (LeSs.refl _) rfl rfl rfl ?_
    | refine g_call hC (h1) rfl rfl (LeSs.refl _) rfl rfl rfl ?_
    | (refine g_cat hC rfl rfl (by (try simp only [size_app]); omega) rfl rfl ?_)
  all_goals first
    | (exfalso; have := of_decide_eq_true h; omega)
    | (exfalso; simp only [decide_eq_true_eq, decide_eq_false_iff_not] at *; omega)
    | exact g_fin ⟨.inl rfl, id, _, rfl, .refl _, trivial, rfl, rfl⟩
theorem plain_min {e : Ex} (hn : nodeS e = true) (hP : ∀ y ∈ e.l, RA y) (hg : sgn e.op = none) (ho : e.op = 23) : RW e := by
  intro hs
  have hf := node_facts hn
  have e1 : ByteArray.size (⟨#[110, 101, 119, 32]⟩ : ByteArray) = 4 := rfl
  have e2 : ByteArray.size (⟨#[110, 111, 116, 32]⟩ : ByteArray) = 4 := rfl
  have e3 : ByteArray.size (⟨#[45]⟩ : ByteArray) = 1 := rfl
  have e4 : ByteArray.size (⟨#[46]⟩ : ByteArray) = 1 := rfl
  have e5 : ByteArray.size (⟨#[110, 105, 108]⟩ : ByteArray) = 3 := rfl
  have e6 : ByteArray.size (⟨#[105, 102]⟩ : ByteArray) = 2 := rfl
  have e7 : ByteArray.size (⟨#[109, 97, 120]⟩ : ByteArray) = 3 := rfl
  have e8 : ByteArray.size (⟨#[109, 105, 110]⟩ : ByteArray) = 3 := rfl
  have e9 : ByteArray.size (⟨#[108, 111, 103]⟩ : ByteArray) = 3 := rfl
  have hL := rlevel_ok e.op
  have hw : wT e = (⟨#[109, 105, 110]⟩ : ByteArray) ++ listT (wLs e.l) := by
    rw [wT_eq, nodeTx, hg, ho]
    rfl
  rw [hw] at hs ⊢
  simp only [size_app] at hs
  have h1 := rlist_ok hP (by omega) (node_few hn)
  refine fn_ok T Tryz.func160 (by kernel_rfl) rfl rfl rfl rfl fun C hC => ?_
  repeat' first
    | refine g_go T hC true 400 rfl rfl ?_
    | refine g_cond rfl (fun h => ?_) (fun h => ?_)
    | refine g_end T hC (by kernel_rfl) ?_
    | refine g_splitD (fun h => ?_) (fun h => ?_)
    | refine g_splitG rfl rfl rfl (fun h => ?_) (fun h => ?_)
    | refine g_splitP rfl rfl (fun h => ?_) (fun h => ?_)
    | refine g_call hC (hL) rfl rfl (LeSs.refl _) rfl rfl rfl ?_
    | refine g_call hC (h1) rfl rfl (LeSs.refl _) rfl rfl rfl ?_
    | (refine g_cat hC rfl rfl (by (try simp only [size_app]); omega) rfl rfl ?_)
  all_goals first
    | (exfalso; have := of_decide_eq_true h; omega)
    | (exfalso; simp only [decide_eq_true_eq, decide_eq_false_iff_not] at *; omega)
    | exact g_fin ⟨.inl rfl, id, _, rfl, .refl _, trivial, rfl, rfl⟩
theorem plain_log {e : Ex} (hn : nodeS e = true) (hP : ∀ y ∈ e.l, RA y) (hg : sgn e.op = none) (ho : e.op = 24) : RW e := by
  intro hs
  have hf := node_facts hn
  have e1 : ByteArray.size (⟨#[110, 101, 119, 32]⟩ : ByteArray) = 4 := rfl
  have e2 : ByteArray.size (⟨#[110, 111, 116, 32]⟩ : ByteArray) = 4 := rfl
  have e3 : ByteArray.size (⟨#[45]⟩ : ByteArray) = 1 := rfl
  have e4 : ByteArray.size (⟨#[46]⟩ : ByteArray) = 1 := rfl
  have e5 : ByteArray.size (⟨#[110, 105, 108]⟩ : ByteArray) = 3 := rfl
  have e6 : ByteArray.size (⟨#[105, 102]⟩ : ByteArray) = 2 := rfl
  have e7 : ByteArray.size (⟨#[109, 97, 120]⟩ : ByteArray) = 3 := rfl
  have e8 : ByteArray.size (⟨#[109, 105, 110]⟩ : ByteArray) = 3 := rfl
  have e9 : ByteArray.size (⟨#[108, 111, 103]⟩ : ByteArray) = 3 := rfl
  have hL := rlevel_ok e.op
  have hw : wT e = (⟨#[108, 111, 103]⟩ : ByteArray) ++ listT (wLs e.l) := by
    rw [wT_eq, nodeTx, hg, ho]
    rfl
  rw [hw] at hs ⊢
  simp only [size_app] at hs
  have h1 := rlist_ok hP (by omega) (node_few hn)
  refine fn_ok T Tryz.func160 (by kernel_rfl) rfl rfl rfl rfl fun C hC => ?_
  repeat' first
    | refine g_go T hC true 400 rfl rfl ?_
    | refine g_cond rfl (fun h => ?_) (fun h => ?_)
    | refine g_end T hC (by kernel_rfl) ?_
    | refine g_splitD (fun h => ?_) (fun h => ?_)
    | refine g_splitG rfl rfl rfl (fun h => ?_) (fun h => ?_)
    | refine g_splitP rfl rfl (fun h => ?_) (fun h => ?_)
    | refine g_call hC (hL) rfl rfl (LeSs.refl _) rfl rfl rfl ?_
    | refine g_call hC (h1) rfl rfl (LeSs.refl _) rfl rfl rfl ?_
    | (refine g_cat hC rfl rfl (by (try simp only [size_app]); omega) rfl rfl ?_)
  all_goals first
    | (exfalso; have := of_decide_eq_true h; omega)
    | (exfalso; simp only [decide_eq_true_eq, decide_eq_false_iff_not] at *; omega)
    | exact g_fin ⟨.inl rfl, id, _, rfl, .refl _, trivial, rfl, rfl⟩
theorem plain_step {e : Ex} (hn : nodeS e = true) (hP : ∀ y ∈ e.l, RA y) : RW e := by
  cases hg : sgn e.op with
  | some x => exact plain_sign hn hP hg
  | none =>
    by_cases h1 : e.op = 1
    · exact plain_int hn hP hg h1
    by_cases h2 : e.op = 2
    · exact plain_bool hn hP hg h2
    by_cases h3 : e.op = 3
    · exact plain_nil hn hP hg h3
    by_cases h4 : e.op = 4
    · exact plain_name hn hP hg h4
    by_cases h5 : e.op = 5
    · exact plain_field hn hP hg h5
    by_cases h6 : e.op = 6
    · exact plain_new hn hP hg h6
    by_cases h7 : e.op = 7
    · exact plain_call hn hP hg h7
    by_cases h8 : e.op = 8
    · exact plain_neg hn hP hg h8
    by_cases h18 : e.op = 18
    · exact plain_not hn hP hg h18
    by_cases h21 : e.op = 21
    · exact plain_if hn hP hg h21
    by_cases h22 : e.op = 22
    · exact plain_max hn hP hg h22
    by_cases h23 : e.op = 23
    · exact plain_min hn hP hg h23
    by_cases h24 : e.op = 24
    · exact plain_log hn hP hg h24
    have := fn_ops hn hg ⟨h1, h2, h3, h4, h5, h6, h7, h8, h18⟩
    omega
theorem plainT_ok : ∀ (N : Nat) (e : Ex) (d : Int), sizeOf e < N → countS e d ≤ 1000 → RW e := by
  intro N
  induction N with
  | zero => intro e d h; omega
  | succ N ih =>
    intro e d hN hc
    obtain ⟨hd, hn, hL⟩ := good_parts hc
    refine plain_step hn fun y hy => at_ok (ih y (d + 1) ?_ ?_)
    · have := List.sizeOf_lt_of_mem hy; have := sizeE_sub e; omega
    · have := good_list (by rw [hL]; exact hc) y hy; omega
end Hw.Z
