/- The engine and the contracts. -/
import Derived.Test.YtnijeifpjjeccaaGreatDoorC18
set_option linter.unusedVariables false
set_option linter.unusedSimpArgs false
namespace Hw.Mq
open Go Go.Proofs Hw.M

/-! operations as text: what is written is read again -/
theorem decD_big {u : Nat} (h : ¬ u < 10) : Lib.decDigits u = Lib.decDigits (u / 10) ++ [UInt8.ofNat (48 + u % 10)] := by rw [Lib.decDigits, dif_neg h]
theorem digit_nat {d : Nat} (h : d < 10) : (UInt8.ofNat (48 + d)).toNat = 48 + d := by simp [UInt8.toNat_ofNat']; omega
theorem dec_range : ∀ (k u : Nat), u < k → ∀ b ∈ Lib.decDigits u, 48 ≤ b.toNat ∧ b.toNat ≤ 57 := by
  intro k
  induction k with
  | zero => intro u h; omega
  | succ k ih =>
    intro u hu b hb
    by_cases h : u < 10
    · rw [Lib.decDigits_one h, List.mem_singleton] at hb
      rw [hb, digit_nat h]; omega
    · rw [decD_big h, List.mem_append, List.mem_singleton] at hb
      rcases hb with hb | hb
      · exact ih (u / 10) (by omega) b hb
      · rw [hb, digit_nat (by omega)]; omega
theorem dec_ne (u : Nat) : Lib.decDigits u ≠ [] := fun e => by
  have := Lib.decDigits_length u
  rw [e] at this
  have := Lib.nDigits_pos u
  simp at *; omega
theorem parse_append : ∀ (a b : By) (acc v : Nat), Lib.parseUint10 acc a = .ok v → Lib.parseUint10 acc (a ++ b) = Lib.parseUint10 v b
  | [], b, acc, v, h => by simp only [Lib.parseUint10] at h; injection h with h; subst h; rfl
  | c :: r, b, acc, v, h => by
    rw [List.cons_append]
    unfold Lib.parseUint10 at h
    conv => lhs; unfold Lib.parseUint10
    split at h
    · rename_i h1
      rw [if_pos h1]
      split at h
      · cases h
      · rename_i h2
        rw [if_neg h2]
        split at h
        · cases h
        · rename_i h3
          rw [if_neg h3]
          exact parse_append r b _ v h
    · cases h
theorem parse_one {acc d : Nat} (hd : d < 10) (ha : acc ≤ 1000000000) : Lib.parseUint10 acc [UInt8.ofNat (48 + d)] = .ok (acc * 10 + d) := by
  unfold Lib.parseUint10
  rw [digit_nat hd, if_pos (by omega), if_neg (by omega), if_neg (by omega)]
  unfold Lib.parseUint10
  congr 1
  omega
theorem parse_dec : ∀ (k u : Nat), u < k → u ≤ 1000000000 → Lib.parseUint10 0 (Lib.decDigits u) = .ok u := by
  intro k
  induction k with
  | zero => intro u h; omega
  | succ k ih =>
    intro u hu hb
    by_cases h : u < 10
    · rw [Lib.decDigits_one h, parse_one h (by omega)]; congr 1; omega
    · rw [decD_big h, parse_append _ _ _ _ (ih (u / 10) (by omega) (by omega)), parse_one (by omega) (by omega)]
      congr 1; omega
theorem fold_dec : ∀ (k u : Nat), u < k → u ≤ 1048577 → (Lib.decDigits u).foldl stepN 0 = (u : Int) := by
  intro k
  induction k with
  | zero => intro u h; omega
  | succ k ih =>
    intro u hu hb
    by_cases h : u < 10
    · rw [Lib.decDigits_one h]
      simp only [List.foldl_cons, List.foldl_nil, stepN, digit_nat h]
      omega
    · rw [decD_big h, List.foldl_append, ih (u / 10) (by omega) (by omega)]
      simp only [List.foldl_cons, List.foldl_nil, stepN, digit_nat (show u % 10 < 10 by omega)]
      omega
theorem scanN_append : ∀ (a b : By) (n : Int), (∀ x ∈ a, x ≠ 32) → scanN (a ++ b) n = scanN b (a.foldl stepN n)
  | [], _, _, _ => rfl
  | x :: a, b, n, h => by
    rw [List.cons_append, scanN_step (h x (by simp)), scanN_append a b _ (fun y hy => h y (by simp [hy]))]
    rfl
theorem dig_not {b : UInt8} (h : 48 ≤ b.toNat ∧ b.toNat ≤ 57) : b ≠ 32 ∧ b ≠ 45 ∧ b ≠ 43 := by
  have h1 : (32 : UInt8).toNat = 32 := rfl
  have h2 : (45 : UInt8).toNat = 45 := rfl
  have h3 : (43 : UInt8).toNat = 43 := rfl
  refine ⟨fun e => ?_, fun e => ?_, fun e => ?_⟩ <;> subst e <;> omega
theorem itoa_blank (n : Int) : ∀ b ∈ Lib.itoa n, b ≠ 32 := by
  intro b hb
  unfold Lib.itoa at hb
  split at hb
  · rcases List.mem_cons.1 hb with rfl | hb
    · decide
    · exact (dig_not (dec_range _ _ (Nat.lt_succ_self _) b hb)).1
  · exact (dig_not (dec_range _ _ (Nat.lt_succ_self _) b hb)).1
theorem atoi_itoa {n : Int} (h : -1048576 ≤ n ∧ n ≤ 1048576) : Lib.atoiAll (Lib.itoa n) = .ok n := by
  unfold Lib.itoa
  split
  · rename_i hn
    unfold Lib.atoiAll
    simp only
    rw [if_pos (.inr rfl)]
    unfold Lib.parseMag
    rw [if_neg (dec_ne _), parse_dec _ _ (Nat.lt_succ_self _) (by omega)]
    simp only
    have e45 : (45 : UInt8).toNat = 45 := rfl
    rw [if_neg (by rw [e45]; simp), if_neg (by omega), if_pos e45]
    congr 1; omega
  · rename_i hn
    cases hd : Lib.decDigits n.toNat with
    | nil => exact absurd hd (dec_ne _)
    | cons c r =>
      have hc := dec_range _ _ (Nat.lt_succ_self _) c (by rw [hd]; simp)
      unfold Lib.atoiAll
      simp only
      rw [if_neg (by omega)]
      unfold Lib.parseMag
      rw [if_neg (by simp), ← hd, parse_dec _ _ (Nat.lt_succ_self _) (by omega)]
      simp only
      rw [if_neg (by omega), if_neg (by omega), if_neg (by omega)]
      congr 1; omega
/-! the text as bytes -/
def flatT : List Int → By
  | [] => []
  | n :: r => 32 :: (Lib.itoa n ++ flatT r)
theorem lst_accT : ∀ (l : List Int) (a : Str), lst (accT l a) = lst a ++ flatT l
  | [], a => by simp [accT, flatT]
  | n :: r, a => by
    rw [accT, lst_accT r, lst_app, lst_app]
    have e1 : lst (⟨#[32]⟩ : ByteArray) = [32] := rfl
    have e2 : lst (itoaB n) = Lib.itoa n := by simp [lst, itoaB]
    rw [e1, e2, flatT]
    simp
theorem flatT_head (l : List Int) : ∀ b, (flatT l).head? = some b → b = 32 := by
  cases l with
  | nil => intro b h; cases h
  | cons n r => intro b h; exact (Option.some.inj h).symm
/-! the pieces -/
theorem index_no : ∀ (p : By), (∀ b ∈ p, b ≠ 32) → Lib.index p [32] = -1
  | [], _ => rfl
  | b :: p, h => by
    have hb : ([32] : By).isPrefixOf (b :: p) = false := by
      have := h b (by simp)
      simp only [List.isPrefixOf, Bool.and_true, beq_eq_false_iff_ne, ne_eq]
      exact fun e => this e.symm
    unfold Lib.index
    rw [hb, index_no p (fun y hy => h y (by simp [hy]))]
    rfl
theorem index_at : ∀ (p r : By), (∀ b ∈ p, b ≠ 32) → Lib.index (p ++ 32 :: r) [32] = (p.length : Int)
  | [], r, _ => by
    have hb : ([32] : By).isPrefixOf (32 :: r) = true := by simp [List.isPrefixOf]
    show Lib.index (32 :: r) [32] = _
    unfold Lib.index
    rw [hb]; rfl
  | b :: p, r, h => by
    have hb : ([32] : By).isPrefixOf (b :: (p ++ 32 :: r)) = false := by
      have := h b (by simp)
      simp only [List.isPrefixOf, Bool.and_true, beq_eq_false_iff_ne, ne_eq]
      exact fun e => this e.symm
    rw [List.cons_append]
    unfold Lib.index
    rw [hb, index_at p r (fun y hy => h y (by simp [hy]))]
    have : ((p.length : Int) == -1) = false := by rw [beq_eq_false_iff_ne]; omega
    simp only [Bool.false_eq_true, if_false, this, List.length_cons]
    omega
theorem split_no {p : By} (h : ∀ b ∈ p, b ≠ 32) : Lib.split p [32] = [p] := by
  unfold Lib.split
  rw [Lib.count_miss (index_no p h)]; rfl
theorem split_at {p r : By} (h : ∀ b ∈ p, b ≠ 32) : Lib.split (p ++ 32 :: r) [32] = p :: Lib.split r [32] := by
  have hi := index_at p r h
  unfold Lib.split
  have hd : (p ++ 32 :: r).drop (p.length + ([32] : By).length) = r := by
    rw [show p ++ 32 :: r = (p ++ [32]) ++ r by simp, List.drop_left' (by simp)]
  rw [Lib.count_hit (by simp) hi, hd, Nat.add_comm]
  conv => lhs; unfold Lib.splitK
  rw [hi]
  have : ((p.length : Int) == -1) = false := by rw [beq_eq_false_iff_ne]; omega
  simp only [this, Bool.false_eq_true, if_false, Int.toNat_natCast, Nat.add_zero]
  rw [hd]
  simp
theorem split_flat : ∀ (l : List Int) (p : By), (∀ b ∈ p, b ≠ 32) → Lib.split (p ++ flatT l) [32] = p :: l.map Lib.itoa
  | [], p, h => by rw [flatT, List.append_nil, split_no h]; rfl
  | n :: r, p, h => by rw [flatT, split_at h, split_flat r _ (itoa_blank n)]; rfl
theorem pcs_data (s : Str) : (pcs s).map lst = Lib.split (lst s) [32] := Lib.splitB_data blank 0 _ s
theorem argsA_of : ∀ (qs : List Str) (l a : List Int), qs.map lst = l.map Lib.itoa → (∀ n ∈ l, -1048576 ≤ n ∧ n ≤ 1048576) → a.length + l.length ≤ 65 → argsA qs a = some (a ++ l)
  | [], [], a, _, _, _ => by simp [argsA]
  | q :: qs, n :: l, a, h, hn, hl => by
    simp only [List.map_cons, List.cons.injEq] at h
    unfold argsA
    rw [h.1, atoi_itoa (hn n (by simp))]
    simp only [List.length_cons] at hl
    simp only
    rw [if_neg (by omega), argsA_of qs l _ h.2 (fun m hm => hn m (by simp [hm])) (by rw [List.length_append, List.length_singleton]; omega)]
    simp
  | [], n :: l, a, h, _, _ => by simp at h
  | q :: qs, [], a, h, _, _ => by simp at h
theorem argsR_of : ∀ (l a : List Int), (∀ n ∈ l, -1048576 ≤ n ∧ n ≤ 1048576) → a.length + l.length ≤ 65 → argsR (flatT l) a = a ++ l
  | [], a, _, _ => by
    show argsR [] a = _
    rw [argsR_end (.inl rfl), List.append_nil]
  | n :: l, a, hn, hl => by
    simp only [List.length_cons] at hl
    have hb := hn n (by simp)
    rw [argsR_go (fun h => h.elim (fun h => by simp [flatT] at h) (fun h => by omega))]
    have hs : scanN (magR ((flatT (n :: l)).drop 1)) 0 = ((n.natAbs : Int), flatT l) ∧ signR ((flatT (n :: l)).drop 1) * (n.natAbs : Int) = n := by
      have e : (flatT (n :: l)).drop 1 = Lib.itoa n ++ flatT l := rfl
      rw [e]
      unfold Lib.itoa
      split
      · rename_i h0
        unfold magR signR
        have hh : (45 :: Lib.decDigits n.natAbs ++ flatT l).head? = some 45 := rfl
        rw [if_pos hh, if_pos hh]
        refine ⟨?_, by omega⟩
        show scanN (Lib.decDigits n.natAbs ++ flatT l) 0 = _
        rw [scanN_append _ _ _ (fun x hx => (dig_not (dec_range _ _ (Nat.lt_succ_self _) x hx)).1), fold_dec _ _ (Nat.lt_succ_self _) (by omega), scanN_stop (flatT_head l)]
      · rename_i h0
        have hne : ¬ (Lib.decDigits n.toNat ++ flatT l).head? = some 45 := by
          cases hd : Lib.decDigits n.toNat with
          | nil => exact absurd hd (dec_ne _)
          | cons c r =>
            have hc := dec_range _ _ (Nat.lt_succ_self _) c (by rw [hd]; simp)
            intro e
            exact (dig_not hc).2.1 (Option.some.inj e)
        unfold magR signR
        rw [if_neg hne, if_neg hne]
        refine ⟨?_, by omega⟩
        rw [scanN_append _ _ _ (fun x hx => (dig_not (dec_range _ _ (Nat.lt_succ_self _) x hx)).1), fold_dec _ _ (Nat.lt_succ_self _) (by omega), scanN_stop (flatT_head l)]
        congr 1
        omega
    rw [hs.1]
    simp only
    rw [hs.2, argsR_of l _ (fun m hm => hn m (by simp [hm])) (by rw [List.length_append, List.length_singleton]; omega)]
    simp
theorem code_facts {k : Int} (hk : 1 ≤ k ∧ k ≤ 6) : ∀ w ∈ (wordsL k).zipIdx, codeM k w.1.1 = ((w.2 + 1 : Nat) : Int) ∧ codeR w.1.1 (namesL k) 0 0 = ((w.2 + 1 : Nat) : Int) ∧ ∀ b ∈ lst w.1.1, b ≠ 32 := by
  rcases kinds hk with rfl | rfl | rfl | rfl | rfl | rfl <;> decide +kernel
theorem lst_extract (s : Str) (i j : Nat) : lst (s.extract i j) = ((lst s).drop i).take (j - i) := by
  simp only [lst, ByteArray.data_extract, Array.toList_extract, List.extract_eq_take_drop]
theorem read_back {k : Int} {o : OpT} (ho : okOp k o = true) : opM k (opTx k o) = some o ∧ opX k (opTx k o) = some o := by
  obtain ⟨hk, hc, ⟨w, hw⟩, hl, hn⟩ := ok_parts ho
  have hmem : (w, (o.code - 1).toNat) ∈ (wordsL k).zipIdx := by rw [List.mem_zipIdx_iff_getElem?]; exact hw
  obtain ⟨f1, f2, f3⟩ := code_facts hk _ hmem
  simp only at f1 f2 f3
  have hco : (((o.code - 1).toNat + 1 : Nat) : Int) = o.code := by omega
  rw [hco] at f1 f2
  have hnm : nameS k o.code = w.1 := by unfold nameS; rw [hw]
  have hx : lst (opTx k o) = lst w.1 ++ flatT o.args := by unfold opTx; rw [lst_accT, hnm]
  refine ⟨?_, ?_⟩
  · have hp := pcs_data (opTx k o)
    rw [hx, split_flat _ _ f3] at hp
    cases hps : pcs (opTx k o) with
    | nil => rw [hps] at hp; simp at hp
    | cons p qs =>
      rw [hps] at hp
      simp only [List.map_cons, List.cons.injEq] at hp
      have hpw := lst_inj hp.1
      unfold opM
      rw [hps]
      have ha := argsA_of qs o.args [] hp.2 hn (by simp; omega)
      rw [List.nil_append] at ha
      have e : codeM k ((p :: qs).headD (⟨#[]⟩ : ByteArray)) = o.code := by show codeM k p = _; rw [hpw, f1]
      generalize codeM k ((p :: qs).headD (⟨#[]⟩ : ByteArray)) = cc at e ⊢
      subst e
      simp only [List.drop_succ_cons, List.drop_zero]
      rw [ha]
      exact if_pos ⟨ho, rfl⟩
  · have he : endW (lst (opTx k o)) = (lst w.1).length := by
      rw [hx]
      refine endW_of (by simp) (fun b hb => ?_) (fun b hb => ?_)
      · rw [List.take_left' rfl] at hb; exact f3 b hb
      · rw [List.getElem?_append_right (Nat.le_refl _), Nat.sub_self, ← List.head?_eq_getElem?] at hb
        exact flatT_head _ b hb
    have h1 : (opTx k o).extract 0 (lst w.1).length = w.1 := lst_inj (by rw [lst_extract, hx]; simp)
    have h2 : (lst (opTx k o)).drop (lst w.1).length = flatT o.args := by rw [hx, List.drop_left' rfl]
    have h3 : opO k (opTx k o) = o := by
      unfold opO
      rw [he, h1, h2, f2, argsR_of o.args [] hn (by simp; omega)]
      rfl
    unfold opX
    rw [h3, if_pos ⟨ho, rfl⟩]
theorem opM_yes {k : Int} {s : Str} {o : OpT} (h : opM k s = some o) : okOp k o = true ∧ opTx k o = s := by
  unfold opM at h
  split at h
  · cases h
  · split at h
    · rename_i h2; obtain rfl := Option.some.inj h; exact h2
    · cases h
theorem opX_yes {k : Int} {s : Str} {o : OpT} (h : opX k s = some o) : okOp k o = true ∧ opTx k o = s := by
  unfold opX at h
  split at h
  · rename_i h2; obtain rfl := Option.some.inj h; exact h2
  · cases h
theorem opM_opX (k : Int) (s : Str) : opM k s = opX k s := by
  cases h : opX k s with
  | some o => obtain ⟨h1, rfl⟩ := opX_yes h; exact (read_back h1).1
  | none =>
    cases h' : opM k s with
    | none => rfl
    | some o => obtain ⟨h1, rfl⟩ := opM_yes h'; rw [(read_back h1).2] at h; cases h
theorem opTx_inj {k : Int} {a b : OpT} (ha : okOp k a = true) (hb : okOp k b = true) (h : opTx k a = opTx k b) : a = b := by
  have := (read_back ha).1
  rw [h, (read_back hb).1] at this
  exact (Option.some.inj this).symm
end Hw.Mq
namespace Hw.Mq
open Go Go.Proofs Go.Shelf Hw.M

/-! operations as text: the laws -/
theorem same_self (z : OpT) : (decide (z.code = z.code) && decide (z.args = z.args)) = true := by simp
theorem modelTexts_ok (k : Int) (o : OpT) (s : Str) : FnOK Tryz.prog 3 [I k, aggS (opR o), Sr s] [] (.bq true) [] := by
  have hL3 := short_ok [o]
  cases h3 : shortB [o] with
  | false =>
    rw [h3] at hL3
    refine fn_ok T Tryz.func3 (by kernel_rfl) rfl rfl rfl rfl fun C hC => ?_
    repeat' first
      | refine g_go T hC true 400 rfl rfl ?_
      | (exfalso; simp at h; done)
      | refine g_cond rfl (fun h => ?_) (fun h => ?_)
      | refine g_end T hC (by kernel_rfl) ?_
      | refine g_splitD (fun h => ?_) (fun h => ?_)
      | refine g_splitG rfl rfl rfl (fun h => ?_) (fun h => ?_)
      | refine g_splitP rfl rfl (fun h => ?_) (fun h => ?_)
      | refine g_call hC (awake_ok) rfl rfl (LeSs.refl _) rfl rfl rfl ?_
      | refine g_lit T hC rfl rfl rfl rfl rfl rfl rfl rfl rfl ?_
      | refine g_call hC (hL3) rfl rfl (LeSs.refl _) rfl rfl rfl ?_
    all_goals exact g_fin ⟨.inl rfl, id, _, rfl, .refl _, trivial, rfl, rfl⟩
  | true =>
    rw [h3] at hL3
    by_cases h8 : (800 : Int) < (s.size : Int)
    · refine fn_ok T Tryz.func3 (by kernel_rfl) rfl rfl rfl rfl fun C hC => ?_
      repeat' first
        | refine g_go T hC true 400 rfl rfl ?_
        | (exfalso; exact absurd h8 (of_decide_eq_false h))
        | (exfalso; simp at h; done)
        | refine g_cond rfl (fun h => ?_) (fun h => ?_)
        | refine g_end T hC (by kernel_rfl) ?_
        | refine g_splitD (fun h => ?_) (fun h => ?_)
        | refine g_splitG rfl rfl rfl (fun h => ?_) (fun h => ?_)
        | refine g_splitP rfl rfl (fun h => ?_) (fun h => ?_)
        | refine g_call hC (awake_ok) rfl rfl (LeSs.refl _) rfl rfl rfl ?_
        | refine g_lit T hC rfl rfl rfl rfl rfl rfl rfl rfl rfl ?_
        | refine g_call hC (hL3) rfl rfl (LeSs.refl _) rfl rfl rfl ?_
      all_goals exact g_fin ⟨.inl rfl, id, _, rfl, .refl _, trivial, rfl, rfl⟩
    have hV := rValidOp_ok k o
    by_cases hk : 1 ≤ k ∧ k ≤ 6
    · have hP := mParse_ok k s hk (by omega)
      have hR := rParse_ok k s hk (by omega)
      have hQZ := sameOp_ok zeroOp zeroOp
      rw [same_self] at hQZ
      rw [opM_opX] at hP
      have hk1 : ¬ k < 1 := by omega
      have hk6 : ¬ 6 < k := by omega
      cases hok : okOp k o with
      | true =>
        have hT := mText_yes k o hok
        have hU := rText_ok k o hok
        rw [hok] at hV
        cases hx : opX k s with
        | none =>
          rw [hx] at hP hR
          refine fn_ok T Tryz.func3 (by kernel_rfl) rfl rfl rfl rfl fun C hC => ?_
          repeat' first
            | refine g_go T hC true 400 rfl rfl ?_
            | (exfalso; simp at h; done)
            | (exfalso; exact absurd (of_decide_eq_true h) hk6)
            | (exfalso; exact absurd (of_decide_eq_true h) hk1)
            | (exfalso; exact absurd (of_decide_eq_true h) h8)
            | (exfalso; simp at h; done)
            | refine g_cond rfl (fun h => ?_) (fun h => ?_)
            | refine g_end T hC (by kernel_rfl) ?_
            | refine g_splitD (fun h => ?_) (fun h => ?_)
            | refine g_splitG rfl rfl rfl (fun h => ?_) (fun h => ?_)
            | refine g_splitP rfl rfl (fun h => ?_) (fun h => ?_)
            | refine g_call hC (awake_ok) rfl rfl (LeSs.refl _) rfl rfl rfl ?_
            | refine g_lit T hC rfl rfl rfl rfl rfl rfl rfl rfl rfl ?_
            | refine g_call hC (hL3) rfl rfl (LeSs.refl _) rfl rfl rfl ?_
            | refine g_call hC (hT) rfl rfl (LeSs.refl _) rfl rfl rfl ?_
            | refine g_call hC (hP) rfl rfl (LeSs.refl _) rfl rfl rfl ?_
            | refine g_call hC (hV) rfl rfl (LeSs.refl _) rfl rfl rfl ?_
            | refine g_call hC (hU) rfl rfl (LeSs.refl _) rfl rfl rfl ?_
            | refine g_call hC (hR) rfl rfl (LeSs.refl _) rfl rfl rfl ?_
            | (refine g_call hC hQZ rfl rfl (.cons (.refl _) (.cons (LeS.agg (.cons (.refl _) (.cons (LeV.nil 1) .nil))) .nil)) rfl rfl rfl ?_)
          all_goals exact g_fin ⟨.inl rfl, id, _, rfl, by first | exact .refl _ | exact LeS.qb rfl | exact LeS.qq rfl, trivial, rfl, rfl⟩
        | some x =>
          rw [hx] at hP hR
          have hQ := sameOp_ok x x
          rw [same_self] at hQ
          refine fn_ok T Tryz.func3 (by kernel_rfl) rfl rfl rfl rfl fun C hC => ?_
          repeat' first
            | refine g_go T hC true 400 rfl rfl ?_
            | (exfalso; simp at h; done)
            | (exfalso; exact absurd (of_decide_eq_true h) hk6)
            | (exfalso; exact absurd (of_decide_eq_true h) hk1)
            | (exfalso; exact absurd (of_decide_eq_true h) h8)
            | (exfalso; simp at h; done)
            | refine g_cond rfl (fun h => ?_) (fun h => ?_)
            | refine g_end T hC (by kernel_rfl) ?_
            | refine g_splitD (fun h => ?_) (fun h => ?_)
            | refine g_splitG rfl rfl rfl (fun h => ?_) (fun h => ?_)
            | refine g_splitP rfl rfl (fun h => ?_) (fun h => ?_)
            | refine g_call hC (awake_ok) rfl rfl (LeSs.refl _) rfl rfl rfl ?_
            | refine g_lit T hC rfl rfl rfl rfl rfl rfl rfl rfl rfl ?_
            | refine g_call hC (hL3) rfl rfl (LeSs.refl _) rfl rfl rfl ?_
            | refine g_call hC (hT) rfl rfl (LeSs.refl _) rfl rfl rfl ?_
            | refine g_call hC (hP) rfl rfl (LeSs.refl _) rfl rfl rfl ?_
            | refine g_call hC (hV) rfl rfl (LeSs.refl _) rfl rfl rfl ?_
            | refine g_call hC (hU) rfl rfl (LeSs.refl _) rfl rfl rfl ?_
            | refine g_call hC (hR) rfl rfl (LeSs.refl _) rfl rfl rfl ?_
            | refine g_call hC (hQ) rfl rfl (LeSs.refl _) rfl rfl rfl ?_
          all_goals exact g_fin ⟨.inl rfl, id, _, rfl, by first | exact .refl _ | exact LeS.qb rfl | exact LeS.qq rfl, trivial, rfl, rfl⟩
      | false =>
        have hT := mText_no k o hok
        rw [hok] at hV
        cases hx : opX k s with
        | none =>
          rw [hx] at hP hR
          refine fn_ok T Tryz.func3 (by kernel_rfl) rfl rfl rfl rfl fun C hC => ?_
          repeat' first
            | refine g_go T hC true 400 rfl rfl ?_
            | (exfalso; simp at h; done)
            | (exfalso; exact absurd (of_decide_eq_true h) hk6)
            | (exfalso; exact absurd (of_decide_eq_true h) hk1)
            | (exfalso; exact absurd (of_decide_eq_true h) h8)
            | (exfalso; simp at h; done)
            | refine g_cond rfl (fun h => ?_) (fun h => ?_)
            | refine g_end T hC (by kernel_rfl) ?_
            | refine g_splitD (fun h => ?_) (fun h => ?_)
            | refine g_splitG rfl rfl rfl (fun h => ?_) (fun h => ?_)
            | refine g_splitP rfl rfl (fun h => ?_) (fun h => ?_)
            | refine g_call hC (awake_ok) rfl rfl (LeSs.refl _) rfl rfl rfl ?_
            | refine g_lit T hC rfl rfl rfl rfl rfl rfl rfl rfl rfl ?_
            | refine g_call hC (hL3) rfl rfl (LeSs.refl _) rfl rfl rfl ?_
            | refine g_call hC (hT) rfl rfl (LeSs.refl _) rfl rfl rfl ?_
            | refine g_call hC (hP) rfl rfl (LeSs.refl _) rfl rfl rfl ?_
            | refine g_call hC (hV) rfl rfl (LeSs.refl _) rfl rfl rfl ?_
            | refine g_call hC (hR) rfl rfl (LeSs.refl _) rfl rfl rfl ?_
            | (refine g_call hC hQZ rfl rfl (.cons (.refl _) (.cons (LeS.agg (.cons (.refl _) (.cons (LeV.nil 1) .nil))) .nil)) rfl rfl rfl ?_)
          all_goals exact g_fin ⟨.inl rfl, id, _, rfl, by first | exact .refl _ | exact LeS.qb rfl | exact LeS.qq rfl, trivial, rfl, rfl⟩
        | some x =>
          rw [hx] at hP hR
          have hQ := sameOp_ok x x
          rw [same_self] at hQ
          refine fn_ok T Tryz.func3 (by kernel_rfl) rfl rfl rfl rfl fun C hC => ?_
          repeat' first
            | refine g_go T hC true 400 rfl rfl ?_
            | (exfalso; simp at h; done)
            | (exfalso; exact absurd (of_decide_eq_true h) hk6)
            | (exfalso; exact absurd (of_decide_eq_true h) hk1)
            | (exfalso; exact absurd (of_decide_eq_true h) h8)
            | (exfalso; simp at h; done)
            | refine g_cond rfl (fun h => ?_) (fun h => ?_)
            | refine g_end T hC (by kernel_rfl) ?_
            | refine g_splitD (fun h => ?_) (fun h => ?_)
            | refine g_splitG rfl rfl rfl (fun h => ?_) (fun h => ?_)
            | refine g_splitP rfl rfl (fun h => ?_) (fun h => ?_)
            | refine g_call hC (awake_ok) rfl rfl (LeSs.refl _) rfl rfl rfl ?_
            | refine g_lit T hC rfl rfl rfl rfl rfl rfl rfl rfl rfl ?_
            | refine g_call hC (hL3) rfl rfl (LeSs.refl _) rfl rfl rfl ?_
            | refine g_call hC (hT) rfl rfl (LeSs.refl _) rfl rfl rfl ?_
            | refine g_call hC (hP) rfl rfl (LeSs.refl _) rfl rfl rfl ?_
            | refine g_call hC (hV) rfl rfl (LeSs.refl _) rfl rfl rfl ?_
            | refine g_call hC (hR) rfl rfl (LeSs.refl _) rfl rfl rfl ?_
            | refine g_call hC (hQ) rfl rfl (LeSs.refl _) rfl rfl rfl ?_
          all_goals exact g_fin ⟨.inl rfl, id, _, rfl, by first | exact .refl _ | exact LeS.qb rfl | exact LeS.qq rfl, trivial, rfl, rfl⟩
    · have hP := mParse_out k s hk
      have hQZ := sameOp_ok zeroOp zeroOp
      rw [same_self] at hQZ
      have hok : okOp k o = false := by
        cases h : okOp k o with
        | false => rfl
        | true => exact absurd (ok_parts h).1 hk
      have hT := mText_no k o hok
      rw [hok] at hV
      have hkb : k < 1 ∨ 6 < k := by omega
      have hkn : ¬ k < 1 → 6 < k := by omega
      refine fn_ok T Tryz.func3 (by kernel_rfl) rfl rfl rfl rfl fun C hC => ?_
      repeat' first
        | refine g_go T hC true 400 rfl rfl ?_
        | (exfalso; simp at h; done)
        | (exfalso; exact absurd (hkn (of_decide_eq_false (by assumption))) (of_decide_eq_false h))
        | (exfalso; exact absurd (of_decide_eq_true h) h8)
        | (exfalso; simp at h; done)
        | refine g_cond rfl (fun h => ?_) (fun h => ?_)
        | refine g_end T hC (by kernel_rfl) ?_
        | refine g_splitD (fun h => ?_) (fun h => ?_)
        | refine g_splitG rfl rfl rfl (fun h => ?_) (fun h => ?_)
        | refine g_splitP rfl rfl (fun h => ?_) (fun h => ?_)
        | refine g_call hC (awake_ok) rfl rfl (LeSs.refl _) rfl rfl rfl ?_
        | refine g_lit T hC rfl rfl rfl rfl rfl rfl rfl rfl rfl ?_
        | refine g_call hC (hL3) rfl rfl (LeSs.refl _) rfl rfl rfl ?_
        | refine g_call hC (hT) rfl rfl (LeSs.refl _) rfl rfl rfl ?_
        | refine g_call hC (hP) rfl rfl (LeSs.refl _) rfl rfl rfl ?_
        | refine g_call hC (hV) rfl rfl (LeSs.refl _) rfl rfl rfl ?_
        | (refine g_call hC hQZ rfl rfl (.cons (.refl _) (.cons (LeS.agg (.cons (.refl _) (.cons (LeV.nil 1) .nil))) .nil)) rfl rfl rfl ?_)
      all_goals exact g_fin ⟨.inl rfl, id, _, rfl, by first | exact .refl _ | exact LeS.qb rfl | exact LeS.qq rfl, trivial, rfl, rfl⟩
theorem accT_size : ∀ (l : List Int) (a : Str), (∀ n ∈ l, -1048576 ≤ n ∧ n ≤ 1048576) → (accT l a).size ≤ a.size + 22 * l.length
  | [], a, _ => by simp [accT]
  | n :: r, a, h => by
    have h1 := accT_size r (a ++ ((⟨#[32]⟩ : ByteArray) ++ itoaB n)) (fun m hm => h m (by simp [hm]))
    have h2 := piece_size (h n (by simp))
    rw [size_app] at h1
    rw [accT]
    simp only [List.length_cons]
    omega
theorem opTx_size {k : Int} {o : OpT} (h : okOp k o = true) : (opTx k o).size ≤ 1000000 := by
  obtain ⟨_, _, _, hl, hn⟩ := ok_parts h
  have h1 := accT_size o.args (nameS k o.code) hn
  have h2 := name_size k o.code
  unfold opTx
  omega
theorem same_iff {k : Int} {a b : OpT} (ha : okOp k a = true) (hb : okOp k b = true) : decide (opTx k a = opTx k b) = (decide (a.code = b.code) && decide (a.args = b.args)) := by
  by_cases h : opTx k a = opTx k b
  · obtain rfl := opTx_inj ha hb h
    simp
  · rw [decide_eq_false h]
    by_cases h1 : a.code = b.code
    · by_cases h2 : a.args = b.args
      · exact absurd (by obtain ⟨c, l⟩ := a; obtain ⟨d, m⟩ := b; simp only at h1 h2; rw [h1, h2]) h
      · simp [h2]
    · simp [h1]
theorem modelBack_ok (k : Int) (a b : OpT) (s : Str) : FnOK Tryz.prog 4 [I k, aggS (opR a), aggS (opR b), Sr s] [] (.bq true) [] := by
  have hL3 := short_ok [a, b]
  cases h3 : shortB [a, b] with
  | false =>
    rw [h3] at hL3
    refine fn_ok T Tryz.func4 (by kernel_rfl) rfl rfl rfl rfl fun C hC => ?_
    repeat' first
      | refine g_go T hC true 400 rfl rfl ?_
      | (exfalso; simp at h; done)
      | refine g_cond rfl (fun h => ?_) (fun h => ?_)
      | refine g_end T hC (by kernel_rfl) ?_
      | refine g_splitD (fun h => ?_) (fun h => ?_)
      | refine g_splitG rfl rfl rfl (fun h => ?_) (fun h => ?_)
      | refine g_splitP rfl rfl (fun h => ?_) (fun h => ?_)
      | refine g_call hC (awake_ok) rfl rfl (LeSs.refl _) rfl rfl rfl ?_
      | refine g_lit T hC rfl rfl rfl rfl rfl rfl rfl rfl rfl ?_
      | refine g_call hC (hL3) rfl rfl (LeSs.refl _) rfl rfl rfl ?_
    all_goals exact g_fin ⟨.inl rfl, id, _, rfl, .refl _, trivial, rfl, rfl⟩
  | true =>
    rw [h3] at hL3
    by_cases h8 : (800 : Int) < (s.size : Int)
    · refine fn_ok T Tryz.func4 (by kernel_rfl) rfl rfl rfl rfl fun C hC => ?_
      repeat' first
        | refine g_go T hC true 400 rfl rfl ?_
        | (exfalso; exact absurd h8 (of_decide_eq_false h))
        | (exfalso; simp at h; done)
        | refine g_cond rfl (fun h => ?_) (fun h => ?_)
        | refine g_end T hC (by kernel_rfl) ?_
        | refine g_splitD (fun h => ?_) (fun h => ?_)
        | refine g_splitG rfl rfl rfl (fun h => ?_) (fun h => ?_)
        | refine g_splitP rfl rfl (fun h => ?_) (fun h => ?_)
        | refine g_call hC (awake_ok) rfl rfl (LeSs.refl _) rfl rfl rfl ?_
        | refine g_lit T hC rfl rfl rfl rfl rfl rfl rfl rfl rfl ?_
        | refine g_call hC (hL3) rfl rfl (LeSs.refl _) rfl rfl rfl ?_
      all_goals exact g_fin ⟨.inl rfl, id, _, rfl, .refl _, trivial, rfl, rfl⟩
    by_cases hk : 1 ≤ k ∧ k ≤ 6
    · have hP := mParse_ok k s hk (by omega)
      have hVa := validOp_ok k a
      obtain ⟨x, hx⟩ : ∃ x, opM k s = x := ⟨_, rfl⟩
      rw [hx] at hP
      cases hoa : okOp k a with
      | false =>
        have hA := mText_no k a hoa
        rw [hoa] at hVa
        have hB : ∃ t e, FnOK Tryz.prog 7 [I k, aggS (opR b)] [] (.tup [Sr t, I e]) [] := by
          cases hob : okOp k b with
          | false => exact ⟨_, _, mText_no k b hob⟩
          | true => exact ⟨_, _, mText_yes k b hob⟩
        obtain ⟨t, e, hB⟩ := hB
        cases x with
        | none =>
          refine fn_ok T Tryz.func4 (by kernel_rfl) rfl rfl rfl rfl fun C hC => ?_
          repeat' first
            | refine g_go T hC true 400 rfl rfl ?_
            | (exfalso; simp at h; done)
            | (exfalso; exact absurd (of_decide_eq_true h) h8)
            | refine g_boolsE hC rfl rfl (by kernel_rfl) rfl rfl ?_
            | (exfalso; simp at h; done)
            | refine g_cond rfl (fun h => ?_) (fun h => ?_)
            | refine g_end T hC (by kernel_rfl) ?_
            | refine g_splitD (fun h => ?_) (fun h => ?_)
            | refine g_splitG rfl rfl rfl (fun h => ?_) (fun h => ?_)
            | refine g_splitP rfl rfl (fun h => ?_) (fun h => ?_)
            | refine g_call hC (awake_ok) rfl rfl (LeSs.refl _) rfl rfl rfl ?_
            | refine g_lit T hC rfl rfl rfl rfl rfl rfl rfl rfl rfl ?_
            | refine g_call hC (hL3) rfl rfl (LeSs.refl _) rfl rfl rfl ?_
            | refine g_call hC (hP) rfl rfl (LeSs.refl _) rfl rfl rfl ?_
            | refine g_call hC (hA) rfl rfl (LeSs.refl _) rfl rfl rfl ?_
            | refine g_call hC (hB) rfl rfl (LeSs.refl _) rfl rfl rfl ?_
            | refine g_call hC (hVa) rfl rfl (LeSs.refl _) rfl rfl rfl ?_
          all_goals exact g_fin ⟨.inl rfl, id, _, rfl, by first | exact .refl _ | exact LeS.qb rfl | exact LeS.qq rfl, trivial, rfl, rfl⟩
        | some x =>
          obtain ⟨hox, hxs⟩ := opM_yes hx
          have hX := mText_yes k x hox
          rw [hxs] at hX
          have hVx := validOp_ok k x
          rw [hox] at hVx
          refine fn_ok T Tryz.func4 (by kernel_rfl) rfl rfl rfl rfl fun C hC => ?_
          repeat' first
            | refine g_go T hC true 400 rfl rfl ?_
            | (exfalso; simp at h; done)
            | (exfalso; exact absurd (of_decide_eq_true h) h8)
            | refine g_boolsE hC rfl rfl (by kernel_rfl) rfl rfl ?_
            | (exfalso; simp at h; done)
            | refine g_cond rfl (fun h => ?_) (fun h => ?_)
            | refine g_end T hC (by kernel_rfl) ?_
            | refine g_splitD (fun h => ?_) (fun h => ?_)
            | refine g_splitG rfl rfl rfl (fun h => ?_) (fun h => ?_)
            | refine g_splitP rfl rfl (fun h => ?_) (fun h => ?_)
            | refine g_call hC (awake_ok) rfl rfl (LeSs.refl _) rfl rfl rfl ?_
            | refine g_lit T hC rfl rfl rfl rfl rfl rfl rfl rfl rfl ?_
            | refine g_call hC (hL3) rfl rfl (LeSs.refl _) rfl rfl rfl ?_
            | refine g_call hC (hP) rfl rfl (LeSs.refl _) rfl rfl rfl ?_
            | refine g_call hC (hX) rfl rfl (LeSs.refl _) rfl rfl rfl ?_
            | refine g_call hC (hVx) rfl rfl (LeSs.refl _) rfl rfl rfl ?_
            | refine g_call hC (hA) rfl rfl (LeSs.refl _) rfl rfl rfl ?_
            | refine g_call hC (hB) rfl rfl (LeSs.refl _) rfl rfl rfl ?_
            | refine g_call hC (hVa) rfl rfl (LeSs.refl _) rfl rfl rfl ?_
          all_goals exact g_fin ⟨.inl rfl, id, _, rfl, by first | exact .refl _ | exact LeS.qb rfl | exact LeS.qq rfl, trivial, rfl, rfl⟩
      | true =>
        have hA := mText_yes k a hoa
        rw [hoa] at hVa
        have hPa := mParse_ok k (opTx k a) hk (opTx_size hoa)
        rw [(read_back hoa).1] at hPa
        have hQa := sameOp_ok a a
        rw [same_self] at hQa
        have hQb := sameOp_ok a b
        cases hob : okOp k b with
        | false =>
          have hB := mText_no k b hob
          cases x with
          | none =>
            refine fn_ok T Tryz.func4 (by kernel_rfl) rfl rfl rfl rfl fun C hC => ?_
            repeat' first
              | refine g_go T hC true 400 rfl rfl ?_
              | (exfalso; simp at h; done)
              | (exfalso; exact absurd (of_decide_eq_true h) h8)
              | refine g_boolsE hC rfl rfl (by kernel_rfl) rfl rfl ?_
              | (exfalso; simp at h; done)
              | refine g_cond rfl (fun h => ?_) (fun h => ?_)
              | refine g_end T hC (by kernel_rfl) ?_
              | refine g_splitD (fun h => ?_) (fun h => ?_)
              | refine g_splitG rfl rfl rfl (fun h => ?_) (fun h => ?_)
              | refine g_splitP rfl rfl (fun h => ?_) (fun h => ?_)
              | refine g_call hC (awake_ok) rfl rfl (LeSs.refl _) rfl rfl rfl ?_
              | refine g_lit T hC rfl rfl rfl rfl rfl rfl rfl rfl rfl ?_
              | refine g_call hC (hL3) rfl rfl (LeSs.refl _) rfl rfl rfl ?_
              | refine g_call hC (hP) rfl rfl (LeSs.refl _) rfl rfl rfl ?_
              | refine g_call hC (hA) rfl rfl (LeSs.refl _) rfl rfl rfl ?_
              | refine g_call hC (hB) rfl rfl (LeSs.refl _) rfl rfl rfl ?_
              | refine g_call hC (hVa) rfl rfl (LeSs.refl _) rfl rfl rfl ?_
            all_goals exact g_fin ⟨.inl rfl, id, _, rfl, by first | exact .refl _ | exact LeS.qb rfl | exact LeS.qq rfl, trivial, rfl, rfl⟩
          | some x =>
            obtain ⟨hox, hxs⟩ := opM_yes hx
            have hX := mText_yes k x hox
            rw [hxs] at hX
            have hVx := validOp_ok k x
            rw [hox] at hVx
            refine fn_ok T Tryz.func4 (by kernel_rfl) rfl rfl rfl rfl fun C hC => ?_
            repeat' first
              | refine g_go T hC true 400 rfl rfl ?_
              | (exfalso; simp at h; done)
              | (exfalso; exact absurd (of_decide_eq_true h) h8)
              | refine g_boolsE hC rfl rfl (by kernel_rfl) rfl rfl ?_
              | (exfalso; simp at h; done)
              | refine g_cond rfl (fun h => ?_) (fun h => ?_)
              | refine g_end T hC (by kernel_rfl) ?_
              | refine g_splitD (fun h => ?_) (fun h => ?_)
              | refine g_splitG rfl rfl rfl (fun h => ?_) (fun h => ?_)
              | refine g_splitP rfl rfl (fun h => ?_) (fun h => ?_)
              | refine g_call hC (awake_ok) rfl rfl (LeSs.refl _) rfl rfl rfl ?_
              | refine g_lit T hC rfl rfl rfl rfl rfl rfl rfl rfl rfl ?_
              | refine g_call hC (hL3) rfl rfl (LeSs.refl _) rfl rfl rfl ?_
              | refine g_call hC (hP) rfl rfl (LeSs.refl _) rfl rfl rfl ?_
              | refine g_call hC (hX) rfl rfl (LeSs.refl _) rfl rfl rfl ?_
              | refine g_call hC (hVx) rfl rfl (LeSs.refl _) rfl rfl rfl ?_
              | refine g_call hC (hA) rfl rfl (LeSs.refl _) rfl rfl rfl ?_
              | refine g_call hC (hB) rfl rfl (LeSs.refl _) rfl rfl rfl ?_
              | refine g_call hC (hVa) rfl rfl (LeSs.refl _) rfl rfl rfl ?_
            all_goals exact g_fin ⟨.inl rfl, id, _, rfl, by first | exact .refl _ | exact LeS.qb rfl | exact LeS.qq rfl, trivial, rfl, rfl⟩
        | true =>
          have hB := mText_yes k b hob
          rw [← same_iff hoa hob] at hQb
          cases x with
          | none =>
            refine fn_ok T Tryz.func4 (by kernel_rfl) rfl rfl rfl rfl fun C hC => ?_
            repeat' first
              | refine g_go T hC true 400 rfl rfl ?_
              | (exfalso; simp at h; done)
              | (exfalso; exact absurd (of_decide_eq_true h) h8)
              | refine g_boolsE hC rfl rfl (by kernel_rfl) rfl rfl ?_
              | (exfalso; simp at h; done)
              | refine g_cond rfl (fun h => ?_) (fun h => ?_)
              | refine g_end T hC (by kernel_rfl) ?_
              | refine g_splitD (fun h => ?_) (fun h => ?_)
              | refine g_splitG rfl rfl rfl (fun h => ?_) (fun h => ?_)
              | refine g_splitP rfl rfl (fun h => ?_) (fun h => ?_)
              | refine g_call hC (awake_ok) rfl rfl (LeSs.refl _) rfl rfl rfl ?_
              | refine g_lit T hC rfl rfl rfl rfl rfl rfl rfl rfl rfl ?_
              | refine g_call hC (hL3) rfl rfl (LeSs.refl _) rfl rfl rfl ?_
              | refine g_call hC (hP) rfl rfl (LeSs.refl _) rfl rfl rfl ?_
              | refine g_call hC (hA) rfl rfl (LeSs.refl _) rfl rfl rfl ?_
              | refine g_call hC (hB) rfl rfl (LeSs.refl _) rfl rfl rfl ?_
              | refine g_call hC (hPa) rfl rfl (LeSs.refl _) rfl rfl rfl ?_
              | refine g_call hC (hQa) rfl rfl (LeSs.refl _) rfl rfl rfl ?_
              | refine g_call hC (hQb) rfl rfl (LeSs.refl _) rfl rfl rfl ?_
            all_goals exact g_fin ⟨.inl rfl, id, _, rfl, by first | exact .refl _ | exact LeS.qb rfl | exact LeS.qq rfl | exact LeS.qq (by simp), trivial, rfl, rfl⟩
          | some x =>
            obtain ⟨hox, hxs⟩ := opM_yes hx
            have hX := mText_yes k x hox
            rw [hxs] at hX
            have hVx := validOp_ok k x
            rw [hox] at hVx
            refine fn_ok T Tryz.func4 (by kernel_rfl) rfl rfl rfl rfl fun C hC => ?_
            repeat' first
              | refine g_go T hC true 400 rfl rfl ?_
              | (exfalso; simp at h; done)
              | (exfalso; exact absurd (of_decide_eq_true h) h8)
              | refine g_boolsE hC rfl rfl (by kernel_rfl) rfl rfl ?_
              | (exfalso; simp at h; done)
              | refine g_cond rfl (fun h => ?_) (fun h => ?_)
              | refine g_end T hC (by kernel_rfl) ?_
              | refine g_splitD (fun h => ?_) (fun h => ?_)
              | refine g_splitG rfl rfl rfl (fun h => ?_) (fun h => ?_)
              | refine g_splitP rfl rfl (fun h => ?_) (fun h => ?_)
              | refine g_call hC (awake_ok) rfl rfl (LeSs.refl _) rfl rfl rfl ?_
              | refine g_lit T hC rfl rfl rfl rfl rfl rfl rfl rfl rfl ?_
              | refine g_call hC (hL3) rfl rfl (LeSs.refl _) rfl rfl rfl ?_
              | refine g_call hC (hP) rfl rfl (LeSs.refl _) rfl rfl rfl ?_
              | refine g_call hC (hX) rfl rfl (LeSs.refl _) rfl rfl rfl ?_
              | refine g_call hC (hVx) rfl rfl (LeSs.refl _) rfl rfl rfl ?_
              | refine g_call hC (hA) rfl rfl (LeSs.refl _) rfl rfl rfl ?_
              | refine g_call hC (hB) rfl rfl (LeSs.refl _) rfl rfl rfl ?_
              | refine g_call hC (hPa) rfl rfl (LeSs.refl _) rfl rfl rfl ?_
              | refine g_call hC (hQa) rfl rfl (LeSs.refl _) rfl rfl rfl ?_
              | refine g_call hC (hQb) rfl rfl (LeSs.refl _) rfl rfl rfl ?_
            all_goals exact g_fin ⟨.inl rfl, id, _, rfl, by first | exact .refl _ | exact LeS.qb rfl | exact LeS.qq rfl | exact LeS.qq (by simp), trivial, rfl, rfl⟩
    · have hP := mParse_out k s hk
      have hoa : okOp k a = false := by
        cases h : okOp k a with
        | false => rfl
        | true => exact absurd (ok_parts h).1 hk
      have hob : okOp k b = false := by
        cases h : okOp k b with
        | false => rfl
        | true => exact absurd (ok_parts h).1 hk
      have hA := mText_no k a hoa
      have hB := mText_no k b hob
      have hVa := validOp_ok k a
      rw [hoa] at hVa
      refine fn_ok T Tryz.func4 (by kernel_rfl) rfl rfl rfl rfl fun C hC => ?_
      repeat' first
        | refine g_go T hC true 400 rfl rfl ?_
        | (exfalso; simp at h; done)
        | (exfalso; exact absurd (of_decide_eq_true h) h8)
        | refine g_boolsE hC rfl rfl (by kernel_rfl) rfl rfl ?_
        | (exfalso; simp at h; done)
        | refine g_cond rfl (fun h => ?_) (fun h => ?_)
        | refine g_end T hC (by kernel_rfl) ?_
        | refine g_splitD (fun h => ?_) (fun h => ?_)
        | refine g_splitG rfl rfl rfl (fun h => ?_) (fun h => ?_)
        | refine g_splitP rfl rfl (fun h => ?_) (fun h => ?_)
        | refine g_call hC (awake_ok) rfl rfl (LeSs.refl _) rfl rfl rfl ?_
        | refine g_lit T hC rfl rfl rfl rfl rfl rfl rfl rfl rfl ?_
        | refine g_call hC (hL3) rfl rfl (LeSs.refl _) rfl rfl rfl ?_
        | refine g_call hC (hP) rfl rfl (LeSs.refl _) rfl rfl rfl ?_
        | refine g_call hC (hA) rfl rfl (LeSs.refl _) rfl rfl rfl ?_
        | refine g_call hC (hB) rfl rfl (LeSs.refl _) rfl rfl rfl ?_
        | refine g_call hC (hVa) rfl rfl (LeSs.refl _) rfl rfl rfl ?_
      all_goals exact g_fin ⟨.inl rfl, id, _, rfl, by first | exact .refl _ | exact LeS.qb rfl | exact LeS.qq rfl, trivial, rfl, rfl⟩
end Hw.Mq
