/- The engine and the contracts. -/
import Derived.Test.YtkamoncpfogmaaaGreatDoorC3
import Derived.Test.YtkamoncpfogmaaaGreatDoorC2
import Derived.Test.YtkamoncpfogmaaaGreatDoorC4
set_option linter.unusedVariables false
set_option linter.unusedSimpArgs false
namespace Hw.Pa
open Go Go.Proofs Hw.M

mutual
def cntE : Ex → Nat
  | .mk _ _ _ l => 1 + cntEs l
def cntEs : List Ex → Nat
  | [] => 0
  | e :: es => cntE e + cntEs es
end
mutual
def okE : Ex → Nat → Bool
  | .mk _ _ s l, d => decide (s.size ≤ 100) && decide (d ≤ 70) && okEs l (d + 1)
def okEs : List Ex → Nat → Bool
  | [], _ => true
  | e :: es, d => okE e d && okEs es d
end
theorem cntE_pos (e : Ex) : 1 ≤ cntE e := by cases e; simp only [cntE]; omega
theorem cntEs_app (a b : List Ex) : cntEs (a ++ b) = cntEs a + cntEs b := by
  induction a with
  | nil => simp [cntEs]
  | cons x a ih => simp only [List.cons_append, cntEs, ih]; omega
theorem okEs_at {l : List Ex} {d i : Nat} {x : Ex} (h : okEs l d = true) (hx : l[i]? = some x) : okE x d = true := by
  induction l generalizing i with
  | nil => cases hx
  | cons y l ih =>
    simp only [okEs, Bool.and_eq_true] at h
    cases i with
    | zero => simp only [List.getElem?_cons_zero, Option.some.injEq] at hx; subst hx; exact h.1
    | succ i => simp only [List.getElem?_cons_succ] at hx; exact ih h.2 hx
theorem cntEs_take {l : List Ex} {i : Nat} {x : Ex} (hx : l[i]? = some x) : cntEs (l.take (i + 1)) = cntEs (l.take i) + cntE x := by
  rw [List.take_add_one, hx, cntEs_app]; simp [cntEs]
theorem cntEs_le (l : List Ex) (i : Nat) : cntEs (l.take i) ≤ cntEs l := by
  conv => rhs; rw [← List.take_append_drop i l]
  rw [cntEs_app]; omega
theorem name_s40 {s : Str} (h : isName s = true) : s.size ≤ 40 := by
  simp only [isName, Bool.and_eq_true, Bool.not_eq_true', decide_eq_false_iff_not] at h
  omega
theorem named_size {e : Ex} (h : namedS e = true) : e.s.size ≤ 40 := by
  unfold namedS at h
  split at h
  · simp only [Bool.or_eq_true, decide_eq_true_eq] at h
    rcases h with h | h
    · rw [h]; show 4 ≤ 40; decide
    · exact name_s40 h
  · split at h
    · exact name_s40 h
    · rw [of_decide_eq_true h]; show 0 ≤ 40; decide
theorem node_size {op n : Int} {s : Str} {l : List Ex} (h : nodeS (.mk op n s l) = true) : s.size ≤ 40 := by
  unfold nodeS at h
  simp only [Bool.and_eq_true] at h
  exact named_size (e := .mk op n s l) h.1.2
theorem countL_mono : ∀ (l : List Ex) (d n : Int), n ≤ countL l d n
  | [], d, n => by simp only [countL]; omega
  | e :: es, d, n => by
    simp only [countL]
    have h1 := (countS_bound e (d + 1)).1
    have h2 := countL_mono es d (n + countS e (d + 1))
    split <;> omega
mutual
theorem cnt_ok : ∀ (e : Ex) (d : Nat), countS e d ≤ 1000 → (cntE e : Int) ≤ countS e d ∧ okE e d = true
  | .mk op n s l, d, h => by
    simp only [countS] at h ⊢
    split at h
    · omega
    · rename_i hc
      rw [if_neg hc]
      simp only [Bool.or_eq_true, decide_eq_true_eq, Bool.not_eq_true', not_or, Bool.not_eq_false] at hc
      obtain ⟨h1, h2⟩ := cnts_ok l d 1 (by decide) h
      have h3 := node_size hc.2
      refine ⟨by simp only [cntE]; omega, ?_⟩
      simp only [okE, Bool.and_eq_true, decide_eq_true_eq]
      exact ⟨⟨by omega, by omega⟩, h2⟩
theorem cnts_ok : ∀ (l : List Ex) (d : Nat) (n : Int), 0 ≤ n → countL l d n ≤ 1000 → n + (cntEs l : Int) ≤ countL l d n ∧ okEs l (d + 1) = true
  | [], d, n, _, h => by simp only [countL, cntEs, okEs]; exact ⟨by omega, trivial⟩
  | e :: es, d, n, h0, h => by
    simp only [countL] at h ⊢
    have hm := countL_mono es d (n + countS e (d + 1))
    have hp := (countS_bound e (d + 1)).1
    split at h
    · omega
    · rename_i hc
      rw [if_neg hc]
      obtain ⟨h1, h2⟩ := cnts_ok es d _ (by omega) h
      have hcast : ((d + 1 : Nat) : Int) = (d : Int) + 1 := by omega
      obtain ⟨h3, h4⟩ := cnt_ok e (d + 1) (by rw [hcast]; omega)
      rw [hcast] at h3
      refine ⟨by simp only [cntEs]; omega, ?_⟩
      simp only [okEs, h4, h2, Bool.and_self]
end
theorem exprOk_cnt {e : Ex} (h : exprOk e = true) : cntE e ≤ 1000 ∧ okE e 1 = true := by
  have h1 := of_decide_eq_true h
  obtain ⟨h2, h3⟩ := cnt_ok e 1 h1
  exact ⟨by have : countS e ((1 : Nat) : Int) = countS e 1 := rfl; omega, h3⟩
theorem nodes_ok : ∀ (m : Nat) (e : Ex) (d c : Nat), sizeOf e < m → okE e d = true → cntE e ≤ c → c ≤ 100000 → FnOK Tryz.prog 41 [aggS (exprC e), I (d : Nat), .one (.bx 0 0)] [(0, .box [.p (ki (c : Nat))])] (.tup []) [(0, .box [.p (ki ((c - cntE e : Nat)))])] := by
  intro m
  induction m with
  | zero => intro e d c h; omega
  | succ m ih =>
    intro e d c hm hok hc hc2
    have hs : (e.s.size : Int) ≤ 100 ∧ (d : Int) ≤ 70 ∧ okEs e.l (d + 1) = true ∧ cntE e = 1 + cntEs e.l := by
      obtain ⟨op, n, s, l⟩ := e
      simp only [okE, Bool.and_eq_true, decide_eq_true_eq] at hok
      exact ⟨by simp only [Ex.s]; omega, by omega, hok.2, by simp only [cntE, Ex.l]⟩
    obtain ⟨hs, hd, hl, hcnt⟩ := hs
    rw [hcnt] at hc ⊢
    clear hok hcnt
    have hw0 : IntKind.i64.wrap ((c : Int) - 1) = ((c - 1 - cntEs (e.l.take 0) : Nat) : Int) := by rw [wrap64 (by omega)]; simp only [List.take_zero, cntEs]; omega
    refine fn_ok T Tryz.func41 (by kernel_rfl) rfl rfl rfl rfl fun C hC => ?_
    refine g_lenA rfl 0 3 rfl rfl fun hlen => ?_
    rw [List.length_map] at hlen
    repeat' first | refine g_go T hC true 400 rfl rfl ?_ | (exfalso; have h' := of_decide_eq_true h; omega) | refine g_cond rfl (fun h => ?_) (fun h => ?_) | refine g_splitG rfl rfl rfl (fun h => ?_) (fun h => ?_) | refine g_splitP rfl rfl (fun h => ?_) (fun h => ?_)
    rw [hw0]
    refine g_loop (fun i : Nat => i ≤ e.l.length) (fun i => ([(1, I (d : Nat)), (2, .one (.bx 0 0)), (3, .one (.bx 1003 0)), (6, I (i : Nat))], [(0, some (Res.box [.p (ki ((c - 1 - cntEs (e.l.take i) : Nat)))])), (1003, some (Res.box ((exprC e).map V.p)))])) (fun i => e.l.length - i) hC
      0 (Nat.zero_le _) id ⟨rfl, ⟨rfl, rfl, rfl, rfl, trivial⟩, ⟨rfl, rfl, trivial⟩, rfl, fun _ _ => rfl⟩ ?_
    intro i hi
    have hle := cntEs_le e.l i
    by_cases hlt : i < e.l.length
    · obtain ⟨x, hx⟩ := exists_at hlt
      have htk := cntEs_take hx
      have hle2 := cntEs_le e.l (i + 1)
      have hN := ih x (d + 1) (c - 1 - cntEs (e.l.take i)) (by have := size_part hx; omega) (okEs_at hl hx) (by omega) (by omega)
      rw [← wrapS (i := d) (by omega)] at hN
      repeat' first | refine g_go T hC true 400 rfl rfl ?_ | (exfalso; have h' := of_decide_eq_false h; (try simp only [List.length_map] at h'); omega) | refine g_cond rfl (fun h => ?_) (fun h => ?_) | refine g_splitG rfl rfl rfl (fun h => ?_) (fun h => ?_) | refine g_splitP rfl rfl (fun h => ?_) (fun h => ?_) | refine g_idx T hC rfl rfl rfl (Int.natCast_nonneg _) (map_atE (by assumption)) rfl rfl ?_ | refine g_callR hC (hN) (nm [0]) rfl rfl (LeSs.refl _) rfl rfl rfl rfl rfl rfl rfl rfl ?_
      rw [wrapS (i := i) (by omega)]
      rw [show c - 1 - cntEs (e.l.take i) - cntE x = c - 1 - cntEs (e.l.take (i + 1)) by omega]
      exact g_round (i + 1) hlt id (by omega) ⟨rfl, ⟨rfl, rfl, rfl, rfl, trivial⟩, ⟨rfl, rfl, trivial⟩, rfl, fun _ _ => rfl⟩
    · repeat' first | refine g_go T hC true 400 rfl rfl ?_ | (exfalso; have h' := of_decide_eq_true h; (try simp only [List.length_map] at h'); omega) | refine g_cond rfl (fun h => ?_) (fun h => ?_) | refine g_splitG rfl rfl rfl (fun h => ?_) (fun h => ?_) | refine g_splitP rfl rfl (fun h => ?_) (fun h => ?_) | refine g_outE ?_
      have e1 : e.l.take i = e.l := List.take_of_length_le (by omega)
      rw [e1, show c - 1 - cntEs e.l = c - (1 + cntEs e.l) by omega]
      exact g_fin ⟨.inr rfl, id, [], rfl, .refl _, ⟨rfl, trivial⟩, rfl, rfl⟩
theorem large_ok (e : Ex) (h1 : cntE e ≤ 1000) (h2 : okE e 1 = true) : FnOK Tryz.prog 15 [aggS (exprC e)] [] (.bq false) [] := by
  have hN : FnOK Tryz.prog 41 [aggS (exprC e), I 1, .one (.bx 0 0)] [(0, .box [.p (ki 1100)])] (.tup []) [(0, .box [.p (ki ((1100 - cntE e : Nat)))])] := nodes_ok (sizeOf e + 1) e 1 1100 (Nat.lt_succ_self _) h2 (by omega) (by decide)
  refine fn_ok T Tryz.func15 (by kernel_rfl) rfl rfl rfl rfl fun C hC => ?_
  repeat' first | refine g_go T hC true 400 rfl rfl ?_ | refine g_cond rfl (fun h => ?_) (fun h => ?_) | refine g_callR hC (hN) (nm [1003]) rfl rfl (LeSs.refl _) rfl rfl rfl rfl rfl rfl rfl rfl ?_ | refine g_retq T (.inl rfl) rfl ?_
  exact (decide_eq_false (by omega))
end Hw.Pa
namespace Hw.Pa
open Go Go.Proofs Hw.M

abbrev posS (p : Int × Int) : S := aggS [ki p.1, ki p.2]
def topT (l : List Tok) : Ex × (Int × Int) × Int := match exprA l (10 * l.length + 13) 0 0 with
  | .ok x j => match l[j]? with
    | some t => if t.k = 5 then if exprOk x = true then (x, (0, 0), 0) else (E0, (0, 0), 4) else (E0, (t.ln, t.cl), 7)
    | none => (E0, (0, 0), 0)
  | .no j => match l[j]? with
    | some t => (E0, (t.ln, t.cl), if t.k = 5 then 8 else 7)
    | none => (E0, (0, 0), 0)
  | .out => (E0, (0, 0), 0)
def exprTop (s : Str) : Ex × (Int × Int) × Int := if (tokensS s).2.2 = 0 then topT (tokensS s).1 else (E0, (tokensS s).2.1, (tokensS s).2.2)
section
variable {l : List Tok} (hl : GoodL l)
include hl
theorem pend_ok {i : Nat} {t : Tok} (ht : l[i]? = some t) (b : Bool) : FnOK Tryz.prog 29 [rdV] [(0, rdR l i b)] (.tup [posS (if b = false ∧ t.k = 5 then (0, 0) else (t.ln, t.cl)), I (if t.k = 5 then if b then 8 else 0 else 7)]) [(0, rdR l i b)] := by
  have hll := hl.len
  have hi := (List.getElem?_eq_some_iff.1 ht).1
  obtain ⟨tk, ts, tn, tl, tc⟩ := t
  simp only
  by_cases hk : tk = 5
  · subst hk
    cases b with
    | true =>
      refine fn_ok T Tryz.func29 (by kernel_rfl) rfl rfl rfl rfl fun C hC => ?_
      repeat' first | refine g_go T hC true 400 rfl rfl ?_ | (exfalso; simp at h; done) | refine g_cond rfl (fun h => ?_) (fun h => ?_) | refine g_end T hC (by kernel_rfl) ?_ | refine g_splitD (fun h => ?_) (fun h => ?_) | refine g_splitG rfl rfl rfl (fun h => ?_) (fun h => ?_) | refine g_splitP rfl rfl (fun h => ?_) (fun h => ?_) | refine g_idx T hC rfl rfl rfl (Int.natCast_nonneg _) (map_at ht) rfl rfl ?_ | refine g_retl T (.inl rfl) rfl ?_
      exact g_fin ⟨.inl rfl, id, _, rfl, .refl _, ⟨rfl, trivial⟩, rfl, rfl⟩
    | false =>
      refine fn_ok T Tryz.func29 (by kernel_rfl) rfl rfl rfl rfl fun C hC => ?_
      repeat' first | refine g_go T hC true 400 rfl rfl ?_ | (exfalso; simp at h; done) | refine g_cond rfl (fun h => ?_) (fun h => ?_) | refine g_end T hC (by kernel_rfl) ?_ | refine g_splitD (fun h => ?_) (fun h => ?_) | refine g_splitG rfl rfl rfl (fun h => ?_) (fun h => ?_) | refine g_splitP rfl rfl (fun h => ?_) (fun h => ?_) | refine g_idx T hC rfl rfl rfl (Int.natCast_nonneg _) (map_at ht) rfl rfl ?_ | refine g_retl T (.inl rfl) rfl ?_
      exact g_fin ⟨.inl rfl, id, _, rfl, .refl _, ⟨rfl, trivial⟩, rfl, rfl⟩
  · simp only [hk, and_false, if_false]
    cases b with
    | true =>
      refine fn_ok T Tryz.func29 (by kernel_rfl) rfl rfl rfl rfl fun C hC => ?_
      repeat' first | refine g_go T hC true 400 rfl rfl ?_ | (exfalso; exact absurd (of_decide_eq_true h) hk) | refine g_cond rfl (fun h => ?_) (fun h => ?_) | refine g_end T hC (by kernel_rfl) ?_ | refine g_splitD (fun h => ?_) (fun h => ?_) | refine g_splitG rfl rfl rfl (fun h => ?_) (fun h => ?_) | refine g_splitP rfl rfl (fun h => ?_) (fun h => ?_) | refine g_idx T hC rfl rfl rfl (Int.natCast_nonneg _) (map_at ht) rfl rfl ?_ | refine g_retl T (.inl rfl) rfl ?_
      exact g_fin ⟨.inl rfl, id, _, rfl, .refl _, ⟨rfl, trivial⟩, rfl, rfl⟩
    | false =>
      refine fn_ok T Tryz.func29 (by kernel_rfl) rfl rfl rfl rfl fun C hC => ?_
      repeat' first | refine g_go T hC true 400 rfl rfl ?_ | (exfalso; exact absurd (of_decide_eq_true h) hk) | refine g_cond rfl (fun h => ?_) (fun h => ?_) | refine g_end T hC (by kernel_rfl) ?_ | refine g_splitD (fun h => ?_) (fun h => ?_) | refine g_splitG rfl rfl rfl (fun h => ?_) (fun h => ?_) | refine g_splitP rfl rfl (fun h => ?_) (fun h => ?_) | refine g_idx T hC rfl rfl rfl (Int.natCast_nonneg _) (map_at ht) rfl rfl ?_ | refine g_retl T (.inl rfl) rfl ?_
      exact g_fin ⟨.inl rfl, id, _, rfl, .refl _, ⟨rfl, trivial⟩, rfl, rfl⟩
end
theorem le3b {p q e : Int} : LeS (.tup [.agg [.p (ki 0), .p (ki 0), .p (ks (⟨#[]⟩ : ByteArray)), .p (.k (.slice none 0 0))], posS (p, q), I e]) (.tup [enE E0, posS (p, q), I e]) := .tup (.cons le_e0 (.cons (.refl _) (.cons (.refl _) .nil)))
theorem parserExpr_ok (s : Str) (hs : s.size ≤ 1000000) : FnOK Tryz.prog 13 [Sr s] [] (.tup [enE (exprTop s).1, posS (exprTop s).2.1, I (exprTop s).2.2]) [] := by
  have hT := lexTokens_ok s hs
  unfold exprTop
  rcases tokens_good s with ⟨l, he, hl, _⟩ | ⟨⟨q1, q2⟩, e, he, h74⟩
  · rw [he] at hT ⊢
    simp only [if_true] at hT ⊢
    have h0 : 0 < l.length := by
      obtain ⟨t, ht, _⟩ := hl.fin
      have := (List.getElem?_eq_some_iff.1 ht).1
      omega
    unfold topT
    have hout := (expr_fuel (l := l) (10 * l.length + 13)).1 0 0 (by decide) (by omega)
    have hJ := (er_expr (l := l) (10 * l.length + 13)).1 0 0
    cases hx : exprJ l (10 * l.length + 13) 0 0 with
    | none => rw [hx] at hJ; exact absurd hJ.symm hout
    | some q =>
      obtain ⟨x, j, b⟩ := q
      obtain ⟨hj, hE⟩ := pwhole_ok hl (ex_all hl _) 0 h0 _ _ _ hx
      obtain ⟨t, ht⟩ := exists_at hj
      have hEnd := pend_ok hl ht b
      rw [hx] at hJ
      cases b with
      | true =>
        have hA : exprA l (10 * l.length + 13) 0 0 = .no j := hJ.symm
        rw [hA]
        simp only [ht]
        simp only [reduceCtorEq, false_and, if_false, if_true] at hEnd
        by_cases h5 : t.k = 5
        · simp only [h5, if_true] at hEnd ⊢
          refine fn_ok T Tryz.func13 (by kernel_rfl) rfl rfl rfl rfl fun C hC => ?_
          repeat' first | refine g_go T hC true 400 rfl rfl ?_ | (exfalso; simp at h; done) | refine g_cond rfl (fun h => ?_) (fun h => ?_) | refine g_end T hC (by kernel_rfl) ?_ | refine g_splitD (fun h => ?_) (fun h => ?_) | refine g_call hC (hT) rfl rfl (LeSs.refl _) rfl rfl rfl ?_ | refine g_callR hC (hE) (nm [1025]) rfl rfl (LeSs.refl _) rfl rfl rfl rfl rfl rfl rfl rfl ?_ | refine g_callR hC (hEnd) (nm [1025]) rfl rfl (LeSs.refl _) rfl rfl rfl rfl rfl rfl rfl rfl ?_ | refine g_retl T (.inl rfl) rfl ?_
          exact g_fin ⟨.inl rfl, id, _, rfl, le3b, trivial, rfl, rfl⟩
        · simp only [h5, if_false] at hEnd ⊢
          refine fn_ok T Tryz.func13 (by kernel_rfl) rfl rfl rfl rfl fun C hC => ?_
          repeat' first | refine g_go T hC true 400 rfl rfl ?_ | (exfalso; simp at h; done) | refine g_cond rfl (fun h => ?_) (fun h => ?_) | refine g_end T hC (by kernel_rfl) ?_ | refine g_splitD (fun h => ?_) (fun h => ?_) | refine g_call hC (hT) rfl rfl (LeSs.refl _) rfl rfl rfl ?_ | refine g_callR hC (hE) (nm [1025]) rfl rfl (LeSs.refl _) rfl rfl rfl rfl rfl rfl rfl rfl ?_ | refine g_callR hC (hEnd) (nm [1025]) rfl rfl (LeSs.refl _) rfl rfl rfl rfl rfl rfl rfl rfl ?_ | refine g_retl T (.inl rfl) rfl ?_
          exact g_fin ⟨.inl rfl, id, _, rfl, le3b, trivial, rfl, rfl⟩
      | false =>
        have hA : exprA l (10 * l.length + 13) 0 0 = .ok x j := hJ.symm
        rw [hA]
        simp only [ht]
        have hV := validExpr_ok x
        by_cases h5 : t.k = 5
        · simp only [h5, and_self, if_true, Bool.false_eq_true, if_false] at hEnd ⊢
          by_cases hv : exprOk x = true
          · rw [if_pos hv]
            rw [hv] at hV
            refine fn_ok T Tryz.func13 (by kernel_rfl) rfl rfl rfl rfl fun C hC => ?_
            repeat' first | refine g_go T hC true 400 rfl rfl ?_ | (exfalso; simp at h; done) | refine g_cond rfl (fun h => ?_) (fun h => ?_) | refine g_end T hC (by kernel_rfl) ?_ | refine g_splitD (fun h => ?_) (fun h => ?_) | refine g_call hC (hT) rfl rfl (LeSs.refl _) rfl rfl rfl ?_ | refine g_callR hC (hE) (nm [1025]) rfl rfl (LeSs.refl _) rfl rfl rfl rfl rfl rfl rfl rfl ?_ | refine g_callR hC (hEnd) (nm [1025]) rfl rfl (LeSs.refl _) rfl rfl rfl rfl rfl rfl rfl rfl ?_ | refine g_call hC (hV) rfl rfl (LeSs.refl _) rfl rfl rfl ?_ | refine g_retl T (.inl rfl) rfl ?_
            exact g_fin ⟨.inl rfl, id, _, rfl, .refl _, trivial, rfl, rfl⟩
          · rw [if_neg hv]
            rw [Bool.not_eq_true] at hv
            rw [hv] at hV
            refine fn_ok T Tryz.func13 (by kernel_rfl) rfl rfl rfl rfl fun C hC => ?_
            repeat' first | refine g_go T hC true 400 rfl rfl ?_ | (exfalso; simp at h; done) | refine g_cond rfl (fun h => ?_) (fun h => ?_) | refine g_end T hC (by kernel_rfl) ?_ | refine g_splitD (fun h => ?_) (fun h => ?_) | refine g_call hC (hT) rfl rfl (LeSs.refl _) rfl rfl rfl ?_ | refine g_callR hC (hE) (nm [1025]) rfl rfl (LeSs.refl _) rfl rfl rfl rfl rfl rfl rfl rfl ?_ | refine g_callR hC (hEnd) (nm [1025]) rfl rfl (LeSs.refl _) rfl rfl rfl rfl rfl rfl rfl rfl ?_ | refine g_call hC (hV) rfl rfl (LeSs.refl _) rfl rfl rfl ?_ | refine g_retl T (.inl rfl) rfl ?_
            exact g_fin ⟨.inl rfl, id, _, rfl, le3b, trivial, rfl, rfl⟩
        · simp only [h5, and_false, if_false] at hEnd ⊢
          refine fn_ok T Tryz.func13 (by kernel_rfl) rfl rfl rfl rfl fun C hC => ?_
          repeat' first | refine g_go T hC true 400 rfl rfl ?_ | (exfalso; simp at h; done) | refine g_cond rfl (fun h => ?_) (fun h => ?_) | refine g_end T hC (by kernel_rfl) ?_ | refine g_splitD (fun h => ?_) (fun h => ?_) | refine g_call hC (hT) rfl rfl (LeSs.refl _) rfl rfl rfl ?_ | refine g_callR hC (hE) (nm [1025]) rfl rfl (LeSs.refl _) rfl rfl rfl rfl rfl rfl rfl rfl ?_ | refine g_callR hC (hEnd) (nm [1025]) rfl rfl (LeSs.refl _) rfl rfl rfl rfl rfl rfl rfl rfl ?_ | refine g_retl T (.inl rfl) rfl ?_
          exact g_fin ⟨.inl rfl, id, _, rfl, le3b, trivial, rfl, rfl⟩
  · rw [he] at hT ⊢
    simp only at hT ⊢
    have h0 : ¬ e = 0 := by omega
    rw [if_neg h0]
    refine fn_ok T Tryz.func13 (by kernel_rfl) rfl rfl rfl rfl fun C hC => ?_
    repeat' first | refine g_go T hC true 400 rfl rfl ?_ | (exfalso; exact absurd (by simpa using h) h0) | refine g_cond rfl (fun h => ?_) (fun h => ?_) | refine g_end T hC (by kernel_rfl) ?_ | refine g_splitD (fun h => ?_) (fun h => ?_) | refine g_call hC (hT) rfl rfl (LeSs.refl _) rfl rfl rfl ?_ | refine g_retl T (.inl rfl) rfl ?_
    exact g_fin ⟨.inl rfl, id, _, rfl, le3b, trivial, rfl, rfl⟩
end Hw.Pa
namespace Hw.Pa
open Go Go.Proofs Hw.M

end Hw.Pa
namespace Hw.Pa
open Go Go.Proofs Hw.M

def F5 (x : Ex) : Prop := x.op = 5 → ∃ y, x.l = [y]
theorem F5.of {op n : Int} {s : Str} {l : List Ex} (h : op ≠ 5) : F5 (.mk op n s l) := fun e => absurd e h
theorem F5.one {op n : Int} {s : Str} {y : Ex} : F5 (.mk op n s [y]) := fun _ => ⟨y, rfl⟩
theorem opA_big {l : List Tok} {i n : Nat} {op : Int} (h : opA l i n = some op) : 9 ≤ op := by
  unfold opA at h
  rw [Option.map_eq_some_iff] at h
  obtain ⟨a, h1, rfl⟩ := h
  have hm := List.mem_of_find?_eq_some h1
  have : ∀ n, ∀ a ∈ opsA n, 9 ≤ a.2 := by
    intro n
    by_cases h : n < 6
    · have : n = 0 ∨ n = 1 ∨ n = 2 ∨ n = 3 ∨ n = 4 ∨ n = 5 := by omega
      rcases this with rfl | rfl | rfl | rfl | rfl | rfl <;> decide
    · have : opsA n = [] := by unfold opsA; split <;> first | omega | rfl
      rw [this]; simp
  exact this n a hm
section
variable {l : List Tok}
theorem five : ∀ f : Nat, (∀ n i x j, exprA l f n i = .ok x j → F5 x) ∧ (∀ n y i x j, F5 y → moreA l f n y i = .ok x j → F5 x) ∧ (∀ i x j, postA l f i = .ok x j → F5 x) ∧ (∀ y i x j, F5 y → dotsA l f y i = .ok x j → F5 x) ∧ (∀ i x j, primA l f i = .ok x j → F5 x) := by
  intro f
  induction f with
  | zero =>
    refine ⟨fun n i x j h => ?_, fun n y i x j _ h => ?_, fun i x j h => ?_, fun y i x j _ h => ?_, fun i x j h => ?_⟩
    all_goals simp only [exprA, moreA, postA, dotsA, primA, reduceCtorEq] at h
  | succ f ih =>
    obtain ⟨iE, iM, iP, iD, iR⟩ := ih
    refine ⟨fun n i x j h => ?_, fun n y i x j hy h => ?_, fun i x j h => ?_, fun y i x j hy h => ?_, fun i x j h => ?_⟩
    · unfold exprA at h
      split at h
      · split at h
        · obtain ⟨y, k, h1, h⟩ := bind_ok h
          cases h; exact .one
        · exact iE _ _ _ _ h
      · split at h
        · split at h
          · obtain ⟨y, k, h1, h⟩ := bind_ok h
            cases h; exact .one
          · exact iP _ _ _ h
        · obtain ⟨y, k, h1, h⟩ := bind_ok h
          exact iM _ _ _ _ _ (iE _ _ _ _ h1) h
    · unfold moreA at h
      split at h
      · cases h; exact hy
      · rename_i op ho
        have hb := opA_big ho
        obtain ⟨z, k, h1, h⟩ := bind_ok h
        split at h
        · cases h; exact .of (by omega)
        · exact iM _ _ _ _ _ (.of (by omega)) h
    · unfold postA at h
      obtain ⟨y, k, h1, h⟩ := bind_ok h
      exact iD _ _ _ _ (iR _ _ _ h1) h
    · unfold dotsA at h
      split at h
      · obtain ⟨s, k, h1, h⟩ := bind_ok h
        exact iD _ _ _ _ .one h
      · cases h; exact hy
    · unfold primA at h
      cases hl : l[i]? with
      | none => rw [hl] at h; cases h
      | some t =>
      rw [hl] at h
      simp only at h
      rcases ite_ok h with ⟨_, h⟩ | ⟨_, h⟩
      · cases h; exact .of (by decide)
      rcases ite_ok h with ⟨_, h⟩ | ⟨_, h⟩
      · rcases ite_ok h with ⟨_, h⟩ | ⟨_, h⟩
        · obtain ⟨a, k, h1, h⟩ := bind_ok h; cases h; exact .of (by decide)
        · cases h; exact .of (by decide)
      rcases ite_ok h with ⟨_, h⟩ | ⟨_, h⟩
      · cases h; exact .of (by decide)
      rcases ite_ok h with ⟨_, h⟩ | ⟨_, h⟩
      · cases h; exact .of (by decide)
      rcases ite_ok h with ⟨_, h⟩ | ⟨_, h⟩
      · cases h; exact .of (by decide)
      rcases ite_ok h with ⟨_, h⟩ | ⟨_, h⟩
      · cases h; exact .of (by decide)
      rcases ite_ok h with ⟨_, h⟩ | ⟨_, h⟩
      · obtain ⟨a, k, h1, h⟩ := bind_ok h; cases h; exact .of (by decide)
      rcases ite_ok h with ⟨_, h⟩ | ⟨_, h⟩
      · obtain ⟨a, k, h1, h⟩ := bind_ok h; cases h; exact .of (by decide)
      rcases ite_ok h with ⟨_, h⟩ | ⟨_, h⟩
      · obtain ⟨a, k, h1, h⟩ := bind_ok h; cases h; exact .of (by decide)
      rcases ite_ok h with ⟨_, h⟩ | ⟨_, h⟩
      · obtain ⟨a, k, h1, h⟩ := bind_ok h; cases h; exact .of (by decide)
      rcases ite_ok h with ⟨_, h⟩ | ⟨_, h⟩
      · obtain ⟨a, k, h1, h⟩ := bind_ok h; cases h; exact .of (by decide)
      rcases ite_ok h with ⟨_, h⟩ | ⟨_, h⟩
      · obtain ⟨a, k, h1, h⟩ := bind_ok h; obtain ⟨u, k2, h2, h⟩ := bind_ok h; cases h; exact iE _ _ _ _ h1
      · cases h
theorem post_five {f i : Nat} {x : Ex} {j : Nat} (h : postJ l f i = some (x, j, false)) : F5 x := by
  have := ok_er h
  rw [(er_expr f).2.2.1] at this
  exact (five f).2.2.1 _ _ _ this
end
end Hw.Pa
namespace Hw.Pa
open Go Go.Proofs Hw.M

section
variable {l : List Tok} (hl : GoodL l)
include hl
set_option maxHeartbeats 2000000 in
theorem pstmt_post (f i : Nat) (hi : i < l.length) (h1 : ¬ isA l i (⟨#[105, 102]⟩ : ByteArray) = true) (h2 : ¬ isA l i (⟨#[119, 104, 105, 108, 101]⟩ : ByteArray) = true) (h3 : ¬ isA l i (⟨#[114, 101, 116, 117, 114, 110]⟩ : ByteArray) = true) {xf : Sm} {jf : Nat} {bf : Bool}
    (hR : PJ.go (postJ l f i) (fun x i =>
      if isA l i (⟨#[61]⟩ : ByteArray) = true ∧ x.op = 4 ∧ x.s ≠ (⟨#[116, 104, 105, 115]⟩ : ByteArray) then PJ.go (exprJ l f 0 (i + 1)) (fun y i => PJ.go (oneJ l (⟨#[59]⟩ : ByteArray) i) (fun _ i => .ok (.mk 1 x.s [y] [] []) i) (fun _ => .mk 1 x.s [y] [] [])) (fun y => .mk 1 x.s [y] [] [])
      else if isA l i (⟨#[61]⟩ : ByteArray) = true ∧ x.op = 5 then PJ.go (exprJ l f 0 (i + 1)) (fun y i => PJ.go (oneJ l (⟨#[59]⟩ : ByteArray) i) (fun _ i => .ok (.mk 2 x.s (x.l.take 1 ++ [y]) [] []) i) (fun _ => .mk 2 x.s (x.l.take 1 ++ [y]) [] [])) (fun y => .mk 2 x.s (x.l.take 1 ++ [y]) [] [])
      else if x.op = 7 then PJ.go (oneJ l (⟨#[59]⟩ : ByteArray) i) (fun _ i => .ok (.mk 6 (⟨#[]⟩ : ByteArray) [x] [] []) i) (fun _ => .mk 6 (⟨#[]⟩ : ByteArray) [x] [] [])
      else .no (.mk 6 (⟨#[]⟩ : ByteArray) [x] [] []) i) (fun x => .mk 6 (⟨#[]⟩ : ByteArray) [x] [] []) = some (xf, jf, bf)) :
    FnOK Tryz.prog 143 [rdV] [(0, rdR l i false)] (aggS (stmtC xf)) [(0, rdR l jf bf)] := by
  have hll := hl.len
  have hX := ex_all hl f
  obtain ⟨x, k, b, hx, hg, hb⟩ := go_key hR
  obtain ⟨hk, hP⟩ := hX.post i hi _ _ _ hx
  cases b with
  | true =>
    obtain ⟨rfl, rfl, rfl⟩ := hb rfl
    obtain ⟨op, n, s, L⟩ := x
    refine fn_ok T Tryz.func143 (by kernel_rfl) rfl rfl rfl rfl fun C hC => ?_
    repeat' first | refine g_go T hC true 400 rfl rfl ?_ | (exfalso; simp at h; done) | refine g_cond rfl (fun h => ?_) (fun h => ?_) | refine g_end T hC (by kernel_rfl) ?_ | refine g_splitD (fun h => ?_) (fun h => ?_) | refine g_splitG rfl rfl rfl (fun h => ?_) (fun h => ?_) | refine g_splitP rfl rfl (fun h => ?_) (fun h => ?_) | refine g_callR hC ((pskip_n hl hi (by assumption))) (nm [0]) rfl rfl (LeSs.refl _) rfl rfl rfl rfl rfl rfl rfl rfl ?_ | refine g_callR hC (hP) (nm [0]) rfl rfl (LeSs.refl _) rfl rfl rfl rfl rfl rfl rfl rfl ?_ | refine g_lit T hC (rows := [exprR (.mk op n s L)]) rfl rfl rfl (by simp only [exprR_eq]; rfl) rfl rfl rfl rfl rfl ?_ | refine g_callR hC ((pskip_bad hl _ hk _)) (nm [0]) rfl rfl (LeSs.refl _) rfl rfl rfl rfl rfl rfl rfl rfl ?_ | refine g_callR hC ((ptake_bad hl _ hk _)) (nm [0]) rfl rfl (LeSs.refl _) rfl rfl rfl rfl rfl rfl rfl rfl ?_ | refine g_retl T (.inl rfl) rfl ?_
    all_goals (exact g_fin ⟨.inl rfl, id, _, rfl, .agg (.cons (.refl _) (.cons (.refl _) (.cons (.refl _) (.cons (.nil 5) (.cons (.nil 5) .nil))))), ⟨rfl, trivial⟩, rfl, rfl⟩)
  | false =>
    have h5 := post_five hx
    have hd := hg rfl
    clear hg hb hR hx
    obtain ⟨op, n, s, L⟩ := x
    simp only [Ex.op, Ex.s, Ex.l] at hd
    simp only [F5, Ex.op, Ex.l] at h5
    by_cases h4 : op = 4
    · subst h4
      simp only [true_and, reduceCtorEq, and_false, if_false, show ¬ ((4 : Int) = 5) by decide, show ¬ ((4 : Int) = 7) by decide] at hd
      by_cases ht : s = (⟨#[116, 104, 105, 115]⟩ : ByteArray)
      · simp only [ht, ne_eq, not_true_eq_false, and_false, if_false] at hd
        subst ht
        have hd' : xf = .mk 6 (⟨#[]⟩ : ByteArray) [.mk 4 n (⟨#[116, 104, 105, 115]⟩ : ByteArray) L] [] [] ∧ jf = k ∧ bf = true := by cases hd; exact ⟨rfl, rfl, rfl⟩
        obtain ⟨rfl, rfl, rfl⟩ := hd'
        refine fn_ok T Tryz.func143 (by kernel_rfl) rfl rfl rfl rfl fun C hC => ?_
        repeat' first | refine g_go T hC true 400 rfl rfl ?_ | (exfalso; simp [Ex.op, Ex.s] at h; done) | refine g_cond rfl (fun h => ?_) (fun h => ?_) | refine g_end T hC (by kernel_rfl) ?_ | refine g_splitD (fun h => ?_) (fun h => ?_) | refine g_splitG rfl rfl rfl (fun h => ?_) (fun h => ?_) | refine g_splitP rfl rfl (fun h => ?_) (fun h => ?_) | refine g_callR hC ((pskip_n hl hi (by assumption))) (nm [0]) rfl rfl (LeSs.refl _) rfl rfl rfl rfl rfl rfl rfl rfl ?_ | refine g_callR hC (hP) (nm [0]) rfl rfl (LeSs.refl _) rfl rfl rfl rfl rfl rfl rfl rfl ?_ | refine g_lit T hC (rows := [exprR (.mk 4 n (⟨#[116, 104, 105, 115]⟩ : ByteArray) L)]) rfl rfl rfl (by simp only [exprR_eq]; rfl) rfl rfl rfl rfl rfl ?_ | refine g_callR hC ((pskip_n hl hk (by assumption))) (nm [0]) rfl rfl (LeSs.refl _) rfl rfl rfl rfl rfl rfl rfl rfl ?_ | refine g_callR hC ((ptake_bad hl _ hk _)) (nm [0]) rfl rfl (LeSs.refl _) rfl rfl rfl rfl rfl rfl rfl rfl ?_ | refine g_retl T (.inl rfl) rfl ?_
        all_goals (exact g_fin ⟨.inl rfl, id, _, rfl, .agg (.cons (.refl _) (.cons (.refl _) (.cons (.refl _) (.cons (.nil 5) (.cons (.nil 5) .nil))))), ⟨rfl, trivial⟩, rfl, rfl⟩)
      · by_cases hs : isA l k (⟨#[61]⟩ : ByteArray) = true
        · rw [if_pos ⟨hs, ht⟩] at hd
          obtain ⟨y, k1, b1, hy, hg1, hb1⟩ := go_key hd
          obtain ⟨hk1, hE⟩ := pwhole_ok hl hX _ (isA_next hl hs) _ _ _ hy
          cases b1 with
          | true =>
            obtain ⟨rfl, rfl, rfl⟩ := hb1 rfl
            refine fn_ok T Tryz.func143 (by kernel_rfl) rfl rfl rfl rfl fun C hC => ?_
            repeat' first | refine g_go T hC true 400 rfl rfl ?_ | (exfalso; simp [Ex.op, Ex.s, ht] at h; done) | refine g_cond rfl (fun h => ?_) (fun h => ?_) | refine g_end T hC (by kernel_rfl) ?_ | refine g_splitD (fun h => ?_) (fun h => ?_) | refine g_splitG rfl rfl rfl (fun h => ?_) (fun h => ?_) | refine g_splitP rfl rfl (fun h => ?_) (fun h => ?_) | refine g_callR hC ((pskip_n hl hi (by assumption))) (nm [0]) rfl rfl (LeSs.refl _) rfl rfl rfl rfl rfl rfl rfl rfl ?_ | refine g_callR hC (hP) (nm [0]) rfl rfl (LeSs.refl _) rfl rfl rfl rfl rfl rfl rfl rfl ?_ | refine g_lit T hC (rows := [exprR (.mk 4 n s L)]) rfl rfl rfl (by simp only [exprR_eq]; rfl) rfl rfl rfl rfl rfl ?_ | refine g_callR hC ((pskip_y hl hs)) (nm [0]) rfl rfl (LeSs.refl _) rfl rfl rfl rfl rfl rfl rfl rfl ?_ | refine g_callR hC (hE) (nm [0]) rfl rfl (LeSs.refl _) rfl rfl rfl rfl rfl rfl rfl rfl ?_ | refine g_lit T hC (rows := [exprR y]) rfl rfl rfl (by simp only [exprR_eq]; rfl) rfl rfl rfl rfl rfl ?_ | refine g_callR hC ((ptake_bad hl _ hk1 _)) (nm [0]) rfl rfl (LeSs.refl _) rfl rfl rfl rfl rfl rfl rfl rfl ?_ | refine g_retl T (.inl rfl) rfl ?_
            exact g_fin ⟨.inl rfl, id, _, rfl, .agg (.cons (.refl _) (.cons (.refl _) (.cons (.refl _) (.cons (.nil 5) (.cons (.nil 5) .nil))))), ⟨rfl, trivial⟩, rfl, rfl⟩
          | false =>
            obtain ⟨u, k2, b2, h4, h6, h7⟩ := go_key (hg1 rfl)
            obtain ⟨_, hT⟩ := ptake_ok hl _ hk1 _ _ _ _ h4
            have hfin : xf = .mk 1 s [y] [] [] ∧ jf = k2 ∧ bf = b2 := by
              cases b2 with
              | false => have e := h6 rfl; cases e; exact ⟨rfl, rfl, rfl⟩
              | true => exact h7 rfl
            obtain ⟨rfl, rfl, rfl⟩ := hfin
            refine fn_ok T Tryz.func143 (by kernel_rfl) rfl rfl rfl rfl fun C hC => ?_
            repeat' first | refine g_go T hC true 400 rfl rfl ?_ | (exfalso; simp [Ex.op, Ex.s, ht] at h; done) | refine g_cond rfl (fun h => ?_) (fun h => ?_) | refine g_end T hC (by kernel_rfl) ?_ | refine g_splitD (fun h => ?_) (fun h => ?_) | refine g_splitG rfl rfl rfl (fun h => ?_) (fun h => ?_) | refine g_splitP rfl rfl (fun h => ?_) (fun h => ?_) | refine g_callR hC ((pskip_n hl hi (by assumption))) (nm [0]) rfl rfl (LeSs.refl _) rfl rfl rfl rfl rfl rfl rfl rfl ?_ | refine g_callR hC (hP) (nm [0]) rfl rfl (LeSs.refl _) rfl rfl rfl rfl rfl rfl rfl rfl ?_ | refine g_lit T hC (rows := [exprR (.mk 4 n s L)]) rfl rfl rfl (by simp only [exprR_eq]; rfl) rfl rfl rfl rfl rfl ?_ | refine g_callR hC ((pskip_y hl hs)) (nm [0]) rfl rfl (LeSs.refl _) rfl rfl rfl rfl rfl rfl rfl rfl ?_ | refine g_callR hC (hE) (nm [0]) rfl rfl (LeSs.refl _) rfl rfl rfl rfl rfl rfl rfl rfl ?_ | refine g_lit T hC (rows := [exprR y]) rfl rfl rfl (by simp only [exprR_eq]; rfl) rfl rfl rfl rfl rfl ?_ | refine g_callR hC (hT) (nm [0]) rfl rfl (LeSs.refl _) rfl rfl rfl rfl rfl rfl rfl rfl ?_ | refine g_retl T (.inl rfl) rfl ?_
            exact g_fin ⟨.inl rfl, id, _, rfl, .agg (.cons (.refl _) (.cons (.refl _) (.cons (.refl _) (.cons (.nil 5) (.cons (.nil 5) .nil))))), ⟨rfl, trivial⟩, rfl, rfl⟩
        · simp only [hs, false_and, if_false] at hd
          have hd' : xf = .mk 6 (⟨#[]⟩ : ByteArray) [.mk 4 n s L] [] [] ∧ jf = k ∧ bf = true := by cases hd; exact ⟨rfl, rfl, rfl⟩
          obtain ⟨rfl, rfl, rfl⟩ := hd'
          refine fn_ok T Tryz.func143 (by kernel_rfl) rfl rfl rfl rfl fun C hC => ?_
          repeat' first | refine g_go T hC true 400 rfl rfl ?_ | (exfalso; simp [Ex.op, Ex.s, ht] at h; done) | refine g_cond rfl (fun h => ?_) (fun h => ?_) | refine g_end T hC (by kernel_rfl) ?_ | refine g_splitD (fun h => ?_) (fun h => ?_) | refine g_splitG rfl rfl rfl (fun h => ?_) (fun h => ?_) | refine g_splitP rfl rfl (fun h => ?_) (fun h => ?_) | refine g_callR hC ((pskip_n hl hi (by assumption))) (nm [0]) rfl rfl (LeSs.refl _) rfl rfl rfl rfl rfl rfl rfl rfl ?_ | refine g_callR hC (hP) (nm [0]) rfl rfl (LeSs.refl _) rfl rfl rfl rfl rfl rfl rfl rfl ?_ | refine g_lit T hC (rows := [exprR (.mk 4 n s L)]) rfl rfl rfl (by simp only [exprR_eq]; rfl) rfl rfl rfl rfl rfl ?_ | refine g_callR hC ((pskip_n hl hk (by assumption))) (nm [0]) rfl rfl (LeSs.refl _) rfl rfl rfl rfl rfl rfl rfl rfl ?_ | refine g_callR hC ((ptake_bad hl _ hk _)) (nm [0]) rfl rfl (LeSs.refl _) rfl rfl rfl rfl rfl rfl rfl rfl ?_ | refine g_retl T (.inl rfl) rfl ?_
          all_goals (exact g_fin ⟨.inl rfl, id, _, rfl, .agg (.cons (.refl _) (.cons (.refl _) (.cons (.refl _) (.cons (.nil 5) (.cons (.nil 5) .nil))))), ⟨rfl, trivial⟩, rfl, rfl⟩)
    simp only [h4, false_and, and_false, if_false] at hd
    by_cases h55 : op = 5
    · subst h55
      obtain ⟨y0, rfl⟩ := h5 rfl
      simp only [and_true, show ¬ ((5 : Int) = 7) by decide, if_false] at hd
      by_cases hs : isA l k (⟨#[61]⟩ : ByteArray) = true
      · rw [if_pos hs] at hd
        obtain ⟨y, k1, b1, hy, hg1, hb1⟩ := go_key hd
        obtain ⟨hk1, hE⟩ := pwhole_ok hl hX _ (isA_next hl hs) _ _ _ hy
        cases b1 with
        | true =>
          obtain ⟨rfl, rfl, rfl⟩ := hb1 rfl
          refine fn_ok T Tryz.func143 (by kernel_rfl) rfl rfl rfl rfl fun C hC => ?_
          repeat' first | refine g_go T hC true 400 rfl rfl ?_ | (exfalso; simp [Ex.op, Ex.s] at h; done) | refine g_cond rfl (fun h => ?_) (fun h => ?_) | refine g_end T hC (by kernel_rfl) ?_ | refine g_splitD (fun h => ?_) (fun h => ?_) | refine g_splitG rfl rfl rfl (fun h => ?_) (fun h => ?_) | refine g_splitP rfl rfl (fun h => ?_) (fun h => ?_) | refine g_callR hC ((pskip_n hl hi (by assumption))) (nm [0]) rfl rfl (LeSs.refl _) rfl rfl rfl rfl rfl rfl rfl rfl ?_ | refine g_callR hC (hP) (nm [0]) rfl rfl (LeSs.refl _) rfl rfl rfl rfl rfl rfl rfl rfl ?_ | refine g_lit T hC (rows := [exprR (.mk 5 n s [y0])]) rfl rfl rfl (by simp only [exprR_eq]; rfl) rfl rfl rfl rfl rfl ?_ | refine g_callR hC ((pskip_y hl hs)) (nm [0]) rfl rfl (LeSs.refl _) rfl rfl rfl rfl rfl rfl rfl rfl ?_ | refine g_idx T hC (row := exprC y0) rfl rfl rfl (Int.le_refl _) (map_atE (l := [y0]) (i := 0) rfl) rfl rfl ?_ | refine g_callR hC (hE) (nm [0]) rfl rfl (LeSs.refl _) rfl rfl rfl rfl rfl rfl rfl rfl ?_ | refine g_lit T hC (rows := [exprR y0, exprR y]) rfl rfl rfl (by simp only [exprR_eq]; rfl) rfl rfl rfl rfl rfl ?_ | refine g_callR hC ((ptake_bad hl _ hk1 _)) (nm [0]) rfl rfl (LeSs.refl _) rfl rfl rfl rfl rfl rfl rfl rfl ?_ | refine g_retl T (.inl rfl) rfl ?_
          exact g_fin ⟨.inl rfl, id, _, rfl, .agg (.cons (.refl _) (.cons (.refl _) (.cons (.refl _) (.cons (.nil 5) (.cons (.nil 5) .nil))))), ⟨rfl, trivial⟩, rfl, rfl⟩
        | false =>
          obtain ⟨u, k2, b2, h4, h6, h7⟩ := go_key (hg1 rfl)
          obtain ⟨_, hT⟩ := ptake_ok hl _ hk1 _ _ _ _ h4
          have hfin : xf = .mk 2 s [y0, y] [] [] ∧ jf = k2 ∧ bf = b2 := by
            cases b2 with
            | false => have e := h6 rfl; cases e; exact ⟨rfl, rfl, rfl⟩
            | true => exact h7 rfl
          obtain ⟨rfl, rfl, rfl⟩ := hfin
          refine fn_ok T Tryz.func143 (by kernel_rfl) rfl rfl rfl rfl fun C hC => ?_
          repeat' first | refine g_go T hC true 400 rfl rfl ?_ | (exfalso; simp [Ex.op, Ex.s] at h; done) | refine g_cond rfl (fun h => ?_) (fun h => ?_) | refine g_end T hC (by kernel_rfl) ?_ | refine g_splitD (fun h => ?_) (fun h => ?_) | refine g_splitG rfl rfl rfl (fun h => ?_) (fun h => ?_) | refine g_splitP rfl rfl (fun h => ?_) (fun h => ?_) | refine g_callR hC ((pskip_n hl hi (by assumption))) (nm [0]) rfl rfl (LeSs.refl _) rfl rfl rfl rfl rfl rfl rfl rfl ?_ | refine g_callR hC (hP) (nm [0]) rfl rfl (LeSs.refl _) rfl rfl rfl rfl rfl rfl rfl rfl ?_ | refine g_lit T hC (rows := [exprR (.mk 5 n s [y0])]) rfl rfl rfl (by simp only [exprR_eq]; rfl) rfl rfl rfl rfl rfl ?_ | refine g_callR hC ((pskip_y hl hs)) (nm [0]) rfl rfl (LeSs.refl _) rfl rfl rfl rfl rfl rfl rfl rfl ?_ | refine g_idx T hC (row := exprC y0) rfl rfl rfl (Int.le_refl _) (map_atE (l := [y0]) (i := 0) rfl) rfl rfl ?_ | refine g_callR hC (hE) (nm [0]) rfl rfl (LeSs.refl _) rfl rfl rfl rfl rfl rfl rfl rfl ?_ | refine g_lit T hC (rows := [exprR y0, exprR y]) rfl rfl rfl (by simp only [exprR_eq]; rfl) rfl rfl rfl rfl rfl ?_ | refine g_callR hC (hT) (nm [0]) rfl rfl (LeSs.refl _) rfl rfl rfl rfl rfl rfl rfl rfl ?_ | refine g_retl T (.inl rfl) rfl ?_
          exact g_fin ⟨.inl rfl, id, _, rfl, .agg (.cons (.refl _) (.cons (.refl _) (.cons (.refl _) (.cons (.nil 5) (.cons (.nil 5) .nil))))), ⟨rfl, trivial⟩, rfl, rfl⟩
      · rw [if_neg hs] at hd
        have hd' : xf = .mk 6 (⟨#[]⟩ : ByteArray) [.mk 5 n s [y0]] [] [] ∧ jf = k ∧ bf = true := by cases hd; exact ⟨rfl, rfl, rfl⟩
        obtain ⟨rfl, rfl, rfl⟩ := hd'
        refine fn_ok T Tryz.func143 (by kernel_rfl) rfl rfl rfl rfl fun C hC => ?_
        repeat' first | refine g_go T hC true 400 rfl rfl ?_ | (exfalso; simp [Ex.op, Ex.s] at h; done) | refine g_cond rfl (fun h => ?_) (fun h => ?_) | refine g_end T hC (by kernel_rfl) ?_ | refine g_splitD (fun h => ?_) (fun h => ?_) | refine g_splitG rfl rfl rfl (fun h => ?_) (fun h => ?_) | refine g_splitP rfl rfl (fun h => ?_) (fun h => ?_) | refine g_callR hC ((pskip_n hl hi (by assumption))) (nm [0]) rfl rfl (LeSs.refl _) rfl rfl rfl rfl rfl rfl rfl rfl ?_ | refine g_callR hC (hP) (nm [0]) rfl rfl (LeSs.refl _) rfl rfl rfl rfl rfl rfl rfl rfl ?_ | refine g_lit T hC (rows := [exprR (.mk 5 n s [y0])]) rfl rfl rfl (by simp only [exprR_eq]; rfl) rfl rfl rfl rfl rfl ?_ | refine g_callR hC ((pskip_n hl hk (by assumption))) (nm [0]) rfl rfl (LeSs.refl _) rfl rfl rfl rfl rfl rfl rfl rfl ?_ | refine g_callR hC ((ptake_bad hl _ hk _)) (nm [0]) rfl rfl (LeSs.refl _) rfl rfl rfl rfl rfl rfl rfl rfl ?_ | refine g_retl T (.inl rfl) rfl ?_
        all_goals (exact g_fin ⟨.inl rfl, id, _, rfl, .agg (.cons (.refl _) (.cons (.refl _) (.cons (.refl _) (.cons (.nil 5) (.cons (.nil 5) .nil))))), ⟨rfl, trivial⟩, rfl, rfl⟩)
    simp only [h55, and_false, if_false] at hd
    by_cases h7 : op = 7
    · subst h7
      simp only [eq_self, if_true] at hd
      obtain ⟨u, k2, b2, h4', h6, h7⟩ := go_key hd
      obtain ⟨_, hT⟩ := ptake_ok hl _ hk _ _ _ _ h4'
      have hfin : xf = .mk 6 (⟨#[]⟩ : ByteArray) [.mk 7 n s L] [] [] ∧ jf = k2 ∧ bf = b2 := by
        cases b2 with
        | false => have e := h6 rfl; cases e; exact ⟨rfl, rfl, rfl⟩
        | true => exact h7 rfl
      obtain ⟨rfl, rfl, rfl⟩ := hfin
      refine fn_ok T Tryz.func143 (by kernel_rfl) rfl rfl rfl rfl fun C hC => ?_
      repeat' first | refine g_go T hC true 400 rfl rfl ?_ | (exfalso; simp [Ex.op, Ex.s] at h; done) | refine g_cond rfl (fun h => ?_) (fun h => ?_) | refine g_end T hC (by kernel_rfl) ?_ | refine g_splitD (fun h => ?_) (fun h => ?_) | refine g_splitG rfl rfl rfl (fun h => ?_) (fun h => ?_) | refine g_splitP rfl rfl (fun h => ?_) (fun h => ?_) | refine g_callR hC ((pskip_n hl hi (by assumption))) (nm [0]) rfl rfl (LeSs.refl _) rfl rfl rfl rfl rfl rfl rfl rfl ?_ | refine g_callR hC (hP) (nm [0]) rfl rfl (LeSs.refl _) rfl rfl rfl rfl rfl rfl rfl rfl ?_ | refine g_lit T hC (rows := [exprR (.mk 7 n s L)]) rfl rfl rfl (by simp only [exprR_eq]; rfl) rfl rfl rfl rfl rfl ?_ | refine g_callR hC (hT) (nm [0]) rfl rfl (LeSs.refl _) rfl rfl rfl rfl rfl rfl rfl rfl ?_ | refine g_retl T (.inl rfl) rfl ?_
      exact g_fin ⟨.inl rfl, id, _, rfl, .agg (.cons (.refl _) (.cons (.refl _) (.cons (.refl _) (.cons (.nil 5) (.cons (.nil 5) .nil))))), ⟨rfl, trivial⟩, rfl, rfl⟩
    simp only [h7, if_false] at hd
    have hd' : xf = .mk 6 (⟨#[]⟩ : ByteArray) [.mk op n s L] [] [] ∧ jf = k ∧ bf = true := by cases hd; exact ⟨rfl, rfl, rfl⟩
    obtain ⟨rfl, rfl, rfl⟩ := hd'
    refine fn_ok T Tryz.func143 (by kernel_rfl) rfl rfl rfl rfl fun C hC => ?_
    repeat' first | refine g_go T hC true 400 rfl rfl ?_ | (exfalso; simp [Ex.op, Ex.s, h4, h55, h7] at h; done) | refine g_cond rfl (fun h => ?_) (fun h => ?_) | refine g_end T hC (by kernel_rfl) ?_ | refine g_splitD (fun h => ?_) (fun h => ?_) | refine g_splitG rfl rfl rfl (fun h => ?_) (fun h => ?_) | refine g_splitP rfl rfl (fun h => ?_) (fun h => ?_) | refine g_callR hC ((pskip_n hl hi (by assumption))) (nm [0]) rfl rfl (LeSs.refl _) rfl rfl rfl rfl rfl rfl rfl rfl ?_ | refine g_callR hC (hP) (nm [0]) rfl rfl (LeSs.refl _) rfl rfl rfl rfl rfl rfl rfl rfl ?_ | refine g_lit T hC (rows := [exprR (.mk op n s L)]) rfl rfl rfl (by simp only [exprR_eq]; rfl) rfl rfl rfl rfl rfl ?_ | refine g_callR hC ((pskip_n hl hk (by assumption))) (nm [0]) rfl rfl (LeSs.refl _) rfl rfl rfl rfl rfl rfl rfl rfl ?_ | refine g_callR hC ((ptake_bad hl _ hk _)) (nm [0]) rfl rfl (LeSs.refl _) rfl rfl rfl rfl rfl rfl rfl rfl ?_ | refine g_retl T (.inl rfl) rfl ?_
    all_goals (exact g_fin ⟨.inl rfl, id, _, rfl, .agg (.cons (.refl _) (.cons (.refl _) (.cons (.refl _) (.cons (.nil 5) (.cons (.nil 5) .nil))))), ⟨rfl, trivial⟩, rfl, rfl⟩)
end
end Hw.Pa
namespace Hw.Pa
open Go Go.Proofs Hw.M

theorem stmtJ_fwd {l : List Tok} {f i : Nat} {x : Sm} {j : Nat} (h : stmtJ l f i = some (x, j, false)) : i < j := by
  have := ok_er h
  rw [(er_stmt f).2.2] at this
  exact ((stmt_fwd f).2.2 _ _ _ this).1
structure SX (l : List Tok) (f : Nat) : Prop where
  stmts : ∀ i, i < l.length → RJ l 101 [rdV] (fun a => pS (stmtsP a)) i (stmtsJ l f i [])
  block : ∀ i, i < l.length → RJ l 166 [rdV] (fun a => pS (stmtsP a)) i (blockJ l f i)
  stmt : ∀ i, i < l.length → RJ l 143 [rdV] (fun s => aggS (stmtC s)) i (stmtJ l f i)
section
variable {l : List Tok} (hl : GoodL l)
include hl
theorem pblock_step (f : Nat) (ih : ∀ g, g ≤ f → SX l g) (i : Nat) (hi : i < l.length) : RJ l 166 [rdV] (fun a => pS (stmtsP a)) i (blockJ l (f + 1) i) := by
  intro xf jf bf hR
  have hjf := (stmt_rg hl (f + 1)).2.1 i hi _ _ _ hR
  refine ⟨hjf, ?_⟩
  simp only [blockJ] at hR
  obtain ⟨u, k, b, h1, h2, h3⟩ := go_key hR
  obtain ⟨hk, hT⟩ := ptake_ok hl i hi _ _ _ _ h1
  cases b with
  | true =>
    obtain ⟨rfl, rfl, rfl⟩ := h3 rfl
    refine fn_ok T Tryz.func166 (by kernel_rfl) rfl rfl rfl rfl fun C hC => ?_
    repeat' first | refine g_go T hC true 400 rfl rfl ?_ | refine g_cond rfl (fun h => ?_) (fun h => ?_) | refine g_callR hC (hT) (nm [0]) rfl rfl (LeSs.refl _) rfl rfl rfl rfl rfl rfl rfl rfl ?_ | refine g_callR hC ((pstmts_bad hl _ hk)) (nm [0]) rfl rfl (LeSs.refl _) rfl rfl rfl rfl rfl rfl rfl rfl ?_ | refine g_retl T (.inl rfl) rfl ?_
    exact g_fin ⟨.inl rfl, id, _, rfl, .refl _, ⟨rfl, trivial⟩, rfl, rfl⟩
  | false =>
    obtain ⟨_, hS⟩ := (ih f (Nat.le_refl _)).stmts k hk _ _ _ (h2 rfl)
    refine fn_ok T Tryz.func166 (by kernel_rfl) rfl rfl rfl rfl fun C hC => ?_
    repeat' first | refine g_go T hC true 400 rfl rfl ?_ | refine g_cond rfl (fun h => ?_) (fun h => ?_) | refine g_callR hC (hT) (nm [0]) rfl rfl (LeSs.refl _) rfl rfl rfl rfl rfl rfl rfl rfl ?_ | refine g_callR hC (hS) (nm [0]) rfl rfl (LeSs.refl _) rfl rfl rfl rfl rfl rfl rfl rfl ?_ | refine g_retl T (.inl rfl) rfl ?_
    exact g_fin ⟨.inl rfl, id, _, rfl, .refl _, ⟨rfl, trivial⟩, rfl, rfl⟩
theorem pstmts_step (f : Nat) (ih : ∀ g, g ≤ f → SX l g) (i : Nat) (hi : i < l.length) : RJ l 101 [rdV] (fun a => pS (stmtsP a)) i (stmtsJ l (f + 1) i []) := by
  intro af jf bf hR
  have hjf := (stmt_rg hl (f + 1)).1 i [] hi _ _ _ hR
  refine ⟨hjf, ?_⟩
  have hll := hl.len
  refine fn_ok T Tryz.func101 (by kernel_rfl) rfl rfl rfl rfl fun C hC => ?_
  repeat' first | refine g_go T hC true 400 rfl rfl ?_ | refine g_cond rfl (fun h => ?_) (fun h => ?_) | refine g_splitG rfl rfl rfl (fun h => ?_) (fun h => ?_) | refine g_splitP rfl rfl (fun h => ?_) (fun h => ?_)
  refine g_adopt hC rfl 101 5 rfl [(3, .one (.ar 101))] ⟨⟨_, rfl, AdS.nil⟩, trivial⟩ [] trivial ?_
  refine g_loop (fun q : List Sm × Nat × Bool × Nat => q.2.1 < l.length ∧ q.2.2.2 ≤ f + 1 ∧ q.1.length ≤ 100001 ∧ (q.2.2.1 = false → q.1.length ≤ q.2.1 ∧ stmtsJ l q.2.2.2 q.2.1 q.1 = some (af, jf, bf)) ∧ (q.2.2.1 = true → af = q.1 ∧ jf = q.2.1 ∧ bf = true))
    (fun q => ([(0, rdV), (3, .one (.ar 101))], [(0, some (rdR l q.2.1 q.2.2.1)), (101, some (Res.arr 5 (q.1.map stmtR)))])) (fun q => if q.2.2.1 then 0 else q.2.2.2 + 1) hC
    ([], i, false, f + 1) ⟨hi, Nat.le_refl _, Nat.zero_le _, fun _ => ⟨Nat.zero_le _, hR⟩, fun h => by cases h⟩ id ⟨rfl, ⟨rfl, rfl, trivial⟩, ⟨rfl, rfl, trivial⟩, rfl, fun _ _ => rfl⟩ ?_
  clear hi hR
  rintro ⟨acc, k, b1, g⟩ ⟨hk, hgf, hlen, hg, hb⟩
  simp only at hk hgf hlen hg hb
  cases b1 with
  | true =>
    obtain ⟨rfl, rfl, rfl⟩ := hb rfl
    repeat' first | refine g_go T hC true 400 rfl rfl ?_ | (exfalso; simp at h; done) | refine g_cond rfl (fun h => ?_) (fun h => ?_) | refine g_splitG rfl rfl rfl (fun h => ?_) (fun h => ?_) | refine g_splitP rfl rfl (fun h => ?_) (fun h => ?_) | refine g_outE ?_ | refine g_callR hC ((ptake_bad hl _ hk _)) (nm [0]) rfl rfl (LeSs.refl _) rfl rfl rfl rfl rfl rfl rfl rfl ?_ | refine g_retl T (.inl rfl) rfl ?_
    refine g_freeze rfl (id := 101) (e := 5) (rows := af.map stmtR) rfl [(2, pS (stmtsP af))] ⟨⟨_, rfl, FrS.ar⟩, trivial⟩ [] trivial ?_
    exact g_fin ⟨.inl rfl, id, _, rfl, .refl _, ⟨rfl, trivial⟩, rfl, rfl⟩
  | false =>
    obtain ⟨hak, hd⟩ := hg rfl
    clear hg hb
    cases g with
    | zero => simp only [stmtsJ] at hd; cases hd
    | succ g =>
      simp only [stmtsJ] at hd
      have hal : (acc.map stmtR).length = acc.length := List.length_map _
      by_cases hs : isA l k ⟨#[125]⟩ = true
      · rw [if_pos hs] at hd
        cases hd
        repeat' first | refine g_go T hC true 400 rfl rfl ?_ | (exfalso; simp at h; done) | refine g_cond rfl (fun h => ?_) (fun h => ?_) | refine g_splitG rfl rfl rfl (fun h => ?_) (fun h => ?_) | refine g_splitP rfl rfl (fun h => ?_) (fun h => ?_) | refine g_callR hC ((pis_y hl hs)) (nm [0]) rfl rfl (LeSs.refl _) rfl rfl rfl rfl rfl rfl rfl rfl ?_ | refine g_outE ?_ | refine g_callR hC ((ptake_y hl hs)) (nm [0]) rfl rfl (LeSs.refl _) rfl rfl rfl rfl rfl rfl rfl rfl ?_ | refine g_retl T (.inl rfl) rfl ?_
        refine g_freeze rfl (id := 101) (e := 5) (rows := af.map stmtR) rfl [(2, pS (stmtsP af))] ⟨⟨_, rfl, FrS.ar⟩, trivial⟩ [] trivial ?_
        exact g_fin ⟨.inl rfl, id, _, rfl, .refl _, ⟨rfl, trivial⟩, rfl, rfl⟩
      · rw [if_neg hs] at hd
        obtain ⟨y, k2, b2, h4, h5, h6⟩ := go_key hd
        obtain ⟨hk2, hE⟩ := (ih g (by omega)).stmt k hk _ _ _ h4
        have hal' : (acc ++ [y]).length = acc.length + 1 := by simp
        repeat' first | refine g_go T hC true 400 rfl rfl ?_ | (exfalso; simp at h; done) | refine g_cond rfl (fun h => ?_) (fun h => ?_) | refine g_splitG rfl rfl rfl (fun h => ?_) (fun h => ?_) | refine g_splitP rfl rfl (fun h => ?_) (fun h => ?_) | refine g_callR hC ((pis_n hl hk hs)) (nm [0]) rfl rfl (LeSs.refl _) rfl rfl rfl rfl rfl rfl rfl rfl ?_ | refine g_callR hC (hE) (nm [0]) rfl rfl (LeSs.refl _) rfl rfl rfl rfl rfl rfl rfl rfl ?_ | refine g_lit T hC (rows := [stmtR y]) rfl rfl rfl (by simp only [stmtR_eq]; rfl) rfl rfl rfl rfl rfl ?_ | (refine g_append T 102 hC (rows := acc.map stmtR) (rows2 := [stmtR y]) (rows3 := (acc ++ [y]).map stmtR) (bytes := 96) rfl rfl rfl rfl (SrcS.sl (T.es_ok _ _ rfl)) (by rw [List.map_append]; rfl) rfl rfl rfl (by kernel_rfl) (by rw [hal, List.length_singleton]; omega) (by rw [hal, List.length_singleton]; omega) rfl rfl rfl ?_)
        exact g_round (acc ++ [y], k2, b2, g) ⟨hk2, by simp only; omega, by simp only; omega, fun e => by subst e; exact ⟨by have := stmtJ_fwd h4; simp only; omega, h5 rfl⟩, h6⟩ (mvP 101 102) (by cases b2 <;> simp) ⟨rfl, ⟨rfl, rfl, trivial⟩, ⟨rfl, rfl, trivial⟩, rfl, fun i hi => mvP_low (by omega) hi⟩
set_option maxHeartbeats 2000000 in
theorem pstmt_step (f : Nat) (ih : ∀ g, g ≤ f → SX l g) (i : Nat) (hi : i < l.length) : RJ l 143 [rdV] (fun s => aggS (stmtC s)) i (stmtJ l (f + 1) i) := by
  intro xf jf bf hR
  have hjf := (stmt_rg hl (f + 1)).2.2 i hi _ _ _ hR
  refine ⟨hjf, ?_⟩
  have hll := hl.len
  have hS := ih f (Nat.le_refl _)
  have hX := ex_all hl f
  simp only [stmtJ] at hR
  by_cases h1 : isA l i (⟨#[105, 102]⟩ : ByteArray) = true
  · rw [if_pos h1] at hR
    have hi1 := isA_next hl h1
    obtain ⟨x, k, b, hx, hg, hb⟩ := go_key hR
    obtain ⟨hk, hE⟩ := pwhole_ok hl hX _ hi1 _ _ _ hx
    cases b with
    | true =>
      obtain ⟨rfl, rfl, rfl⟩ := hb rfl
      refine fn_ok T Tryz.func143 (by kernel_rfl) rfl rfl rfl rfl fun C hC => ?_
      repeat' first | refine g_go T hC true 400 rfl rfl ?_ | refine g_cond rfl (fun h => ?_) (fun h => ?_) | refine g_end T hC (by kernel_rfl) ?_ | refine g_splitD (fun h => ?_) (fun h => ?_) | refine g_splitG rfl rfl rfl (fun h => ?_) (fun h => ?_) | refine g_splitP rfl rfl (fun h => ?_) (fun h => ?_) | refine g_callR hC ((pskip_y hl h1)) (nm [0]) rfl rfl (LeSs.refl _) rfl rfl rfl rfl rfl rfl rfl rfl ?_ | refine g_callR hC (hE) (nm [0]) rfl rfl (LeSs.refl _) rfl rfl rfl rfl rfl rfl rfl rfl ?_ | refine g_lit T hC (rows := [exprR x]) rfl rfl rfl (by simp only [exprR_eq]; rfl) rfl rfl rfl rfl rfl ?_ | refine g_callR hC ((pblock_bad hl _ hk)) (nm [0]) rfl rfl (LeSs.refl _) rfl rfl rfl rfl rfl rfl rfl rfl ?_ | refine g_callR hC ((pskip_bad hl _ hk _)) (nm [0]) rfl rfl (LeSs.refl _) rfl rfl rfl rfl rfl rfl rfl rfl ?_ | refine g_retl T (.inl rfl) rfl ?_
      exact g_fin ⟨.inl rfl, id, _, rfl, .agg (.cons (.refl _) (.cons (.refl _) (.cons (.refl _) (.cons (.refl _) (.cons (.nil 5) .nil))))), ⟨rfl, trivial⟩, rfl, rfl⟩
    | false =>
      obtain ⟨a, k2, b2, ha, hg2, hb2⟩ := go_key (hg rfl)
      obtain ⟨hk2, hB⟩ := hS.block k hk _ _ _ ha
      cases b2 with
      | true =>
        obtain ⟨rfl, rfl, rfl⟩ := hb2 rfl
        refine fn_ok T Tryz.func143 (by kernel_rfl) rfl rfl rfl rfl fun C hC => ?_
        repeat' first | refine g_go T hC true 400 rfl rfl ?_ | refine g_cond rfl (fun h => ?_) (fun h => ?_) | refine g_end T hC (by kernel_rfl) ?_ | refine g_splitD (fun h => ?_) (fun h => ?_) | refine g_splitG rfl rfl rfl (fun h => ?_) (fun h => ?_) | refine g_splitP rfl rfl (fun h => ?_) (fun h => ?_) | refine g_callR hC ((pskip_y hl h1)) (nm [0]) rfl rfl (LeSs.refl _) rfl rfl rfl rfl rfl rfl rfl rfl ?_ | refine g_callR hC (hE) (nm [0]) rfl rfl (LeSs.refl _) rfl rfl rfl rfl rfl rfl rfl rfl ?_ | refine g_lit T hC (rows := [exprR x]) rfl rfl rfl (by simp only [exprR_eq]; rfl) rfl rfl rfl rfl rfl ?_ | refine g_callR hC (hB) (nm [0]) rfl rfl (LeSs.refl _) rfl rfl rfl rfl rfl rfl rfl rfl ?_ | refine g_callR hC ((pskip_bad hl _ hk2 _)) (nm [0]) rfl rfl (LeSs.refl _) rfl rfl rfl rfl rfl rfl rfl rfl ?_ | refine g_retl T (.inl rfl) rfl ?_
        exact g_fin ⟨.inl rfl, id, _, rfl, .agg (.cons (.refl _) (.cons (.refl _) (.cons (.refl _) (.cons (.refl _) (.cons (.nil 5) .nil))))), ⟨rfl, trivial⟩, rfl, rfl⟩
      | false =>
        have hd := hg2 rfl
        by_cases hs : isA l k2 (⟨#[101, 108, 115, 101]⟩ : ByteArray) = true
        · rw [if_pos hs] at hd
          obtain ⟨c, hc, rfl⟩ := go_map hd
          obtain ⟨_, hB2⟩ := hS.block _ (isA_next hl hs) _ _ _ hc
          refine fn_ok T Tryz.func143 (by kernel_rfl) rfl rfl rfl rfl fun C hC => ?_
          repeat' first | refine g_go T hC true 400 rfl rfl ?_ | refine g_cond rfl (fun h => ?_) (fun h => ?_) | refine g_end T hC (by kernel_rfl) ?_ | refine g_splitD (fun h => ?_) (fun h => ?_) | refine g_splitG rfl rfl rfl (fun h => ?_) (fun h => ?_) | refine g_splitP rfl rfl (fun h => ?_) (fun h => ?_) | refine g_callR hC ((pskip_y hl h1)) (nm [0]) rfl rfl (LeSs.refl _) rfl rfl rfl rfl rfl rfl rfl rfl ?_ | refine g_callR hC (hE) (nm [0]) rfl rfl (LeSs.refl _) rfl rfl rfl rfl rfl rfl rfl rfl ?_ | refine g_lit T hC (rows := [exprR x]) rfl rfl rfl (by simp only [exprR_eq]; rfl) rfl rfl rfl rfl rfl ?_ | refine g_callR hC (hB) (nm [0]) rfl rfl (LeSs.refl _) rfl rfl rfl rfl rfl rfl rfl rfl ?_ | refine g_callR hC ((pskip_y hl hs)) (nm [0]) rfl rfl (LeSs.refl _) rfl rfl rfl rfl rfl rfl rfl rfl ?_ | refine g_callR hC (hB2) (nm [0]) rfl rfl (LeSs.refl _) rfl rfl rfl rfl rfl rfl rfl rfl ?_ | refine g_retl T (.inl rfl) rfl ?_
          exact g_fin ⟨.inl rfl, id, _, rfl, .agg (.cons (.refl _) (.cons (.refl _) (.cons (.refl _) (.cons (.refl _) (.cons (.refl _) .nil))))), ⟨rfl, trivial⟩, rfl, rfl⟩
        · rw [if_neg hs] at hd
          cases hd
          refine fn_ok T Tryz.func143 (by kernel_rfl) rfl rfl rfl rfl fun C hC => ?_
          repeat' first | refine g_go T hC true 400 rfl rfl ?_ | refine g_cond rfl (fun h => ?_) (fun h => ?_) | refine g_end T hC (by kernel_rfl) ?_ | refine g_splitD (fun h => ?_) (fun h => ?_) | refine g_splitG rfl rfl rfl (fun h => ?_) (fun h => ?_) | refine g_splitP rfl rfl (fun h => ?_) (fun h => ?_) | refine g_callR hC ((pskip_y hl h1)) (nm [0]) rfl rfl (LeSs.refl _) rfl rfl rfl rfl rfl rfl rfl rfl ?_ | refine g_callR hC (hE) (nm [0]) rfl rfl (LeSs.refl _) rfl rfl rfl rfl rfl rfl rfl rfl ?_ | refine g_lit T hC (rows := [exprR x]) rfl rfl rfl (by simp only [exprR_eq]; rfl) rfl rfl rfl rfl rfl ?_ | refine g_callR hC (hB) (nm [0]) rfl rfl (LeSs.refl _) rfl rfl rfl rfl rfl rfl rfl rfl ?_ | refine g_callR hC ((pskip_n hl hk2 hs)) (nm [0]) rfl rfl (LeSs.refl _) rfl rfl rfl rfl rfl rfl rfl rfl ?_ | refine g_retl T (.inl rfl) rfl ?_
          exact g_fin ⟨.inl rfl, id, _, rfl, .agg (.cons (.refl _) (.cons (.refl _) (.cons (.refl _) (.cons (.refl _) (.cons (.nil 5) .nil))))), ⟨rfl, trivial⟩, rfl, rfl⟩
  rw [if_neg h1] at hR
  by_cases h2 : isA l i (⟨#[119, 104, 105, 108, 101]⟩ : ByteArray) = true
  · rw [if_pos h2] at hR
    have hi1 := isA_next hl h2
    obtain ⟨x, k, b, hx, hg, hb⟩ := go_key hR
    obtain ⟨hk, hE⟩ := pwhole_ok hl hX _ hi1 _ _ _ hx
    cases b with
    | true =>
      obtain ⟨rfl, rfl, rfl⟩ := hb rfl
      refine fn_ok T Tryz.func143 (by kernel_rfl) rfl rfl rfl rfl fun C hC => ?_
      repeat' first | refine g_go T hC true 400 rfl rfl ?_ | refine g_cond rfl (fun h => ?_) (fun h => ?_) | refine g_end T hC (by kernel_rfl) ?_ | refine g_splitD (fun h => ?_) (fun h => ?_) | refine g_splitG rfl rfl rfl (fun h => ?_) (fun h => ?_) | refine g_splitP rfl rfl (fun h => ?_) (fun h => ?_) | refine g_callR hC ((pskip_n hl hi (by assumption))) (nm [0]) rfl rfl (LeSs.refl _) rfl rfl rfl rfl rfl rfl rfl rfl ?_ | refine g_callR hC ((pskip_y hl h2)) (nm [0]) rfl rfl (LeSs.refl _) rfl rfl rfl rfl rfl rfl rfl rfl ?_ | refine g_callR hC (hE) (nm [0]) rfl rfl (LeSs.refl _) rfl rfl rfl rfl rfl rfl rfl rfl ?_ | refine g_lit T hC (rows := [exprR x]) rfl rfl rfl (by simp only [exprR_eq]; rfl) rfl rfl rfl rfl rfl ?_ | refine g_callR hC ((pblock_bad hl _ hk)) (nm [0]) rfl rfl (LeSs.refl _) rfl rfl rfl rfl rfl rfl rfl rfl ?_ | refine g_retl T (.inl rfl) rfl ?_
      exact g_fin ⟨.inl rfl, id, _, rfl, .agg (.cons (.refl _) (.cons (.refl _) (.cons (.refl _) (.cons (.refl _) (.cons (.nil 5) .nil))))), ⟨rfl, trivial⟩, rfl, rfl⟩
    | false =>
      obtain ⟨a, ha, rfl⟩ := go_map (hg rfl)
      obtain ⟨_, hB⟩ := hS.block k hk _ _ _ ha
      refine fn_ok T Tryz.func143 (by kernel_rfl) rfl rfl rfl rfl fun C hC => ?_
      repeat' first | refine g_go T hC true 400 rfl rfl ?_ | refine g_cond rfl (fun h => ?_) (fun h => ?_) | refine g_end T hC (by kernel_rfl) ?_ | refine g_splitD (fun h => ?_) (fun h => ?_) | refine g_splitG rfl rfl rfl (fun h => ?_) (fun h => ?_) | refine g_splitP rfl rfl (fun h => ?_) (fun h => ?_) | refine g_callR hC ((pskip_n hl hi (by assumption))) (nm [0]) rfl rfl (LeSs.refl _) rfl rfl rfl rfl rfl rfl rfl rfl ?_ | refine g_callR hC ((pskip_y hl h2)) (nm [0]) rfl rfl (LeSs.refl _) rfl rfl rfl rfl rfl rfl rfl rfl ?_ | refine g_callR hC (hE) (nm [0]) rfl rfl (LeSs.refl _) rfl rfl rfl rfl rfl rfl rfl rfl ?_ | refine g_lit T hC (rows := [exprR x]) rfl rfl rfl (by simp only [exprR_eq]; rfl) rfl rfl rfl rfl rfl ?_ | refine g_callR hC (hB) (nm [0]) rfl rfl (LeSs.refl _) rfl rfl rfl rfl rfl rfl rfl rfl ?_ | refine g_retl T (.inl rfl) rfl ?_
      exact g_fin ⟨.inl rfl, id, _, rfl, .agg (.cons (.refl _) (.cons (.refl _) (.cons (.refl _) (.cons (.refl _) (.cons (.nil 5) .nil))))), ⟨rfl, trivial⟩, rfl, rfl⟩
  rw [if_neg h2] at hR
  by_cases h3 : isA l i (⟨#[114, 101, 116, 117, 114, 110]⟩ : ByteArray) = true
  · rw [if_pos h3] at hR
    have hi1 := isA_next hl h3
    by_cases hs : isA l (i + 1) (⟨#[59]⟩ : ByteArray) = true
    · rw [if_pos hs] at hR
      cases hR
      refine fn_ok T Tryz.func143 (by kernel_rfl) rfl rfl rfl rfl fun C hC => ?_
      repeat' first | refine g_go T hC true 400 rfl rfl ?_ | (exfalso; simp at h; done) | refine g_cond rfl (fun h => ?_) (fun h => ?_) | refine g_end T hC (by kernel_rfl) ?_ | refine g_splitD (fun h => ?_) (fun h => ?_) | refine g_splitG rfl rfl rfl (fun h => ?_) (fun h => ?_) | refine g_splitP rfl rfl (fun h => ?_) (fun h => ?_) | refine g_callR hC ((pskip_n hl hi (by assumption))) (nm [0]) rfl rfl (LeSs.refl _) rfl rfl rfl rfl rfl rfl rfl rfl ?_ | refine g_callR hC ((pskip_y hl h3)) (nm [0]) rfl rfl (LeSs.refl _) rfl rfl rfl rfl rfl rfl rfl rfl ?_ | refine g_callR hC ((pis_y hl hs)) (nm [0]) rfl rfl (LeSs.refl _) rfl rfl rfl rfl rfl rfl rfl rfl ?_ | refine g_callR hC ((ptake_y hl hs)) (nm [0]) rfl rfl (LeSs.refl _) rfl rfl rfl rfl rfl rfl rfl rfl ?_ | refine g_retl T (.inl rfl) rfl ?_
      exact g_fin ⟨.inl rfl, id, _, rfl, .agg (.cons (.refl _) (.cons (.refl _) (.cons (.nil 4) (.cons (.nil 5) (.cons (.nil 5) .nil))))), ⟨rfl, trivial⟩, rfl, rfl⟩
    · rw [if_neg hs] at hR
      obtain ⟨x, k, b, hx, hg, hb⟩ := go_key hR
      obtain ⟨hk, hE⟩ := pwhole_ok hl hX _ hi1 _ _ _ hx
      cases b with
      | true =>
        obtain ⟨rfl, rfl, rfl⟩ := hb rfl
        refine fn_ok T Tryz.func143 (by kernel_rfl) rfl rfl rfl rfl fun C hC => ?_
        repeat' first | refine g_go T hC true 400 rfl rfl ?_ | (exfalso; simp at h; done) | refine g_cond rfl (fun h => ?_) (fun h => ?_) | refine g_end T hC (by kernel_rfl) ?_ | refine g_splitD (fun h => ?_) (fun h => ?_) | refine g_splitG rfl rfl rfl (fun h => ?_) (fun h => ?_) | refine g_splitP rfl rfl (fun h => ?_) (fun h => ?_) | refine g_callR hC ((pskip_n hl hi (by assumption))) (nm [0]) rfl rfl (LeSs.refl _) rfl rfl rfl rfl rfl rfl rfl rfl ?_ | refine g_callR hC ((pskip_y hl h3)) (nm [0]) rfl rfl (LeSs.refl _) rfl rfl rfl rfl rfl rfl rfl rfl ?_ | refine g_callR hC ((pis_n hl hi1 hs)) (nm [0]) rfl rfl (LeSs.refl _) rfl rfl rfl rfl rfl rfl rfl rfl ?_ | refine g_callR hC (hE) (nm [0]) rfl rfl (LeSs.refl _) rfl rfl rfl rfl rfl rfl rfl rfl ?_ | refine g_lit T hC (rows := [exprR x]) rfl rfl rfl (by simp only [exprR_eq]; rfl) rfl rfl rfl rfl rfl ?_ | refine g_callR hC ((ptake_bad hl _ hk _)) (nm [0]) rfl rfl (LeSs.refl _) rfl rfl rfl rfl rfl rfl rfl rfl ?_ | refine g_retl T (.inl rfl) rfl ?_
        exact g_fin ⟨.inl rfl, id, _, rfl, .agg (.cons (.refl _) (.cons (.refl _) (.cons (.refl _) (.cons (.nil 5) (.cons (.nil 5) .nil))))), ⟨rfl, trivial⟩, rfl, rfl⟩
      | false =>
        obtain ⟨u, k2, b2, h4, h5, h6⟩ := go_key (hg rfl)
        obtain ⟨_, hT⟩ := ptake_ok hl _ hk _ _ _ _ h4
        have hfin : xf = .mk 5 (⟨#[]⟩ : ByteArray) [x] [] [] ∧ jf = k2 ∧ bf = b2 := by
          cases b2 with
          | false => have e := h5 rfl; cases e; exact ⟨rfl, rfl, rfl⟩
          | true => exact h6 rfl
        obtain ⟨rfl, rfl, rfl⟩ := hfin
        refine fn_ok T Tryz.func143 (by kernel_rfl) rfl rfl rfl rfl fun C hC => ?_
        repeat' first | refine g_go T hC true 400 rfl rfl ?_ | (exfalso; simp at h; done) | refine g_cond rfl (fun h => ?_) (fun h => ?_) | refine g_end T hC (by kernel_rfl) ?_ | refine g_splitD (fun h => ?_) (fun h => ?_) | refine g_splitG rfl rfl rfl (fun h => ?_) (fun h => ?_) | refine g_splitP rfl rfl (fun h => ?_) (fun h => ?_) | refine g_callR hC ((pskip_n hl hi (by assumption))) (nm [0]) rfl rfl (LeSs.refl _) rfl rfl rfl rfl rfl rfl rfl rfl ?_ | refine g_callR hC ((pskip_y hl h3)) (nm [0]) rfl rfl (LeSs.refl _) rfl rfl rfl rfl rfl rfl rfl rfl ?_ | refine g_callR hC ((pis_n hl hi1 hs)) (nm [0]) rfl rfl (LeSs.refl _) rfl rfl rfl rfl rfl rfl rfl rfl ?_ | refine g_callR hC (hE) (nm [0]) rfl rfl (LeSs.refl _) rfl rfl rfl rfl rfl rfl rfl rfl ?_ | refine g_lit T hC (rows := [exprR x]) rfl rfl rfl (by simp only [exprR_eq]; rfl) rfl rfl rfl rfl rfl ?_ | refine g_callR hC (hT) (nm [0]) rfl rfl (LeSs.refl _) rfl rfl rfl rfl rfl rfl rfl rfl ?_ | refine g_retl T (.inl rfl) rfl ?_
        exact g_fin ⟨.inl rfl, id, _, rfl, .agg (.cons (.refl _) (.cons (.refl _) (.cons (.refl _) (.cons (.nil 5) (.cons (.nil 5) .nil))))), ⟨rfl, trivial⟩, rfl, rfl⟩
  rw [if_neg h3] at hR
  exact pstmt_post hl f i hi h1 h2 h3 hR
theorem sx_all : ∀ f : Nat, SX l f := by
  intro f
  induction f using Nat.strongRecOn with
  | _ f ih =>
    cases f with
    | zero => exact ⟨(fun _ _ _ _ _ h => by simp only [stmtsJ] at h; cases h), (fun _ _ _ _ _ h => by simp only [blockJ] at h; cases h), (fun _ _ _ _ _ h => by simp only [stmtJ] at h; cases h)⟩
    | succ f =>
      have ih' : ∀ g, g ≤ f → SX l g := fun g hg => ih g (by omega)
      exact ⟨fun i hi => pstmts_step hl f ih' i hi, fun i hi => pblock_step hl f ih' i hi, fun i hi => pstmt_step hl f ih' i hi⟩
end
end Hw.Pa
namespace Hw.Pa
open Go Go.Proofs Hw.M

theorem fieldJ_fwd {l : List Tok} {i : Nat} {x : Fld} {j : Nat} (h : fieldJ l i = some (x, j, false)) : i < j := by
  have := ok_er h
  rw [er_field] at this
  exact field_fwd this
abbrev F0 : Fld := ⟨(⟨#[]⟩ : ByteArray), (⟨#[]⟩ : ByteArray)⟩
section
variable {l : List Tok} (hl : GoodL l)
include hl
theorem plistF_ok (sep fin : Str) (f i : Nat) (hi : i < l.length) : RJ l 63 [rdV, Sr sep, Sr fin, .one (.cl 64 [.bx 0 0] [])] (fun a => pS (fieldsP a)) i (listJ l F0 sep fin (fieldJ l) f i []) := by
  intro af jf bf hR
  have hjf := list_rg hl F0 sep fin (fieldJ l) (fun _ h => .field hl h) f i [] hi _ _ _ hR
  refine ⟨hjf, ?_⟩
  have hll := hl.len
  refine fn_ok T Tryz.func63 (by kernel_rfl) rfl rfl rfl rfl fun C hC => ?_
  repeat' first | refine g_go T hC true 400 rfl rfl ?_ | refine g_cond rfl (fun h => ?_) (fun h => ?_) | refine g_splitG rfl rfl rfl (fun h => ?_) (fun h => ?_) | refine g_splitP rfl rfl (fun h => ?_) (fun h => ?_)
  refine g_adopt hC rfl 101 2 rfl [(9, .one (.ar 101))] ⟨⟨_, rfl, AdS.nil⟩, trivial⟩ [] trivial ?_
  refine g_loop (fun q : List Fld × Nat × Bool × Nat => q.2.1 < l.length ∧ q.2.2.2 ≤ f ∧ q.1.length ≤ 100001 ∧ (q.2.2.1 = false → q.1.length ≤ q.2.1 ∧ listJ l F0 sep fin (fieldJ l) q.2.2.2 q.2.1 q.1 = some (af, jf, bf)) ∧ (q.2.2.1 = true → af = q.1 ∧ jf = q.2.1 ∧ bf = true))
    (fun q => ([(0, rdV), (1, Sr sep), (2, Sr fin), (3, .one (.cl 64 [.bx 0 0] [])), (9, .one (.ar 101))], [(0, some (rdR l q.2.1 q.2.2.1)), (101, some (Res.arr 2 (q.1.map fieldR)))])) (fun q => if q.2.2.1 then 0 else q.2.2.2 + 1) hC
    ([], i, false, f) ⟨hi, Nat.le_refl _, Nat.zero_le _, fun _ => ⟨Nat.zero_le _, hR⟩, fun h => by cases h⟩ id ⟨rfl, ⟨rfl, rfl, rfl, rfl, rfl, trivial⟩, ⟨rfl, rfl, trivial⟩, rfl, fun _ _ => rfl⟩ ?_
  clear hi hR
  rintro ⟨acc, k, b1, g⟩ ⟨hk, hgf, hlen, hg, hb⟩
  simp only at hk hgf hlen hg hb
  cases b1 with
  | true =>
    obtain ⟨rfl, rfl, rfl⟩ := hb rfl
    repeat' first | refine g_go T hC true 400 rfl rfl ?_ | refine g_cond rfl (fun h => ?_) (fun h => ?_) | refine g_splitG rfl rfl rfl (fun h => ?_) (fun h => ?_) | refine g_splitP rfl rfl (fun h => ?_) (fun h => ?_) | refine g_callR hC ((ptake_bad hl _ hk _)) (nm [0]) rfl rfl (LeSs.refl _) rfl rfl rfl rfl rfl rfl rfl rfl ?_ | refine g_outE ?_ | refine g_retl T (.inl rfl) rfl ?_
    refine g_freeze rfl (id := 101) (e := 2) (rows := af.map fieldR) rfl [(8, pS (fieldsP af))] ⟨⟨_, rfl, FrS.ar⟩, trivial⟩ [] trivial ?_
    exact g_fin ⟨.inl rfl, id, _, rfl, .refl _, ⟨rfl, trivial⟩, rfl, rfl⟩
  | false =>
    obtain ⟨hak, hd⟩ := hg rfl
    clear hg hb
    cases g with
    | zero => simp only [listJ] at hd; cases hd
    | succ g =>
      simp only [listJ] at hd
      have hal : (acc.map fieldR).length = acc.length := List.length_map _
      by_cases hs : isA l k fin = true
      · rw [if_pos hs] at hd
        cases hd
        repeat' first | refine g_go T hC true 400 rfl rfl ?_ | refine g_cond rfl (fun h => ?_) (fun h => ?_) | refine g_splitG rfl rfl rfl (fun h => ?_) (fun h => ?_) | refine g_splitP rfl rfl (fun h => ?_) (fun h => ?_) | refine g_callR hC ((pis_y hl hs)) (nm [0]) rfl rfl (LeSs.refl _) rfl rfl rfl rfl rfl rfl rfl rfl ?_ | refine g_outE ?_ | refine g_callR hC ((ptake_y hl hs)) (nm [0]) rfl rfl (LeSs.refl _) rfl rfl rfl rfl rfl rfl rfl rfl ?_ | refine g_retl T (.inl rfl) rfl ?_
        refine g_freeze rfl (id := 101) (e := 2) (rows := af.map fieldR) rfl [(8, pS (fieldsP af))] ⟨⟨_, rfl, FrS.ar⟩, trivial⟩ [] trivial ?_
        exact g_fin ⟨.inl rfl, id, _, rfl, .refl _, ⟨rfl, trivial⟩, rfl, rfl⟩
      · rw [if_neg hs] at hd
        obtain ⟨u, k1, b1, h1, h2, h3⟩ := go_key hd
        rcases sep_rj hl h1 with ⟨h0, rfl, rfl⟩ | ⟨h0, hsep, rfl, rfl⟩ | ⟨h0, hsep, rfl, rfl⟩
        · obtain ⟨y, k2, b2, h4, h5, h6⟩ := go_key (h2 rfl)
          obtain ⟨hk2, hE⟩ := pfield_ok hl _ hk _ _ _ h4
          have hal' : (acc ++ [y]).length = acc.length + 1 := by simp
          repeat' first | refine g_go T hC true 400 rfl rfl ?_ | (exfalso; have h' := of_decide_eq_true h; rw [hal] at h'; omega) | refine g_cond rfl (fun h => ?_) (fun h => ?_) | refine g_splitG rfl rfl rfl (fun h => ?_) (fun h => ?_) | refine g_splitP rfl rfl (fun h => ?_) (fun h => ?_) | refine g_callR hC ((pis_n hl hk hs)) (nm [0]) rfl rfl (LeSs.refl _) rfl rfl rfl rfl rfl rfl rfl rfl ?_ | refine g_callR hC (hE) (nm [0]) rfl rfl (LeSs.refl _) rfl rfl rfl rfl rfl rfl rfl rfl ?_ | refine g_lit T hC (rows := [fieldR y]) rfl rfl rfl rfl rfl rfl rfl rfl rfl ?_ | (refine g_append T 102 hC (rows := acc.map fieldR) (rows2 := [fieldR y]) (rows3 := (acc ++ [y]).map fieldR) (bytes := 32) rfl rfl rfl rfl (SrcS.sl (T.es_ok _ _ rfl)) (by rw [List.map_append]; rfl) rfl rfl rfl (by kernel_rfl) (by rw [hal, List.length_singleton]; omega) (by rw [hal, List.length_singleton]; omega) rfl rfl rfl ?_)
          exact g_round (acc ++ [y], k2, b2, g) ⟨hk2, by simp only; omega, by simp only; omega, fun e => by subst e; exact ⟨by have := fieldJ_fwd h4; simp only; omega, h5 rfl⟩, h6⟩ (mvP 101 102) (by cases b2 <;> simp) ⟨rfl, ⟨rfl, rfl, rfl, rfl, rfl, trivial⟩, ⟨rfl, rfl, trivial⟩, rfl, fun i hi => mvP_low (by omega) hi⟩
        · obtain ⟨y, k2, b2, h4, h5, h6⟩ := go_key (h2 rfl)
          obtain ⟨hk2, hE⟩ := pfield_ok hl _ (isA_next hl hsep) _ _ _ h4
          have hal' : (acc ++ [y]).length = acc.length + 1 := by simp
          repeat' first | refine g_go T hC true 400 rfl rfl ?_ | (exfalso; have h' := of_decide_eq_false h; rw [hal] at h'; omega) | refine g_cond rfl (fun h => ?_) (fun h => ?_) | refine g_splitG rfl rfl rfl (fun h => ?_) (fun h => ?_) | refine g_splitP rfl rfl (fun h => ?_) (fun h => ?_) | refine g_callR hC ((pis_n hl hk hs)) (nm [0]) rfl rfl (LeSs.refl _) rfl rfl rfl rfl rfl rfl rfl rfl ?_ | refine g_callR hC ((ptake_y hl hsep)) (nm [0]) rfl rfl (LeSs.refl _) rfl rfl rfl rfl rfl rfl rfl rfl ?_ | refine g_callR hC (hE) (nm [0]) rfl rfl (LeSs.refl _) rfl rfl rfl rfl rfl rfl rfl rfl ?_ | refine g_lit T hC (rows := [fieldR y]) rfl rfl rfl rfl rfl rfl rfl rfl rfl ?_ | (refine g_append T 102 hC (rows := acc.map fieldR) (rows2 := [fieldR y]) (rows3 := (acc ++ [y]).map fieldR) (bytes := 32) rfl rfl rfl rfl (SrcS.sl (T.es_ok _ _ rfl)) (by rw [List.map_append]; rfl) rfl rfl rfl (by kernel_rfl) (by rw [hal, List.length_singleton]; omega) (by rw [hal, List.length_singleton]; omega) rfl rfl rfl ?_)
          exact g_round (acc ++ [y], k2, b2, g) ⟨hk2, by simp only; omega, by simp only; omega, fun e => by subst e; exact ⟨by have := fieldJ_fwd h4; simp only; omega, h5 rfl⟩, h6⟩ (mvP 101 102) (by cases b2 <;> simp) ⟨rfl, ⟨rfl, rfl, rfl, rfl, rfl, trivial⟩, ⟨rfl, rfl, trivial⟩, rfl, fun i hi => mvP_low (by omega) hi⟩
        · have h3 := h3 rfl
          have hal' : (acc ++ [F0]).length = acc.length + 1 := by simp
          repeat' first | refine g_go T hC true 400 rfl rfl ?_ | (exfalso; have h' := of_decide_eq_false h; rw [hal] at h'; omega) | refine g_cond rfl (fun h => ?_) (fun h => ?_) | refine g_splitG rfl rfl rfl (fun h => ?_) (fun h => ?_) | refine g_splitP rfl rfl (fun h => ?_) (fun h => ?_) | refine g_callR hC ((pis_n hl hk hs)) (nm [0]) rfl rfl (LeSs.refl _) rfl rfl rfl rfl rfl rfl rfl rfl ?_ | refine g_callR hC ((ptake_n hl hk hsep)) (nm [0]) rfl rfl (LeSs.refl _) rfl rfl rfl rfl rfl rfl rfl rfl ?_ | refine g_callR hC ((pfield_bad hl _ hk)) (nm [0]) rfl rfl (LeSs.refl _) rfl rfl rfl rfl rfl rfl rfl rfl ?_ | refine g_lit T hC (rows := [fieldR F0]) rfl rfl rfl rfl rfl rfl rfl rfl rfl ?_ | (refine g_append T 102 hC (rows := acc.map fieldR) (rows2 := [fieldR F0]) (rows3 := (acc ++ [F0]).map fieldR) (bytes := 32) rfl rfl rfl rfl (SrcS.sl (T.es_ok _ _ rfl)) (by rw [List.map_append]; rfl) rfl rfl rfl (by kernel_rfl) (by rw [hal, List.length_singleton]; omega) (by rw [hal, List.length_singleton]; omega) rfl rfl rfl ?_)
          exact g_round (acc ++ [F0], k1, true, g) ⟨hk, by simp only; omega, by simp only; omega, (fun e => by cases e), fun _ => h3⟩ (mvP 101 102) (by simp) ⟨rfl, ⟨rfl, rfl, rfl, rfl, rfl, trivial⟩, ⟨rfl, rfl, trivial⟩, rfl, fun i hi => mvP_low (by omega) hi⟩
end
end Hw.Pa
namespace Hw.Pa
open Go Go.Proofs Hw.M

def tJ {α : Type} (b : Bool) (z : α) (k : Nat) (r : PJ α) : PJ α := match b with
  | true => some (z, k, true)
  | false => r
def RT {α : Type} (l : List Tok) (f : FuncId) (args : List S) (enc : α → S) (k : Nat) (b : Bool) (z : α) (r : PJ α) : Prop :=
  ∀ x j c, tJ b z k r = some (x, j, c) → j < l.length ∧ FnOK Tryz.prog f args [(0, rdR l k b)] (enc x) [(0, rdR l j c)]
theorem RT.of {α : Type} {l : List Tok} {f : FuncId} {args : List S} {enc : α → S} {k : Nat} {z : α} {r : PJ α} (hk : k < l.length) (h : RJ l f args enc k r) (hb : FnOK Tryz.prog f args [(0, rdR l k true)] (enc z) [(0, rdR l k true)]) (b : Bool) : RT l f args enc k b z r := by
  intro x j c e
  cases b with
  | true => cases e; exact ⟨hk, hb⟩
  | false => exact h _ _ _ e
theorem tgo {α β : Type} {b : Bool} {w : β} {k : Nat} {r : PJ α} {f : α → Nat → PJ β} {g : α → β} {x : β} {j : Nat} {c : Bool} (h : tJ b w k (PJ.go r f g) = some (x, j, c)) (z : α) (hw : w = g z) :
    ∃ y k2 b2, tJ b z k r = some (y, k2, b2) ∧ tJ b2 (g y) k2 (f y k2) = some (x, j, c) := by
  subst hw
  cases b with
  | true => exact ⟨z, k, true, rfl, h⟩
  | false =>
    rcases r with _ | ⟨y, k2, b2⟩
    · cases h
    · refine ⟨y, k2, b2, rfl, ?_⟩
      cases b2 with
      | true => exact h
      | false => exact h
theorem tfin {α : Type} {b : Bool} {v x : α} {k j : Nat} {c : Bool} (h : tJ b v k (PJ.ok v k) = some (x, j, c)) : x = v ∧ j = k ∧ c = b := by
  cases b <;> (cases h; exact ⟨rfl, rfl, rfl⟩)
section
variable {l : List Tok} (hl : GoodL l)
include hl
theorem one_rj {i : Nat} (hi : i < l.length) (s : Str) : RJ l 26 [rdV, Sr s] (fun _ => .tup []) i (oneJ l s i) := fun _ _ _ e => ptake_ok hl i hi _ _ _ _ e
theorem one_rt {i : Nat} (hi : i < l.length) (b : Bool) (s : Str) : RT l 26 [rdV, Sr s] (fun _ => .tup []) i b () (oneJ l s i) := .of hi (one_rj hl hi s) (ptake_bad hl i hi s) b
theorem name_rt {i : Nat} (hi : i < l.length) (b : Bool) : RT l 27 [rdV] Sr i b (⟨#[]⟩ : ByteArray) (nameJ l i) := .of hi (fun x j b e => pname_ok hl i hi x j b e) (pname_bad hl i hi) b
theorem int_rt {i : Nat} (hi : i < l.length) (b : Bool) : RT l 102 [rdV] (fun n => I n) i b 0 (intJ l i) := .of hi (fun x j b e => pint_ok hl i hi x j b e) (pint_bad hl i hi) b
theorem typ_rt {i : Nat} (hi : i < l.length) (b : Bool) : RT l 100 [rdV] Sr i b (⟨#[]⟩ : ByteArray) (typJ l i) := .of hi (ptyp_ok hl i hi) (ptyp_bad hl i hi) b
theorem field_rt {i : Nat} (hi : i < l.length) (b : Bool) : RT l 64 [rdV] (fun f => aggS (fieldR f)) i b F0 (fieldJ l i) := .of hi (pfield_ok hl i hi) (pfield_bad hl i hi) b
theorem listF_rt {i : Nat} (hi : i < l.length) (b : Bool) (sep fin : Str) (f : Nat) : RT l 63 [rdV, Sr sep, Sr fin, .one (.cl 64 [.bx 0 0] [])] (fun a => pS (fieldsP a)) i b [] (listJ l F0 sep fin (fieldJ l) f i []) := .of hi (plistF_ok hl sep fin f i hi) (plistF_bad hl i hi sep fin) b
theorem stmts_rt {i : Nat} (hi : i < l.length) (b : Bool) (f : Nat) : RT l 101 [rdV] (fun a => pS (stmtsP a)) i b [] (stmtsJ l f i []) := .of hi ((sx_all hl f).stmts i hi) (pstmts_bad hl i hi) b
theorem whole_rt {i : Nat} (hi : i < l.length) (b : Bool) (f : Nat) : RT l 45 [rdV] enE i b E0 (exprJ l f 0 i) := .of hi (pwhole_ok hl (ex_all hl f) i hi) (pwhole_bad hl i hi) b
def isB (l : List Tok) (b : Bool) (i : Nat) (s : Str) : Bool := !b && isA l i s
theorem is_rt {i : Nat} (hi : i < l.length) (b : Bool) (s : Str) : FnOK Tryz.prog 68 [rdV, Sr s] [(0, rdR l i b)] (Bo (isB l b i s)) [(0, rdR l i b)] := by
  cases b with
  | true => exact pis_bad hl i hi s
  | false => exact fnSub (pis_ok hl i hi s) (.bq (by simp [isB]))
theorem skip_rt {i : Nat} (hi : i < l.length) (b : Bool) (s : Str) : FnOK Tryz.prog 62 [rdV, Sr s] [(0, rdR l i b)] (Bo (isB l b i s)) [(0, rdR l (if isB l b i s = true then i + 1 else i) b)] := by
  cases b with
  | true => exact pskip_bad hl i hi s
  | false =>
    by_cases h : isA l i s = true
    · have e : isB l false i s = true := by simp [isB, h]
      rw [e, if_pos rfl]; exact pskip_y hl h
    · have e : isB l false i s = false := by simpa [isB] using h
      rw [e, if_neg (by simp)]; exact pskip_n hl hi h
theorem pformula_ok (f i : Nat) (hi : i < l.length) : RJ l 67 [rdV] enE i (formulaJ l f i) := by
  intro xf jf bf hR
  obtain ⟨_, k1, b1, e1, hR⟩ := tgo (b := false) (w := E0) (k := i) hR () rfl
  obtain ⟨hk1, h1⟩ := one_rt hl hi false _ _ _ _ e1
  obtain ⟨hk2, h2⟩ := whole_rt hl hk1 b1 f _ _ _ hR
  refine ⟨hk2, ?_⟩
  refine fn_ok T Tryz.func67 (by kernel_rfl) rfl rfl rfl rfl fun C hC => ?_
  repeat' first | refine g_go T hC true 400 rfl rfl ?_ | refine g_cond rfl (fun h => ?_) (fun h => ?_) | refine g_callR hC (h1) (nm [0]) rfl rfl (LeSs.refl _) rfl rfl rfl rfl rfl rfl rfl rfl ?_ | refine g_callR hC (h2) (nm [0]) rfl rfl (LeSs.refl _) rfl rfl rfl rfl rfl rfl rfl rfl ?_ | refine g_retl T (.inl rfl) rfl ?_
  exact g_fin ⟨.inl rfl, id, _, rfl, .refl _, ⟨rfl, trivial⟩, rfl, rfl⟩
theorem formula_rt {i : Nat} (hi : i < l.length) (b : Bool) (f : Nat) : RT l 67 [rdV] enE i b E0 (formulaJ l f i) := .of hi (pformula_ok hl f i hi) (pformula_bad hl i hi) b
end
end Hw.Pa
namespace Hw.Pa
open Go Go.Proofs Hw.M

theorem oneJ_le {l : List Tok} {s : Str} {i j : Nat} {u : Unit} {b : Bool} (h : oneJ l s i = some (u, j, b)) : i ≤ j := by
  unfold oneJ at h
  split at h
  · cases h; omega
  · cases h; exact Nat.le_refl _
theorem nameJ_le {l : List Tok} {s : Str} {i j : Nat} {b : Bool} (h : nameJ l i = some (s, j, b)) : i ≤ j := by
  unfold nameJ at h
  repeat' (split at h)
  all_goals (cases h; omega)
theorem typJ_le {l : List Tok} {s : Str} {i j : Nat} {b : Bool} (h : typJ l i = some (s, j, b)) : i ≤ j := by
  unfold typJ at h
  split at h
  · cases h; omega
  · split at h
    · cases h; omega
    · exact nameJ_le h
theorem tJ_le {α : Type} {b : Bool} {z x : α} {k j : Nat} {r : PJ α} {c : Bool} (h : tJ b z k r = some (x, j, c)) (hr : r = some (x, j, c) → k ≤ j) : k ≤ j := by
  cases b with
  | true => cases h; exact Nat.le_refl _
  | false => exact hr h
theorem fieldJ_le {l : List Tok} {x : Fld} {i j : Nat} {b : Bool} (h : fieldJ l i = some (x, j, b)) : i ≤ j := by
  obtain ⟨n, k, b1, e1, h⟩ := tgo (b := false) (w := F0) (k := i) h (⟨#[]⟩ : ByteArray) rfl
  obtain ⟨t, k2, b2, e2, h⟩ := tgo h (⟨#[]⟩ : ByteArray) rfl
  obtain ⟨_, rfl, _⟩ := tfin h
  exact Nat.le_trans (nameJ_le e1) (tJ_le e2 typJ_le)
section
variable {l : List Tok} (hl : GoodL l)
include hl
set_option maxHeartbeats 1000000 in
theorem pproc_ok (f i : Nat) (hi : i < l.length) : RJ l 65 [rdV] (fun p => aggS (procR p)) i (procJ l f i) := by
  intro xf jf bf hR
  have hll := hl.len
  obtain ⟨n, k1, b1, e1, hR⟩ := tgo (b := false) (w := ⟨(⟨#[]⟩ : ByteArray), [], (⟨#[]⟩ : ByteArray), [], []⟩) (k := i) hR (⟨#[]⟩ : ByteArray) rfl
  obtain ⟨hk1, h1⟩ := name_rt hl hi false _ _ _ e1
  obtain ⟨_, k2, b2, e2, hR⟩ := tgo hR () rfl
  obtain ⟨hk2, h2⟩ := one_rt hl hk1 b1 _ _ _ _ e2
  obtain ⟨ps, k3, b3, e3, hR⟩ := tgo hR [] rfl
  obtain ⟨hk3, h3⟩ := listF_rt hl hk2 b2 _ _ f _ _ _ e3
  obtain ⟨r, k4, b4, e4, hR⟩ := tgo hR (⟨#[]⟩ : ByteArray) rfl
  obtain ⟨_, k5, b5, e5, hR⟩ := tgo hR () rfl
  obtain ⟨ls, k6, b6, e6, hR⟩ := tgo hR [] rfl
  obtain ⟨bd, k7, b7, e7, hR⟩ := tgo hR [] rfl
  obtain ⟨rfl, rfl, rfl⟩ := tfin hR
  clear hR
  have hk6 : k6 < l.length := by
    have hk4 : k4 < l.length := by
      cases b3 with
      | true => cases e4; exact hk3
      | false =>
        simp only [tJ] at e4
        split at e4
        · cases e4; exact hk3
        · exact (RG.typ hl hk3) _ _ _ e4
    have hk5 : k5 < l.length := (one_rt hl hk4 b4 _ _ _ _ e5).1
    cases b5 with
    | true => cases e6; exact hk5
    | false => exact locs_rg hl f _ _ hk5 _ _ _ e6
  obtain ⟨hk7, h7⟩ := stmts_rt hl hk6 b6 f _ _ _ e7
  refine ⟨hk7, ?_⟩
  have hI := is_rt hl hk3 b3 ⟨#[123]⟩
  by_cases hc : isB l b3 k3 ⟨#[123]⟩ = true
  · rw [hc] at hI
    have hb3 : b3 = false ∧ isA l k3 ⟨#[123]⟩ = true := by unfold isB at hc; simpa using hc
    obtain ⟨rfl, hs⟩ := hb3
    simp only [tJ] at e4
    rw [if_pos hs] at e4
    cases e4
    obtain ⟨hk5, h5⟩ := one_rt hl hk3 false _ _ _ _ e5
    refine fn_ok T Tryz.func65 (by kernel_rfl) rfl rfl rfl rfl fun C hC => ?_
    repeat' first | refine g_go T hC true 400 rfl rfl ?_ | (exfalso; simp at h; done) | refine g_cond rfl (fun h => ?_) (fun h => ?_) | refine g_end T hC (by kernel_rfl) ?_ | refine g_splitD (fun h => ?_) (fun h => ?_) | refine g_callR hC (h1) (nm [0]) rfl rfl (LeSs.refl _) rfl rfl rfl rfl rfl rfl rfl rfl ?_ | refine g_callR hC (h2) (nm [0]) rfl rfl (LeSs.refl _) rfl rfl rfl rfl rfl rfl rfl rfl ?_ | refine g_mkF hC rfl rfl rfl rfl rfl rfl ?_ | refine g_callR hC (h3) (nm [0]) rfl rfl (LeSs.refl _) rfl rfl rfl rfl rfl rfl rfl rfl ?_ | refine g_callR hC (hI) (nm [0]) rfl rfl (LeSs.refl _) rfl rfl rfl rfl rfl rfl rfl rfl ?_ | refine g_callR hC (h5) (nm [0]) rfl rfl (LeSs.refl _) rfl rfl rfl rfl rfl rfl rfl rfl ?_
    refine g_adopt hC rfl 101 2 rfl [] trivial [(1003, [.p (ks n), .p (fieldsP ps), .p (ks (⟨#[]⟩ : ByteArray)), .ar 101, .p (.k (.slice none 0 0))])] ⟨⟨_, rfl, by decide, .cons (.refl _) (.cons (.refl _) (.cons (.refl _) (.cons .nil (.cons (.refl _) .nil))))⟩, trivial⟩ ?_
    refine g_loop (fun q : List Fld × Nat × Bool × Nat => q.2.1 < l.length ∧ q.1.length ≤ q.2.1 ∧ tJ q.2.2.1 q.1 q.2.1 (locsJ l q.2.2.2 q.2.1 q.1) = some (ls, k6, b6))
      (fun q => ([(0, rdV), (2, .one (.bx 1002 0)), (3, .one (.bx 1003 0))], [(0, some (rdR l q.2.1 q.2.2.1)), (1002, some (Res.box (zV [ZK.str, ZK.slice, ZK.str, ZK.slice, ZK.slice]))), (1003, some (Res.box [.p (ks n), .p (fieldsP ps), .p (ks (⟨#[]⟩ : ByteArray)), .ar 101, .p (.k (.slice none 0 0))])), (101, some (Res.arr 2 (q.1.map fieldR)))])) (fun q => q.2.2.2) hC
      ([], k5, b5, f) ⟨hk5, Nat.zero_le _, e6⟩ id ⟨rfl, ⟨rfl, rfl, rfl, trivial⟩, ⟨rfl, rfl, rfl, rfl, trivial⟩, rfl, fun _ _ => rfl⟩ ?_
    clear e1 e2 e3 e5 e6 h1 h2 h3 h5 hI hk5
    rintro ⟨acc, k, b, g⟩ ⟨hk, hak, hd⟩
    simp only at hk hak hd
    have hal : (acc.map fieldR).length = acc.length := List.length_map _
    by_cases hlo : isB l b k (⟨#[108, 111, 99, 97, 108]⟩ : ByteArray) = true
    · have hb : b = false ∧ isA l k (⟨#[108, 111, 99, 97, 108]⟩ : ByteArray) = true := by unfold isB at hlo; simpa using hlo
      obtain ⟨rfl, hs⟩ := hb
      cases g with
      | zero => simp only [tJ, locsJ] at hd; cases hd
      | succ g =>
        simp only [tJ, locsJ] at hd
        rw [if_pos hs] at hd
        obtain ⟨x, j2, c2, a1, hd⟩ := tgo (b := false) (w := acc ++ [F0]) (k := k + 1) hd F0 rfl
        obtain ⟨hj2, hF⟩ := field_rt hl (isA_next hl hs) false _ _ _ a1
        obtain ⟨_, j3, c3, a2, hd⟩ := tgo hd () rfl
        obtain ⟨hj3, hT⟩ := one_rt hl hj2 c2 _ _ _ _ a2
        have m1 : k + 1 ≤ j2 := tJ_le a1 fieldJ_le
        have m2 : j2 ≤ j3 := tJ_le a2 oneJ_le
        have hal' : (acc ++ [x]).length = acc.length + 1 := by simp
        repeat' first | refine g_go T hC true 400 rfl rfl ?_ | (exfalso; simp at h; done) | refine g_cond rfl (fun h => ?_) (fun h => ?_) | refine g_end T hC (by kernel_rfl) ?_ | refine g_splitD (fun h => ?_) (fun h => ?_) | refine g_callR hC ((pskip_y hl hs)) (nm [0]) rfl rfl (LeSs.refl _) rfl rfl rfl rfl rfl rfl rfl rfl ?_ | refine g_callR hC (hF) (nm [0]) rfl rfl (LeSs.refl _) rfl rfl rfl rfl rfl rfl rfl rfl ?_ | refine g_lit T hC (rows := [fieldR x]) rfl rfl rfl rfl rfl rfl rfl rfl rfl ?_ | (refine g_append T 102 hC (rows := acc.map fieldR) (rows2 := [fieldR x]) (rows3 := (acc ++ [x]).map fieldR) (bytes := 32) rfl rfl rfl rfl (SrcS.sl (T.es_ok _ _ rfl)) (by rw [List.map_append]; rfl) rfl rfl rfl (by kernel_rfl) (by rw [hal, List.length_singleton]; omega) (by rw [hal, List.length_singleton]; omega) rfl rfl rfl ?_) | refine g_callR hC (hT) (nm [0]) rfl rfl (LeSs.refl _) rfl rfl rfl rfl rfl rfl rfl rfl ?_
        exact g_round (acc ++ [x], j3, c3, g) ⟨hj3, by simp only; omega, hd⟩ (mvP 101 102) (Nat.lt_succ_self _) ⟨rfl, ⟨rfl, rfl, rfl, trivial⟩, ⟨rfl, rfl, rfl, rfl, trivial⟩, rfl, fun i hi => mvP_low (by omega) hi⟩
    · have hS := skip_rt hl hk b (⟨#[108, 111, 99, 97, 108]⟩ : ByteArray)
      rw [if_neg hlo] at hS
      rw [Bool.not_eq_true] at hlo
      rw [hlo] at hS
      have hfin : ls = acc ∧ k6 = k ∧ b6 = b := by
        cases b with
        | true => cases hd; exact ⟨rfl, rfl, rfl⟩
        | false =>
          have hs : ¬ isA l k (⟨#[108, 111, 99, 97, 108]⟩ : ByteArray) = true := by unfold isB at hlo; simpa using hlo
          cases g with
          | zero => simp only [tJ, locsJ] at hd; cases hd
          | succ g => simp only [tJ, locsJ] at hd; rw [if_neg hs] at hd; cases hd; exact ⟨rfl, rfl, rfl⟩
      obtain ⟨rfl, rfl, rfl⟩ := hfin
      repeat' first | refine g_go T hC true 400 rfl rfl ?_ | (exfalso; simp at h; done) | refine g_cond rfl (fun h => ?_) (fun h => ?_) | refine g_end T hC (by kernel_rfl) ?_ | refine g_splitD (fun h => ?_) (fun h => ?_) | refine g_callR hC (hS) (nm [0]) rfl rfl (LeSs.refl _) rfl rfl rfl rfl rfl rfl rfl rfl ?_ | refine g_outE ?_
      refine g_freeze rfl (id := 101) (e := 2) (rows := ls.map fieldR) rfl [] trivial [(1003, [.p (ks n), .p (fieldsP ps), .p (ks (⟨#[]⟩ : ByteArray)), .p (fieldsP ls), .p (.k (.slice none 0 0))])] ⟨⟨_, rfl, by decide, .cons (.refl _) (.cons (.refl _) (.cons (.refl _) (.cons .ar (.cons (.refl _) .nil))))⟩, trivial⟩ ?_
      repeat' first | refine g_go T hC true 400 rfl rfl ?_ | refine g_cond rfl (fun h => ?_) (fun h => ?_) | refine g_end T hC (by kernel_rfl) ?_ | refine g_splitD (fun h => ?_) (fun h => ?_) | refine g_callR hC (h7) (nm [0]) rfl rfl (LeSs.refl _) rfl rfl rfl rfl rfl rfl rfl rfl ?_ | refine g_retl T (.inl rfl) rfl ?_
      exact g_fin ⟨.inl rfl, id, _, rfl, .refl _, ⟨rfl, trivial⟩, rfl, rfl⟩
  · rw [Bool.not_eq_true] at hc
    rw [hc] at hI
    have e4' : tJ b3 (⟨#[]⟩ : ByteArray) k3 (typJ l k3) = some (r, k4, b4) := by
      cases b3 with
      | true => exact e4
      | false =>
        have hs : ¬ isA l k3 ⟨#[123]⟩ = true := by unfold isB at hc; simpa using hc
        simp only [tJ] at e4 ⊢
        rw [if_neg hs] at e4
        exact e4
    obtain ⟨hk4, h4⟩ := typ_rt hl hk3 b3 _ _ _ e4'
    obtain ⟨hk5, h5⟩ := one_rt hl hk4 b4 _ _ _ _ e5
    refine fn_ok T Tryz.func65 (by kernel_rfl) rfl rfl rfl rfl fun C hC => ?_
    repeat' first | refine g_go T hC true 400 rfl rfl ?_ | (exfalso; simp at h; done) | refine g_cond rfl (fun h => ?_) (fun h => ?_) | refine g_end T hC (by kernel_rfl) ?_ | refine g_splitD (fun h => ?_) (fun h => ?_) | refine g_callR hC (h1) (nm [0]) rfl rfl (LeSs.refl _) rfl rfl rfl rfl rfl rfl rfl rfl ?_ | refine g_callR hC (h2) (nm [0]) rfl rfl (LeSs.refl _) rfl rfl rfl rfl rfl rfl rfl rfl ?_ | refine g_mkF hC rfl rfl rfl rfl rfl rfl ?_ | refine g_callR hC (h3) (nm [0]) rfl rfl (LeSs.refl _) rfl rfl rfl rfl rfl rfl rfl rfl ?_ | refine g_callR hC (hI) (nm [0]) rfl rfl (LeSs.refl _) rfl rfl rfl rfl rfl rfl rfl rfl ?_ | refine g_callR hC (h4) (nm [0]) rfl rfl (LeSs.refl _) rfl rfl rfl rfl rfl rfl rfl rfl ?_ | refine g_callR hC (h5) (nm [0]) rfl rfl (LeSs.refl _) rfl rfl rfl rfl rfl rfl rfl rfl ?_
    refine g_adopt hC rfl 101 2 rfl [] trivial [(1003, [.p (ks n), .p (fieldsP ps), .p (ks r), .ar 101, .p (.k (.slice none 0 0))])] ⟨⟨_, rfl, by decide, .cons (.refl _) (.cons (.refl _) (.cons (.refl _) (.cons .nil (.cons (.refl _) .nil))))⟩, trivial⟩ ?_
    refine g_loop (fun q : List Fld × Nat × Bool × Nat => q.2.1 < l.length ∧ q.1.length ≤ q.2.1 ∧ tJ q.2.2.1 q.1 q.2.1 (locsJ l q.2.2.2 q.2.1 q.1) = some (ls, k6, b6))
      (fun q => ([(0, rdV), (2, .one (.bx 1002 0)), (3, .one (.bx 1003 0))], [(0, some (rdR l q.2.1 q.2.2.1)), (1002, some (Res.box (zV [ZK.str, ZK.slice, ZK.str, ZK.slice, ZK.slice]))), (1003, some (Res.box [.p (ks n), .p (fieldsP ps), .p (ks r), .ar 101, .p (.k (.slice none 0 0))])), (101, some (Res.arr 2 (q.1.map fieldR)))])) (fun q => q.2.2.2) hC
      ([], k5, b5, f) ⟨hk5, Nat.zero_le _, e6⟩ id ⟨rfl, ⟨rfl, rfl, rfl, trivial⟩, ⟨rfl, rfl, rfl, rfl, trivial⟩, rfl, fun _ _ => rfl⟩ ?_
    clear e1 e2 e3 e5 e6 h1 h2 h3 h5 hI hk5
    rintro ⟨acc, k, b, g⟩ ⟨hk, hak, hd⟩
    simp only at hk hak hd
    have hal : (acc.map fieldR).length = acc.length := List.length_map _
    by_cases hlo : isB l b k (⟨#[108, 111, 99, 97, 108]⟩ : ByteArray) = true
    · have hb : b = false ∧ isA l k (⟨#[108, 111, 99, 97, 108]⟩ : ByteArray) = true := by unfold isB at hlo; simpa using hlo
      obtain ⟨rfl, hs⟩ := hb
      cases g with
      | zero => simp only [tJ, locsJ] at hd; cases hd
      | succ g =>
        simp only [tJ, locsJ] at hd
        rw [if_pos hs] at hd
        obtain ⟨x, j2, c2, a1, hd⟩ := tgo (b := false) (w := acc ++ [F0]) (k := k + 1) hd F0 rfl
        obtain ⟨hj2, hF⟩ := field_rt hl (isA_next hl hs) false _ _ _ a1
        obtain ⟨_, j3, c3, a2, hd⟩ := tgo hd () rfl
        obtain ⟨hj3, hT⟩ := one_rt hl hj2 c2 _ _ _ _ a2
        have m1 : k + 1 ≤ j2 := tJ_le a1 fieldJ_le
        have m2 : j2 ≤ j3 := tJ_le a2 oneJ_le
        have hal' : (acc ++ [x]).length = acc.length + 1 := by simp
        repeat' first | refine g_go T hC true 400 rfl rfl ?_ | (exfalso; simp at h; done) | refine g_cond rfl (fun h => ?_) (fun h => ?_) | refine g_end T hC (by kernel_rfl) ?_ | refine g_splitD (fun h => ?_) (fun h => ?_) | refine g_callR hC ((pskip_y hl hs)) (nm [0]) rfl rfl (LeSs.refl _) rfl rfl rfl rfl rfl rfl rfl rfl ?_ | refine g_callR hC (hF) (nm [0]) rfl rfl (LeSs.refl _) rfl rfl rfl rfl rfl rfl rfl rfl ?_ | refine g_lit T hC (rows := [fieldR x]) rfl rfl rfl rfl rfl rfl rfl rfl rfl ?_ | (refine g_append T 102 hC (rows := acc.map fieldR) (rows2 := [fieldR x]) (rows3 := (acc ++ [x]).map fieldR) (bytes := 32) rfl rfl rfl rfl (SrcS.sl (T.es_ok _ _ rfl)) (by rw [List.map_append]; rfl) rfl rfl rfl (by kernel_rfl) (by rw [hal, List.length_singleton]; omega) (by rw [hal, List.length_singleton]; omega) rfl rfl rfl ?_) | refine g_callR hC (hT) (nm [0]) rfl rfl (LeSs.refl _) rfl rfl rfl rfl rfl rfl rfl rfl ?_
        exact g_round (acc ++ [x], j3, c3, g) ⟨hj3, by simp only; omega, hd⟩ (mvP 101 102) (Nat.lt_succ_self _) ⟨rfl, ⟨rfl, rfl, rfl, trivial⟩, ⟨rfl, rfl, rfl, rfl, trivial⟩, rfl, fun i hi => mvP_low (by omega) hi⟩
    · have hS := skip_rt hl hk b (⟨#[108, 111, 99, 97, 108]⟩ : ByteArray)
      rw [if_neg hlo] at hS
      rw [Bool.not_eq_true] at hlo
      rw [hlo] at hS
      have hfin : ls = acc ∧ k6 = k ∧ b6 = b := by
        cases b with
        | true => cases hd; exact ⟨rfl, rfl, rfl⟩
        | false =>
          have hs : ¬ isA l k (⟨#[108, 111, 99, 97, 108]⟩ : ByteArray) = true := by unfold isB at hlo; simpa using hlo
          cases g with
          | zero => simp only [tJ, locsJ] at hd; cases hd
          | succ g => simp only [tJ, locsJ] at hd; rw [if_neg hs] at hd; cases hd; exact ⟨rfl, rfl, rfl⟩
      obtain ⟨rfl, rfl, rfl⟩ := hfin
      repeat' first | refine g_go T hC true 400 rfl rfl ?_ | (exfalso; simp at h; done) | refine g_cond rfl (fun h => ?_) (fun h => ?_) | refine g_end T hC (by kernel_rfl) ?_ | refine g_splitD (fun h => ?_) (fun h => ?_) | refine g_callR hC (hS) (nm [0]) rfl rfl (LeSs.refl _) rfl rfl rfl rfl rfl rfl rfl rfl ?_ | refine g_outE ?_
      refine g_freeze rfl (id := 101) (e := 2) (rows := ls.map fieldR) rfl [] trivial [(1003, [.p (ks n), .p (fieldsP ps), .p (ks r), .p (fieldsP ls), .p (.k (.slice none 0 0))])] ⟨⟨_, rfl, by decide, .cons (.refl _) (.cons (.refl _) (.cons (.refl _) (.cons .ar (.cons (.refl _) .nil))))⟩, trivial⟩ ?_
      repeat' first | refine g_go T hC true 400 rfl rfl ?_ | refine g_cond rfl (fun h => ?_) (fun h => ?_) | refine g_end T hC (by kernel_rfl) ?_ | refine g_splitD (fun h => ?_) (fun h => ?_) | refine g_callR hC (h7) (nm [0]) rfl rfl (LeSs.refl _) rfl rfl rfl rfl rfl rfl rfl rfl ?_ | refine g_retl T (.inl rfl) rfl ?_
      exact g_fin ⟨.inl rfl, id, _, rfl, .refl _, ⟨rfl, trivial⟩, rfl, rfl⟩
end
end Hw.Pa
namespace Hw.Pa
open Go Go.Proofs Hw.M

section
variable {l : List Tok} (hl : GoodL l)
include hl
theorem intJ_num {i : Nat} {z : Int} {j : Nat} {b : Bool} (h : intJ l i = some (z, j, b)) : 0 ≤ z ∧ z ≤ 1099511627776 ∧ (b = true → z = 0) := by
  unfold intJ at h
  split at h
  · rename_i t ht
    split at h
    · cases h
      have := hl.num t (List.mem_of_getElem? ht)
      exact ⟨this.1, this.2, fun h => by cases h⟩
    · cases h; exact ⟨Int.le_refl _, by decide, fun _ => rfl⟩
  · cases h; exact ⟨Int.le_refl _, by decide, fun _ => rfl⟩
theorem pmeasure_ok (f i : Nat) (hi : i < l.length) : RJ l 66 [rdV] (fun m => aggS (measureR m)) i (measureJ l f i) := by
  intro xf jf bf hR
  have hll := hl.len
  obtain ⟨n, k1, b1, e1, hR⟩ := tgo (b := false) (w := ⟨(⟨#[]⟩ : ByteArray), (⟨#[]⟩ : ByteArray), 0, E0⟩) (k := i) hR (⟨#[]⟩ : ByteArray) rfl
  obtain ⟨hk1, h1⟩ := name_rt hl hi false _ _ _ e1
  obtain ⟨_, k2, b2, e2, hR⟩ := tgo hR () rfl
  obtain ⟨hk2, h2⟩ := one_rt hl hk1 b1 _ _ _ _ e2
  obtain ⟨t, k3, b3, e3, hR⟩ := tgo hR (⟨#[]⟩ : ByteArray) rfl
  obtain ⟨hk3, h3⟩ := name_rt hl hk2 b2 _ _ _ e3
  obtain ⟨_, k4, b4, e4, hR⟩ := tgo hR () rfl
  obtain ⟨hk4, h4⟩ := one_rt hl hk3 b3 _ _ _ _ e4
  obtain ⟨_, k5, b5, e5, hR⟩ := tgo hR () rfl
  obtain ⟨hk5, h5⟩ := one_rt hl hk4 b4 _ _ _ _ e5
  obtain ⟨z, k6, b6, e6, hR⟩ := tgo hR 0 rfl
  have hS := skip_rt hl hk5 b5 (⟨#[45]⟩ : ByteArray)
  generalize hc : isB l b5 k5 (⟨#[45]⟩ : ByteArray) = c at hS
  have hk5' : (if c = true then k5 + 1 else k5) < l.length := by
    split
    · rename_i h; rw [h] at hc; unfold isB at hc; simp only [Bool.and_eq_true] at hc; exact isA_next hl hc.2
    · exact hk5
  have e6' : tJ b5 0 (if c = true then k5 + 1 else k5) (intJ l (if c = true then k5 + 1 else k5)) = some (z, k6, b6) := by
    cases b5 with
    | true =>
      have : c = false := by rw [← hc]; rfl
      subst this
      exact e6
    | false =>
      have : c = isA l k5 (⟨#[45]⟩ : ByteArray) := by rw [← hc]; simp [isB]
      subst this
      exact e6
  obtain ⟨hk6, h6⟩ := int_rt hl hk5' b5 _ _ _ e6'
  have hz : 0 ≤ z ∧ z ≤ 1099511627776 ∧ (b6 = true → z = 0) := by
    cases b5 with
    | true => cases e6'; exact ⟨Int.le_refl _, by decide, fun _ => rfl⟩
    | false => exact intJ_num hl e6'
  obtain ⟨z0, z1, zb⟩ := hz
  have hR' : tJ b6 ⟨n, t, if isA l k5 (⟨#[45]⟩ : ByteArray) = true then -z else z, E0⟩ k6 (PJ.go (formulaJ l f k6) (fun x j => .ok ⟨n, t, if isA l k5 (⟨#[45]⟩ : ByteArray) = true then -z else z, x⟩ j) (fun x => ⟨n, t, if isA l k5 (⟨#[45]⟩ : ByteArray) = true then -z else z, x⟩)) = some (xf, jf, bf) := by
    cases b6 with
    | true =>
      have : (if isA l k5 (⟨#[45]⟩ : ByteArray) = true then -z else z) = 0 := by rw [zb rfl]; split <;> rfl
      rw [this]; exact hR
    | false => exact hR
  clear hR
  obtain ⟨x, k7, b7, e7, hR⟩ := tgo hR' E0 rfl
  obtain ⟨hk7, h7⟩ := formula_rt hl hk6 b6 f _ _ _ e7
  obtain ⟨rfl, rfl, rfl⟩ := tfin hR
  refine ⟨hk7, ?_⟩
  clear hR hR' e1 e2 e3 e4 e5 e6 e7
  have hv : (if isA l k5 (⟨#[45]⟩ : ByteArray) = true then -z else z) = if c = true then -z else z := by
    cases b5 with
    | true =>
      cases e6'
      split <;> split <;> rfl
    | false =>
      have : c = isA l k5 (⟨#[45]⟩ : ByteArray) := by rw [← hc]; simp [isB]
      rw [this]
  rw [hv]
  cases c with
  | true =>
    simp only [if_true] at hS h6 ⊢
    refine fn_ok T Tryz.func66 (by kernel_rfl) rfl rfl rfl rfl fun C hC => ?_
    repeat' first | refine g_go T hC true 400 rfl rfl ?_ | (exfalso; simp at h; done) | refine g_cond rfl (fun h => ?_) (fun h => ?_) | refine g_callR hC (h1) (nm [0]) rfl rfl (LeSs.refl _) rfl rfl rfl rfl rfl rfl rfl rfl ?_ | refine g_callR hC (h2) (nm [0]) rfl rfl (LeSs.refl _) rfl rfl rfl rfl rfl rfl rfl rfl ?_ | refine g_callR hC (h3) (nm [0]) rfl rfl (LeSs.refl _) rfl rfl rfl rfl rfl rfl rfl rfl ?_ | refine g_callR hC (h4) (nm [0]) rfl rfl (LeSs.refl _) rfl rfl rfl rfl rfl rfl rfl rfl ?_ | refine g_callR hC (h5) (nm [0]) rfl rfl (LeSs.refl _) rfl rfl rfl rfl rfl rfl rfl rfl ?_ | refine g_callR hC (hS) (nm [0]) rfl rfl (LeSs.refl _) rfl rfl rfl rfl rfl rfl rfl rfl ?_ | refine g_callR hC (h6) (nm [0]) rfl rfl (LeSs.refl _) rfl rfl rfl rfl rfl rfl rfl rfl ?_ | refine g_callR hC (h7) (nm [0]) rfl rfl (LeSs.refl _) rfl rfl rfl rfl rfl rfl rfl rfl ?_ | refine g_retl T (.inl rfl) rfl ?_
    rw [show IntKind.i64.wrap (-1 * z) = -z by rw [wrap64 (by omega)]; omega]
    exact g_fin ⟨.inl rfl, id, _, rfl, .refl _, ⟨rfl, trivial⟩, rfl, rfl⟩
  | false =>
    simp only [Bool.false_eq_true, if_false] at hS h6 ⊢
    refine fn_ok T Tryz.func66 (by kernel_rfl) rfl rfl rfl rfl fun C hC => ?_
    repeat' first | refine g_go T hC true 400 rfl rfl ?_ | (exfalso; simp at h; done) | refine g_cond rfl (fun h => ?_) (fun h => ?_) | refine g_callR hC (h1) (nm [0]) rfl rfl (LeSs.refl _) rfl rfl rfl rfl rfl rfl rfl rfl ?_ | refine g_callR hC (h2) (nm [0]) rfl rfl (LeSs.refl _) rfl rfl rfl rfl rfl rfl rfl rfl ?_ | refine g_callR hC (h3) (nm [0]) rfl rfl (LeSs.refl _) rfl rfl rfl rfl rfl rfl rfl rfl ?_ | refine g_callR hC (h4) (nm [0]) rfl rfl (LeSs.refl _) rfl rfl rfl rfl rfl rfl rfl rfl ?_ | refine g_callR hC (h5) (nm [0]) rfl rfl (LeSs.refl _) rfl rfl rfl rfl rfl rfl rfl rfl ?_ | refine g_callR hC (hS) (nm [0]) rfl rfl (LeSs.refl _) rfl rfl rfl rfl rfl rfl rfl rfl ?_ | refine g_callR hC (h6) (nm [0]) rfl rfl (LeSs.refl _) rfl rfl rfl rfl rfl rfl rfl rfl ?_ | refine g_callR hC (h7) (nm [0]) rfl rfl (LeSs.refl _) rfl rfl rfl rfl rfl rfl rfl rfl ?_ | refine g_retl T (.inl rfl) rfl ?_
    rw [show IntKind.i64.wrap (1 * z) = z by rw [wrap64 (by omega)]; omega]
    exact g_fin ⟨.inl rfl, id, _, rfl, .refl _, ⟨rfl, trivial⟩, rfl, rfl⟩
end
end Hw.Pa
namespace Hw.Pa
open Go Go.Proofs Hw.M

def dR (a : Nat) (d : Desc) : RL := [(1, .box [.p (ks d.n), .ar a, .ar (a + 1), .ar (a + 2), .ar (a + 3), .ar (a + 4), .ar (a + 5), .ar (a + 6)]), (a, .arr 2 (d.types.map nodeTR)), (a + 1, .arr 2 (d.globals.map fieldR)), (a + 2, .arr 5 (d.procs.map procR)), (a + 3, .arr 7 (d.measures.map measureR)), (a + 4, .arr 6 (d.invs.map invR)), (a + 5, .arr 5 (d.pots.map potR)), (a + 6, .arr 5 (d.bounds.map boundR))]
def cntD (d : Desc) : Nat := d.types.length + d.globals.length + d.procs.length + d.measures.length + d.invs.length + d.pots.length + d.bounds.length
def kwI (l : List Tok) (i : Nat) : Bool := isA l i (⟨#[116, 121, 112, 101]⟩ : ByteArray) || isA l i (⟨#[118, 97, 114]⟩ : ByteArray) || isA l i (⟨#[112, 114, 111, 99]⟩ : ByteArray) || isA l i (⟨#[109, 101, 97, 115, 117, 114, 101]⟩ : ByteArray) || isA l i (⟨#[105, 110, 118, 97, 114, 105, 97, 110, 116]⟩ : ByteArray) || isA l i (⟨#[112, 111, 116, 101, 110, 116, 105, 97, 108]⟩ : ByteArray) || isA l i (⟨#[98, 111, 117, 110, 100]⟩ : ByteArray)
section
variable {l : List Tok} (hl : GoodL l)
include hl
theorem pitem_no (f i : Nat) (d : Desc) (hi : i < l.length) (hk : kwI l i = false) : FnOK Tryz.prog 28 [rdV, .one (.bx 1 0)] ((0, rdR l i false) :: dR 2 d) (Bo false) ((0, rdR l i false) :: dR 2 d) := by
  unfold kwI at hk
  simp only [Bool.or_eq_false_iff] at hk
  obtain ⟨⟨⟨⟨⟨⟨h1, h2⟩, h3⟩, h4⟩, h5⟩, h6⟩, h7⟩ := hk
  rw [← Bool.not_eq_true] at h1 h2 h3 h4 h5 h6 h7
  refine fn_ok T Tryz.func28 (by kernel_rfl) rfl rfl rfl rfl fun C hC => ?_
  repeat' first | refine g_go T hC true 400 rfl rfl ?_ | (exfalso; simp at h; done) | refine g_cond rfl (fun h => ?_) (fun h => ?_) | refine g_end T hC (by kernel_rfl) ?_ | refine g_splitD (fun h => ?_) (fun h => ?_) | refine g_callR hC ((pskip_n hl hi (by assumption))) (nm [0]) rfl rfl (LeSs.refl _) rfl rfl rfl rfl rfl rfl rfl rfl ?_ | refine g_retl T (.inl rfl) rfl ?_
  exact g_fin ⟨.inl rfl, id, _, rfl, .refl _, ⟨rfl, rfl, rfl, rfl, rfl, rfl, rfl, rfl, rfl, trivial⟩, rfl, rfl⟩
set_option maxHeartbeats 1000000 in
theorem pitem_type (f i : Nat) (d : Desc) (hi : i < l.length) (hd : cntD d ≤ 2000000) {xf : Desc} {jf : Nat} {bf : Bool} (hR : itemJ l f i d = some (xf, jf, bf))  (hs : isA l i (⟨#[116, 121, 112, 101]⟩ : ByteArray) = true) : jf < l.length ∧ cntD xf ≤ cntD d + 1 ∧ FnOK Tryz.prog 28 [rdV, .one (.bx 1 0)] ((0, rdR l i false) :: dR 2 d) (Bo true) ((0, rdR l jf bf) :: dR 9 xf) := by
  have hi1 := isA_next hl hs
  unfold cntD at hd
  simp only [itemJ] at hR
  rw [if_pos hs] at hR
  obtain ⟨n, k1, b1, e1, hR⟩ := tgo (b := false) (w := { d with types := d.types ++ [⟨(⟨#[]⟩ : ByteArray), []⟩] }) (k := i + 1) hR (⟨#[]⟩ : ByteArray) rfl
  obtain ⟨hk1, c1⟩ := name_rt hl hi1 false _ _ _ e1
  obtain ⟨_, k2, b2, e2, hR⟩ := tgo hR () rfl
  obtain ⟨hk2, c2⟩ := one_rt hl hk1 b1 _ _ _ _ e2
  obtain ⟨fs, k3, b3, e3, hR⟩ := tgo hR [] rfl
  obtain ⟨hkf, c3⟩ := listF_rt hl hk2 b2 _ _ f _ _ _ e3
  obtain ⟨rfl, rfl, rfl⟩ := tfin hR
  refine ⟨hkf, by simp only [cntD, List.length_append, List.length_singleton]; omega, ?_⟩
  clear hR
  refine fn_ok T Tryz.func28 (by kernel_rfl) rfl rfl rfl rfl fun C hC => ?_
  repeat' first | refine g_go T hC true 400 rfl rfl ?_ | (exfalso; simp at h; done) | refine g_cond rfl (fun h => ?_) (fun h => ?_) | refine g_end T hC (by kernel_rfl) ?_ | refine g_splitD (fun h => ?_) (fun h => ?_) | refine g_callR hC ((pskip_n hl hi (by assumption))) (nm [0]) rfl rfl (LeSs.refl _) rfl rfl rfl rfl rfl rfl rfl rfl ?_ | refine g_callR hC ((pskip_y hl hs)) (nm [0]) rfl rfl (LeSs.refl _) rfl rfl rfl rfl rfl rfl rfl rfl ?_ | refine g_callR hC (c1) (nm [0]) rfl rfl (LeSs.refl _) rfl rfl rfl rfl rfl rfl rfl rfl ?_ | refine g_callR hC (c2) (nm [0]) rfl rfl (LeSs.refl _) rfl rfl rfl rfl rfl rfl rfl rfl ?_ | refine g_mkF hC rfl rfl rfl rfl rfl rfl ?_ | refine g_callR hC (c3) (nm [0]) rfl rfl (LeSs.refl _) rfl rfl rfl rfl rfl rfl rfl rfl ?_ | refine g_lit T hC (rows := [nodeTR (⟨n, fs⟩ : NodeT)]) rfl rfl rfl rfl rfl rfl rfl rfl rfl ?_ | (refine g_append T 102 hC (rows := d.types.map nodeTR) (rows2 := [nodeTR (⟨n, fs⟩ : NodeT)]) (rows3 := (d.types ++ [(⟨n, fs⟩ : NodeT)]).map nodeTR) (bytes := 40) rfl rfl rfl rfl (SrcS.sl (T.es_ok _ _ rfl)) (by rw [List.map_append]; rfl) rfl rfl rfl (by kernel_rfl) (by rw [List.length_map, List.length_singleton]; omega) (by rw [List.length_map, List.length_singleton]; omega) rfl rfl rfl ?_) | refine g_retl T (.inl rfl) rfl ?_
  exact g_fin ⟨.inl rfl, nm [0, 1, 2, 3, 4, 5, 6, 7, 8, 102, 3, 4, 5, 6, 7, 8], _, rfl, .refl _, ⟨rfl, rfl, rfl, rfl, rfl, rfl, rfl, rfl, rfl, trivial⟩, rfl, rfl⟩
set_option maxHeartbeats 1000000 in
theorem pitem_var (f i : Nat) (d : Desc) (hi : i < l.length) (hd : cntD d ≤ 2000000) {xf : Desc} {jf : Nat} {bf : Bool} (hR : itemJ l f i d = some (xf, jf, bf)) (h1 : ¬ isA l i (⟨#[116, 121, 112, 101]⟩ : ByteArray) = true) (hs : isA l i (⟨#[118, 97, 114]⟩ : ByteArray) = true) : jf < l.length ∧ cntD xf ≤ cntD d + 1 ∧ FnOK Tryz.prog 28 [rdV, .one (.bx 1 0)] ((0, rdR l i false) :: dR 2 d) (Bo true) ((0, rdR l jf bf) :: dR 9 xf) := by
  have hi1 := isA_next hl hs
  unfold cntD at hd
  simp only [itemJ] at hR
  rw [if_neg h1] at hR
  rw [if_pos hs] at hR
  obtain ⟨x, k1, b1, e1, hR⟩ := tgo (b := false) (w := { d with globals := d.globals ++ [F0] }) (k := i + 1) hR F0 rfl
  obtain ⟨hkf, c1⟩ := field_rt hl hi1 false _ _ _ e1
  obtain ⟨rfl, rfl, rfl⟩ := tfin hR
  refine ⟨hkf, by simp only [cntD, List.length_append, List.length_singleton]; omega, ?_⟩
  clear hR
  refine fn_ok T Tryz.func28 (by kernel_rfl) rfl rfl rfl rfl fun C hC => ?_
  repeat' first | refine g_go T hC true 400 rfl rfl ?_ | (exfalso; simp at h; done) | refine g_cond rfl (fun h => ?_) (fun h => ?_) | refine g_end T hC (by kernel_rfl) ?_ | refine g_splitD (fun h => ?_) (fun h => ?_) | refine g_callR hC ((pskip_n hl hi (by assumption))) (nm [0]) rfl rfl (LeSs.refl _) rfl rfl rfl rfl rfl rfl rfl rfl ?_ | refine g_callR hC ((pskip_y hl hs)) (nm [0]) rfl rfl (LeSs.refl _) rfl rfl rfl rfl rfl rfl rfl rfl ?_ | refine g_callR hC (c1) (nm [0]) rfl rfl (LeSs.refl _) rfl rfl rfl rfl rfl rfl rfl rfl ?_ | refine g_lit T hC (rows := [fieldR x]) rfl rfl rfl rfl rfl rfl rfl rfl rfl ?_ | (refine g_append T 102 hC (rows := d.globals.map fieldR) (rows2 := [fieldR x]) (rows3 := (d.globals ++ [x]).map fieldR) (bytes := 32) rfl rfl rfl rfl (SrcS.sl (T.es_ok _ _ rfl)) (by rw [List.map_append]; rfl) rfl rfl rfl (by kernel_rfl) (by rw [List.length_map, List.length_singleton]; omega) (by rw [List.length_map, List.length_singleton]; omega) rfl rfl rfl ?_) | refine g_retl T (.inl rfl) rfl ?_
  exact g_fin ⟨.inl rfl, nm [0, 1, 2, 3, 4, 5, 6, 7, 8, 2, 102, 4, 5, 6, 7, 8], _, rfl, .refl _, ⟨rfl, rfl, rfl, rfl, rfl, rfl, rfl, rfl, rfl, trivial⟩, rfl, rfl⟩
set_option maxHeartbeats 1000000 in
theorem pitem_proc (f i : Nat) (d : Desc) (hi : i < l.length) (hd : cntD d ≤ 2000000) {xf : Desc} {jf : Nat} {bf : Bool} (hR : itemJ l f i d = some (xf, jf, bf)) (h1 : ¬ isA l i (⟨#[116, 121, 112, 101]⟩ : ByteArray) = true) (h2 : ¬ isA l i (⟨#[118, 97, 114]⟩ : ByteArray) = true) (hs : isA l i (⟨#[112, 114, 111, 99]⟩ : ByteArray) = true) : jf < l.length ∧ cntD xf ≤ cntD d + 1 ∧ FnOK Tryz.prog 28 [rdV, .one (.bx 1 0)] ((0, rdR l i false) :: dR 2 d) (Bo true) ((0, rdR l jf bf) :: dR 9 xf) := by
  have hi1 := isA_next hl hs
  unfold cntD at hd
  simp only [itemJ] at hR
  rw [if_neg h1] at hR
  rw [if_neg h2] at hR
  rw [if_pos hs] at hR
  obtain ⟨x, k1, b1, e1, hR⟩ := tgo (b := false) (w := { d with procs := d.procs ++ [⟨(⟨#[]⟩ : ByteArray), [], (⟨#[]⟩ : ByteArray), [], []⟩] }) (k := i + 1) hR ⟨(⟨#[]⟩ : ByteArray), [], (⟨#[]⟩ : ByteArray), [], []⟩ rfl
  obtain ⟨hkf, c1⟩ := pproc_ok hl f _ hi1 _ _ _ e1
  obtain ⟨rfl, rfl, rfl⟩ := tfin hR
  refine ⟨hkf, by simp only [cntD, List.length_append, List.length_singleton]; omega, ?_⟩
  clear hR
  refine fn_ok T Tryz.func28 (by kernel_rfl) rfl rfl rfl rfl fun C hC => ?_
  repeat' first | refine g_go T hC true 400 rfl rfl ?_ | (exfalso; simp at h; done) | refine g_cond rfl (fun h => ?_) (fun h => ?_) | refine g_end T hC (by kernel_rfl) ?_ | refine g_splitD (fun h => ?_) (fun h => ?_) | refine g_callR hC ((pskip_n hl hi (by assumption))) (nm [0]) rfl rfl (LeSs.refl _) rfl rfl rfl rfl rfl rfl rfl rfl ?_ | refine g_callR hC ((pskip_y hl hs)) (nm [0]) rfl rfl (LeSs.refl _) rfl rfl rfl rfl rfl rfl rfl rfl ?_ | refine g_callR hC (c1) (nm [0]) rfl rfl (LeSs.refl _) rfl rfl rfl rfl rfl rfl rfl rfl ?_ | refine g_lit T hC (rows := [procR x]) rfl rfl rfl rfl rfl rfl rfl rfl rfl ?_ | (refine g_append T 102 hC (rows := d.procs.map procR) (rows2 := [procR x]) (rows3 := (d.procs ++ [x]).map procR) (bytes := 104) rfl rfl rfl rfl (SrcS.sl (T.es_ok _ _ rfl)) (by rw [List.map_append]; rfl) rfl rfl rfl (by kernel_rfl) (by rw [List.length_map, List.length_singleton]; omega) (by rw [List.length_map, List.length_singleton]; omega) rfl rfl rfl ?_) | refine g_retl T (.inl rfl) rfl ?_
  exact g_fin ⟨.inl rfl, nm [0, 1, 2, 3, 4, 5, 6, 7, 8, 2, 3, 102, 5, 6, 7, 8], _, rfl, .refl _, ⟨rfl, rfl, rfl, rfl, rfl, rfl, rfl, rfl, rfl, trivial⟩, rfl, rfl⟩
set_option maxHeartbeats 1000000 in
theorem pitem_measure (f i : Nat) (d : Desc) (hi : i < l.length) (hd : cntD d ≤ 2000000) {xf : Desc} {jf : Nat} {bf : Bool} (hR : itemJ l f i d = some (xf, jf, bf)) (h1 : ¬ isA l i (⟨#[116, 121, 112, 101]⟩ : ByteArray) = true) (h2 : ¬ isA l i (⟨#[118, 97, 114]⟩ : ByteArray) = true) (h3 : ¬ isA l i (⟨#[112, 114, 111, 99]⟩ : ByteArray) = true) (hs : isA l i (⟨#[109, 101, 97, 115, 117, 114, 101]⟩ : ByteArray) = true) : jf < l.length ∧ cntD xf ≤ cntD d + 1 ∧ FnOK Tryz.prog 28 [rdV, .one (.bx 1 0)] ((0, rdR l i false) :: dR 2 d) (Bo true) ((0, rdR l jf bf) :: dR 9 xf) := by
  have hi1 := isA_next hl hs
  unfold cntD at hd
  simp only [itemJ] at hR
  rw [if_neg h1] at hR
  rw [if_neg h2] at hR
  rw [if_neg h3] at hR
  rw [if_pos hs] at hR
  obtain ⟨x, k1, b1, e1, hR⟩ := tgo (b := false) (w := { d with measures := d.measures ++ [⟨(⟨#[]⟩ : ByteArray), (⟨#[]⟩ : ByteArray), 0, E0⟩] }) (k := i + 1) hR ⟨(⟨#[]⟩ : ByteArray), (⟨#[]⟩ : ByteArray), 0, E0⟩ rfl
  obtain ⟨hkf, c1⟩ := pmeasure_ok hl f _ hi1 _ _ _ e1
  obtain ⟨rfl, rfl, rfl⟩ := tfin hR
  refine ⟨hkf, by simp only [cntD, List.length_append, List.length_singleton]; omega, ?_⟩
  clear hR
  refine fn_ok T Tryz.func28 (by kernel_rfl) rfl rfl rfl rfl fun C hC => ?_
  repeat' first | refine g_go T hC true 400 rfl rfl ?_ | (exfalso; simp at h; done) | refine g_cond rfl (fun h => ?_) (fun h => ?_) | refine g_end T hC (by kernel_rfl) ?_ | refine g_splitD (fun h => ?_) (fun h => ?_) | refine g_callR hC ((pskip_n hl hi (by assumption))) (nm [0]) rfl rfl (LeSs.refl _) rfl rfl rfl rfl rfl rfl rfl rfl ?_ | refine g_callR hC ((pskip_y hl hs)) (nm [0]) rfl rfl (LeSs.refl _) rfl rfl rfl rfl rfl rfl rfl rfl ?_ | refine g_callR hC (c1) (nm [0]) rfl rfl (LeSs.refl _) rfl rfl rfl rfl rfl rfl rfl rfl ?_ | refine g_lit T hC (rows := [measureR x]) rfl rfl rfl rfl rfl rfl rfl rfl rfl ?_ | (refine g_append T 102 hC (rows := d.measures.map measureR) (rows2 := [measureR x]) (rows3 := (d.measures ++ [x]).map measureR) (bytes := 96) rfl rfl rfl rfl (SrcS.sl (T.es_ok _ _ rfl)) (by rw [List.map_append]; rfl) rfl rfl rfl (by kernel_rfl) (by rw [List.length_map, List.length_singleton]; omega) (by rw [List.length_map, List.length_singleton]; omega) rfl rfl rfl ?_) | refine g_retl T (.inl rfl) rfl ?_
  exact g_fin ⟨.inl rfl, nm [0, 1, 2, 3, 4, 5, 6, 7, 8, 2, 3, 4, 102, 6, 7, 8], _, rfl, .refl _, ⟨rfl, rfl, rfl, rfl, rfl, rfl, rfl, rfl, rfl, trivial⟩, rfl, rfl⟩
set_option maxHeartbeats 1000000 in
theorem pitem_bound (f i : Nat) (d : Desc) (hi : i < l.length) (hd : cntD d ≤ 2000000) {xf : Desc} {jf : Nat} {bf : Bool} (hR : itemJ l f i d = some (xf, jf, bf)) (h1 : ¬ isA l i (⟨#[116, 121, 112, 101]⟩ : ByteArray) = true) (h2 : ¬ isA l i (⟨#[118, 97, 114]⟩ : ByteArray) = true) (h3 : ¬ isA l i (⟨#[112, 114, 111, 99]⟩ : ByteArray) = true) (h4 : ¬ isA l i (⟨#[109, 101, 97, 115, 117, 114, 101]⟩ : ByteArray) = true) (h5 : ¬ isA l i (⟨#[105, 110, 118, 97, 114, 105, 97, 110, 116]⟩ : ByteArray) = true) (h6 : ¬ isA l i (⟨#[112, 111, 116, 101, 110, 116, 105, 97, 108]⟩ : ByteArray) = true) (hs : isA l i (⟨#[98, 111, 117, 110, 100]⟩ : ByteArray) = true) : jf < l.length ∧ cntD xf ≤ cntD d + 1 ∧ FnOK Tryz.prog 28 [rdV, .one (.bx 1 0)] ((0, rdR l i false) :: dR 2 d) (Bo true) ((0, rdR l jf bf) :: dR 9 xf) := by
  have hi1 := isA_next hl hs
  unfold cntD at hd
  simp only [itemJ] at hR
  rw [if_neg h1] at hR
  rw [if_neg h2] at hR
  rw [if_neg h3] at hR
  rw [if_neg h4] at hR
  rw [if_neg h5] at hR
  rw [if_neg h6] at hR
  rw [if_pos hs] at hR
  obtain ⟨n, k1, b1, e1, hR⟩ := tgo (b := false) (w := { d with bounds := d.bounds ++ [⟨(⟨#[]⟩ : ByteArray), E0⟩] }) (k := i + 1) hR (⟨#[]⟩ : ByteArray) rfl
  obtain ⟨hk1, c1⟩ := name_rt hl hi1 false _ _ _ e1
  obtain ⟨x, k2, b2, e2, hR⟩ := tgo hR E0 rfl
  obtain ⟨hkf, c2⟩ := formula_rt hl hk1 b1 f _ _ _ e2
  obtain ⟨rfl, rfl, rfl⟩ := tfin hR
  refine ⟨hkf, by simp only [cntD, List.length_append, List.length_singleton]; omega, ?_⟩
  clear hR
  refine fn_ok T Tryz.func28 (by kernel_rfl) rfl rfl rfl rfl fun C hC => ?_
  repeat' first | refine g_go T hC true 400 rfl rfl ?_ | (exfalso; simp at h; done) | refine g_cond rfl (fun h => ?_) (fun h => ?_) | refine g_end T hC (by kernel_rfl) ?_ | refine g_splitD (fun h => ?_) (fun h => ?_) | refine g_callR hC ((pskip_n hl hi (by assumption))) (nm [0]) rfl rfl (LeSs.refl _) rfl rfl rfl rfl rfl rfl rfl rfl ?_ | refine g_callR hC ((pskip_y hl hs)) (nm [0]) rfl rfl (LeSs.refl _) rfl rfl rfl rfl rfl rfl rfl rfl ?_ | refine g_callR hC (c1) (nm [0]) rfl rfl (LeSs.refl _) rfl rfl rfl rfl rfl rfl rfl rfl ?_ | refine g_callR hC (c2) (nm [0]) rfl rfl (LeSs.refl _) rfl rfl rfl rfl rfl rfl rfl rfl ?_ | refine g_lit T hC (rows := [boundR (⟨n, x⟩ : Bd)]) rfl rfl rfl rfl rfl rfl rfl rfl rfl ?_ | (refine g_append T 102 hC (rows := d.bounds.map boundR) (rows2 := [boundR (⟨n, x⟩ : Bd)]) (rows3 := (d.bounds ++ [(⟨n, x⟩ : Bd)]).map boundR) (bytes := 72) rfl rfl rfl rfl (SrcS.sl (T.es_ok _ _ rfl)) (by rw [List.map_append]; rfl) rfl rfl rfl (by kernel_rfl) (by rw [List.length_map, List.length_singleton]; omega) (by rw [List.length_map, List.length_singleton]; omega) rfl rfl rfl ?_) | refine g_retl T (.inl rfl) rfl ?_
  exact g_fin ⟨.inl rfl, nm [0, 1, 2, 3, 4, 5, 6, 7, 8, 2, 3, 4, 5, 6, 7, 102], _, rfl, .refl _, ⟨rfl, rfl, rfl, rfl, rfl, rfl, rfl, rfl, rfl, trivial⟩, rfl, rfl⟩
set_option maxHeartbeats 1000000 in
theorem pitem_potential (f i : Nat) (d : Desc) (hi : i < l.length) (hd : cntD d ≤ 2000000) {xf : Desc} {jf : Nat} {bf : Bool} (hR : itemJ l f i d = some (xf, jf, bf)) (h1 : ¬ isA l i (⟨#[116, 121, 112, 101]⟩ : ByteArray) = true) (h2 : ¬ isA l i (⟨#[118, 97, 114]⟩ : ByteArray) = true) (h3 : ¬ isA l i (⟨#[112, 114, 111, 99]⟩ : ByteArray) = true) (h4 : ¬ isA l i (⟨#[109, 101, 97, 115, 117, 114, 101]⟩ : ByteArray) = true) (h5 : ¬ isA l i (⟨#[105, 110, 118, 97, 114, 105, 97, 110, 116]⟩ : ByteArray) = true) (hs : isA l i (⟨#[112, 111, 116, 101, 110, 116, 105, 97, 108]⟩ : ByteArray) = true) : jf < l.length ∧ cntD xf ≤ cntD d + 1 ∧ FnOK Tryz.prog 28 [rdV, .one (.bx 1 0)] ((0, rdR l i false) :: dR 2 d) (Bo true) ((0, rdR l jf bf) :: dR 9 xf) := by
  have hi1 := isA_next hl hs
  unfold cntD at hd
  simp only [itemJ] at hR
  rw [if_neg h1] at hR
  rw [if_neg h2] at hR
  rw [if_neg h3] at hR
  rw [if_neg h4] at hR
  rw [if_neg h5] at hR
  rw [if_pos hs] at hR
  obtain ⟨t, k1, b1, e1, hR1⟩ := tgo (b := false) (w := { d with pots := d.pots ++ [⟨(⟨#[]⟩ : ByteArray), E0⟩] }) (k := i + 1) hR (⟨#[]⟩ : ByteArray) rfl
  clear hR
  simp only [tJ] at e1
  by_cases hq : isA l (i + 1) (⟨#[61]⟩ : ByteArray) = true
  · rw [if_pos hq] at e1
    have hfin : t = (⟨#[]⟩ : ByteArray) ∧ k1 = i + 1 ∧ b1 = false := by cases e1; exact ⟨rfl, rfl, rfl⟩
    obtain ⟨rfl, rfl, rfl⟩ := hfin
    obtain ⟨x, k2, b2, e2, hR2⟩ := tgo hR1 E0 rfl
    obtain ⟨hkf, c2⟩ := formula_rt hl hi1 false f _ _ _ e2
    obtain ⟨rfl, rfl, rfl⟩ := tfin hR2
    refine ⟨hkf, by simp only [cntD, List.length_append, List.length_singleton]; omega, ?_⟩
    clear hR1 hR2
    refine fn_ok T Tryz.func28 (by kernel_rfl) rfl rfl rfl rfl fun C hC => ?_
    repeat' first | refine g_go T hC true 400 rfl rfl ?_ | (exfalso; simp at h; done) | refine g_cond rfl (fun h => ?_) (fun h => ?_) | refine g_end T hC (by kernel_rfl) ?_ | refine g_splitD (fun h => ?_) (fun h => ?_) | refine g_callR hC ((pskip_n hl hi (by assumption))) (nm [0]) rfl rfl (LeSs.refl _) rfl rfl rfl rfl rfl rfl rfl rfl ?_ | refine g_callR hC ((pskip_y hl hs)) (nm [0]) rfl rfl (LeSs.refl _) rfl rfl rfl rfl rfl rfl rfl rfl ?_ | refine g_callR hC ((pis_y hl hq)) (nm [0]) rfl rfl (LeSs.refl _) rfl rfl rfl rfl rfl rfl rfl rfl ?_ | refine g_callR hC (c2) (nm [0]) rfl rfl (LeSs.refl _) rfl rfl rfl rfl rfl rfl rfl rfl ?_ | refine g_lit T hC (rows := [potR (⟨(⟨#[]⟩ : ByteArray), x⟩ : Pt)]) rfl rfl rfl rfl rfl rfl rfl rfl rfl ?_ | (refine g_append T 102 hC (rows := d.pots.map potR) (rows2 := [potR (⟨(⟨#[]⟩ : ByteArray), x⟩ : Pt)]) (rows3 := (d.pots ++ [(⟨(⟨#[]⟩ : ByteArray), x⟩ : Pt)]).map potR) (bytes := 72) rfl rfl rfl rfl (SrcS.sl (T.es_ok _ _ rfl)) (by rw [List.map_append]; rfl) rfl rfl rfl (by kernel_rfl) (by rw [List.length_map, List.length_singleton]; omega) (by rw [List.length_map, List.length_singleton]; omega) rfl rfl rfl ?_) | refine g_retl T (.inl rfl) rfl ?_
    exact g_fin ⟨.inl rfl, nm [0, 1, 2, 3, 4, 5, 6, 7, 8, 2, 3, 4, 5, 6, 102, 8], _, rfl, .refl _, ⟨rfl, rfl, rfl, rfl, rfl, rfl, rfl, rfl, rfl, trivial⟩, rfl, rfl⟩
  · rw [if_neg hq] at e1
    obtain ⟨hk1, c1⟩ := name_rt hl hi1 false _ _ _ e1
    obtain ⟨x, k2, b2, e2, hR2⟩ := tgo hR1 E0 rfl
    obtain ⟨hkf, c2⟩ := formula_rt hl hk1 b1 f _ _ _ e2
    obtain ⟨rfl, rfl, rfl⟩ := tfin hR2
    refine ⟨hkf, by simp only [cntD, List.length_append, List.length_singleton]; omega, ?_⟩
    clear hR1 hR2
    refine fn_ok T Tryz.func28 (by kernel_rfl) rfl rfl rfl rfl fun C hC => ?_
    repeat' first | refine g_go T hC true 400 rfl rfl ?_ | (exfalso; simp at h; done) | refine g_cond rfl (fun h => ?_) (fun h => ?_) | refine g_end T hC (by kernel_rfl) ?_ | refine g_splitD (fun h => ?_) (fun h => ?_) | refine g_callR hC ((pskip_n hl hi (by assumption))) (nm [0]) rfl rfl (LeSs.refl _) rfl rfl rfl rfl rfl rfl rfl rfl ?_ | refine g_callR hC ((pskip_y hl hs)) (nm [0]) rfl rfl (LeSs.refl _) rfl rfl rfl rfl rfl rfl rfl rfl ?_ | refine g_callR hC ((pis_n hl hi1 hq)) (nm [0]) rfl rfl (LeSs.refl _) rfl rfl rfl rfl rfl rfl rfl rfl ?_ | refine g_callR hC (c1) (nm [0]) rfl rfl (LeSs.refl _) rfl rfl rfl rfl rfl rfl rfl rfl ?_ | refine g_callR hC (c2) (nm [0]) rfl rfl (LeSs.refl _) rfl rfl rfl rfl rfl rfl rfl rfl ?_ | refine g_lit T hC (rows := [potR (⟨t, x⟩ : Pt)]) rfl rfl rfl rfl rfl rfl rfl rfl rfl ?_ | (refine g_append T 102 hC (rows := d.pots.map potR) (rows2 := [potR (⟨t, x⟩ : Pt)]) (rows3 := (d.pots ++ [(⟨t, x⟩ : Pt)]).map potR) (bytes := 72) rfl rfl rfl rfl (SrcS.sl (T.es_ok _ _ rfl)) (by rw [List.map_append]; rfl) rfl rfl rfl (by kernel_rfl) (by rw [List.length_map, List.length_singleton]; omega) (by rw [List.length_map, List.length_singleton]; omega) rfl rfl rfl ?_) | refine g_retl T (.inl rfl) rfl ?_
    exact g_fin ⟨.inl rfl, nm [0, 1, 2, 3, 4, 5, 6, 7, 8, 2, 3, 4, 5, 6, 102, 8], _, rfl, .refl _, ⟨rfl, rfl, rfl, rfl, rfl, rfl, rfl, rfl, rfl, trivial⟩, rfl, rfl⟩
set_option maxHeartbeats 1000000 in
theorem pitem_invariant (f i : Nat) (d : Desc) (hi : i < l.length) (hd : cntD d ≤ 2000000) {xf : Desc} {jf : Nat} {bf : Bool} (hR : itemJ l f i d = some (xf, jf, bf)) (h1 : ¬ isA l i (⟨#[116, 121, 112, 101]⟩ : ByteArray) = true) (h2 : ¬ isA l i (⟨#[118, 97, 114]⟩ : ByteArray) = true) (h3 : ¬ isA l i (⟨#[112, 114, 111, 99]⟩ : ByteArray) = true) (h4 : ¬ isA l i (⟨#[109, 101, 97, 115, 117, 114, 101]⟩ : ByteArray) = true) (hs : isA l i (⟨#[105, 110, 118, 97, 114, 105, 97, 110, 116]⟩ : ByteArray) = true) : jf < l.length ∧ cntD xf ≤ cntD d + 1 ∧ FnOK Tryz.prog 28 [rdV, .one (.bx 1 0)] ((0, rdR l i false) :: dR 2 d) (Bo true) ((0, rdR l jf bf) :: dR 9 xf) := by
  have hi1 := isA_next hl hs
  unfold cntD at hd
  simp only [itemJ] at hR
  rw [if_neg h1] at hR
  rw [if_neg h2] at hR
  rw [if_neg h3] at hR
  rw [if_neg h4] at hR
  rw [if_pos hs] at hR
  obtain ⟨n, k1, b1, e1, hR1⟩ := tgo (b := false) (w := { d with invs := d.invs ++ [⟨(⟨#[]⟩ : ByteArray), (⟨#[]⟩ : ByteArray), E0⟩] }) (k := i + 1) hR (⟨#[]⟩ : ByteArray) rfl
  obtain ⟨hk1, c1⟩ := name_rt hl hi1 false _ _ _ e1
  obtain ⟨t, k2, b2, e2, hR2⟩ := tgo hR1 (⟨#[]⟩ : ByteArray) rfl
  clear hR hR1
  have hS := skip_rt hl hk1 b1 (⟨#[40]⟩ : ByteArray)
  by_cases hq : isB l b1 k1 (⟨#[40]⟩ : ByteArray) = true
  · rw [hq] at hS
    have hb : b1 = false ∧ isA l k1 (⟨#[40]⟩ : ByteArray) = true := by unfold isB at hq; simpa using hq
    obtain ⟨rfl, hp⟩ := hb
    simp only [tJ] at e2
    rw [if_pos hp] at e2
    obtain ⟨t2, k3, b3, e3, e4⟩ := tgo (b := false) (w := (⟨#[]⟩ : ByteArray)) (k := k1 + 1) e2 (⟨#[]⟩ : ByteArray) rfl
    obtain ⟨hk3, c3⟩ := name_rt hl (isA_next hl hp) false _ _ _ e3
    obtain ⟨_, k4, b4, e5, e6⟩ := tgo e4 () rfl
    obtain ⟨hk4, c4⟩ := one_rt hl hk3 b3 _ _ _ _ e5
    obtain ⟨rfl, rfl, rfl⟩ := tfin e6
    obtain ⟨x, k5, b5, e7, hR3⟩ := tgo hR2 E0 rfl
    obtain ⟨hkf, c5⟩ := formula_rt hl hk4 _ f _ _ _ e7
    obtain ⟨rfl, rfl, rfl⟩ := tfin hR3
    refine ⟨hkf, by simp only [cntD, List.length_append, List.length_singleton]; omega, ?_⟩
    clear hR2 hR3
    refine fn_ok T Tryz.func28 (by kernel_rfl) rfl rfl rfl rfl fun C hC => ?_
    repeat' first | refine g_go T hC true 400 rfl rfl ?_ | (exfalso; simp at h; done) | refine g_cond rfl (fun h => ?_) (fun h => ?_) | refine g_end T hC (by kernel_rfl) ?_ | refine g_splitD (fun h => ?_) (fun h => ?_) | refine g_callR hC ((pskip_n hl hi (by assumption))) (nm [0]) rfl rfl (LeSs.refl _) rfl rfl rfl rfl rfl rfl rfl rfl ?_ | refine g_callR hC ((pskip_y hl hs)) (nm [0]) rfl rfl (LeSs.refl _) rfl rfl rfl rfl rfl rfl rfl rfl ?_ | refine g_callR hC (c1) (nm [0]) rfl rfl (LeSs.refl _) rfl rfl rfl rfl rfl rfl rfl rfl ?_ | refine g_callR hC (hS) (nm [0]) rfl rfl (LeSs.refl _) rfl rfl rfl rfl rfl rfl rfl rfl ?_ | refine g_callR hC (c3) (nm [0]) rfl rfl (LeSs.refl _) rfl rfl rfl rfl rfl rfl rfl rfl ?_ | refine g_callR hC (c4) (nm [0]) rfl rfl (LeSs.refl _) rfl rfl rfl rfl rfl rfl rfl rfl ?_ | refine g_callR hC (c5) (nm [0]) rfl rfl (LeSs.refl _) rfl rfl rfl rfl rfl rfl rfl rfl ?_ | refine g_lit T hC (rows := [invR (⟨n, t, x⟩ : Iv)]) rfl rfl rfl rfl rfl rfl rfl rfl rfl ?_ | (refine g_append T 102 hC (rows := d.invs.map invR) (rows2 := [invR (⟨n, t, x⟩ : Iv)]) (rows3 := (d.invs ++ [(⟨n, t, x⟩ : Iv)]).map invR) (bytes := 88) rfl rfl rfl rfl (SrcS.sl (T.es_ok _ _ rfl)) (by rw [List.map_append]; rfl) rfl rfl rfl (by kernel_rfl) (by rw [List.length_map, List.length_singleton]; omega) (by rw [List.length_map, List.length_singleton]; omega) rfl rfl rfl ?_) | refine g_retl T (.inl rfl) rfl ?_
    exact g_fin ⟨.inl rfl, nm [0, 1, 2, 3, 4, 5, 6, 7, 8, 2, 3, 4, 5, 102, 7, 8], _, rfl, .refl _, ⟨rfl, rfl, rfl, rfl, rfl, rfl, rfl, rfl, rfl, trivial⟩, rfl, rfl⟩
  · rw [Bool.not_eq_true] at hq
    rw [hq] at hS
    have hfin : t = (⟨#[]⟩ : ByteArray) ∧ k2 = k1 ∧ b2 = b1 := by
      cases b1 with
      | true => cases e2; exact ⟨rfl, rfl, rfl⟩
      | false =>
        have hp : ¬ isA l k1 (⟨#[40]⟩ : ByteArray) = true := by unfold isB at hq; simpa using hq
        simp only [tJ] at e2
        rw [if_neg hp] at e2
        cases e2; exact ⟨rfl, rfl, rfl⟩
    obtain ⟨rfl, rfl, rfl⟩ := hfin
    simp only [Bool.false_eq_true, if_false] at hS
    obtain ⟨x, k5, b5, e7, hR3⟩ := tgo hR2 E0 rfl
    obtain ⟨hkf, c5⟩ := formula_rt hl hk1 _ f _ _ _ e7
    obtain ⟨rfl, rfl, rfl⟩ := tfin hR3
    refine ⟨hkf, by simp only [cntD, List.length_append, List.length_singleton]; omega, ?_⟩
    clear hR2 hR3
    refine fn_ok T Tryz.func28 (by kernel_rfl) rfl rfl rfl rfl fun C hC => ?_
    repeat' first | refine g_go T hC true 400 rfl rfl ?_ | (exfalso; simp at h; done) | refine g_cond rfl (fun h => ?_) (fun h => ?_) | refine g_end T hC (by kernel_rfl) ?_ | refine g_splitD (fun h => ?_) (fun h => ?_) | refine g_callR hC ((pskip_n hl hi (by assumption))) (nm [0]) rfl rfl (LeSs.refl _) rfl rfl rfl rfl rfl rfl rfl rfl ?_ | refine g_callR hC ((pskip_y hl hs)) (nm [0]) rfl rfl (LeSs.refl _) rfl rfl rfl rfl rfl rfl rfl rfl ?_ | refine g_callR hC (c1) (nm [0]) rfl rfl (LeSs.refl _) rfl rfl rfl rfl rfl rfl rfl rfl ?_ | refine g_callR hC (hS) (nm [0]) rfl rfl (LeSs.refl _) rfl rfl rfl rfl rfl rfl rfl rfl ?_ | refine g_callR hC (c5) (nm [0]) rfl rfl (LeSs.refl _) rfl rfl rfl rfl rfl rfl rfl rfl ?_ | refine g_lit T hC (rows := [invR (⟨n, (⟨#[]⟩ : ByteArray), x⟩ : Iv)]) rfl rfl rfl rfl rfl rfl rfl rfl rfl ?_ | (refine g_append T 102 hC (rows := d.invs.map invR) (rows2 := [invR (⟨n, (⟨#[]⟩ : ByteArray), x⟩ : Iv)]) (rows3 := (d.invs ++ [(⟨n, (⟨#[]⟩ : ByteArray), x⟩ : Iv)]).map invR) (bytes := 88) rfl rfl rfl rfl (SrcS.sl (T.es_ok _ _ rfl)) (by rw [List.map_append]; rfl) rfl rfl rfl (by kernel_rfl) (by rw [List.length_map, List.length_singleton]; omega) (by rw [List.length_map, List.length_singleton]; omega) rfl rfl rfl ?_) | refine g_retl T (.inl rfl) rfl ?_
    exact g_fin ⟨.inl rfl, nm [0, 1, 2, 3, 4, 5, 6, 7, 8, 2, 3, 4, 5, 102, 7, 8], _, rfl, .refl _, ⟨rfl, rfl, rfl, rfl, rfl, rfl, rfl, rfl, rfl, trivial⟩, rfl, rfl⟩
theorem pitem_ok (f i : Nat) (d : Desc) (hi : i < l.length) (hd : cntD d ≤ 2000000) {xf : Desc} {jf : Nat} {bf : Bool} (hR : itemJ l f i d = some (xf, jf, bf)) (hk : kwI l i = true) : jf < l.length ∧ cntD xf ≤ cntD d + 1 ∧ FnOK Tryz.prog 28 [rdV, .one (.bx 1 0)] ((0, rdR l i false) :: dR 2 d) (Bo true) ((0, rdR l jf bf) :: dR 9 xf) := by
  by_cases h1 : isA l i (⟨#[116, 121, 112, 101]⟩ : ByteArray) = true
  · exact pitem_type hl f i d hi hd hR  h1
  by_cases h2 : isA l i (⟨#[118, 97, 114]⟩ : ByteArray) = true
  · exact pitem_var hl f i d hi hd hR h1 h2
  by_cases h3 : isA l i (⟨#[112, 114, 111, 99]⟩ : ByteArray) = true
  · exact pitem_proc hl f i d hi hd hR h1 h2 h3
  by_cases h4 : isA l i (⟨#[109, 101, 97, 115, 117, 114, 101]⟩ : ByteArray) = true
  · exact pitem_measure hl f i d hi hd hR h1 h2 h3 h4
  by_cases h5 : isA l i (⟨#[105, 110, 118, 97, 114, 105, 97, 110, 116]⟩ : ByteArray) = true
  · exact pitem_invariant hl f i d hi hd hR h1 h2 h3 h4 h5
  by_cases h6 : isA l i (⟨#[112, 111, 116, 101, 110, 116, 105, 97, 108]⟩ : ByteArray) = true
  · exact pitem_potential hl f i d hi hd hR h1 h2 h3 h4 h5 h6
  have h7 : isA l i (⟨#[98, 111, 117, 110, 100]⟩ : ByteArray) = true := by unfold kwI at hk; simpa [h1, h2, h3, h4, h5, h6] using hk
  exact pitem_bound hl f i d hi hd hR h1 h2 h3 h4 h5 h6 h7
end
end Hw.Pa
namespace Hw.Pa
open Go Go.Proofs Hw.M

def D0 : Desc := ⟨(⟨#[]⟩ : ByteArray), [], [], [], [], [], [], []⟩
def topD (l : List Tok) : Desc × (Int × Int) × Int := match descA l (10 * l.length + 13) with
  | .ok x j => match l[j]? with
    | some t => if t.k = 5 then if validD x = true then (x, (0, 0), 0) else (D0, (0, 0), 4) else (D0, (t.ln, t.cl), 7)
    | none => (D0, (0, 0), 0)
  | .no j => match l[j]? with
    | some t => (D0, (t.ln, t.cl), if t.k = 5 then 8 else 7)
    | none => (D0, (0, 0), 0)
  | .out => (D0, (0, 0), 0)
def descTop (s : Str) : Desc × (Int × Int) × Int := if (tokensS s).2.2 = 0 then topD (tokensS s).1 else (D0, (tokensS s).2.1, (tokensS s).2.2)
def mv7 (i : Nat) : Nat := match Nat.ble 101 i && Nat.ble i 107 with
  | true => i + 100
  | false => i
theorem mv7_low {i : Nat} (hi : i < 100) : mv7 i = i := by
  unfold mv7
  rw [show Nat.ble 101 i = false from by rw [Bool.eq_false_iff]; intro h; have := Nat.le_of_ble_eq_true h; omega]
  rfl
def dRb (d : Desc) : RL := [(1009, .box [.p (ks d.n), .ar 101, .ar 102, .ar 103, .ar 104, .ar 105, .ar 106, .ar 107]), (101, .arr 2 (d.types.map nodeTR)), (102, .arr 2 (d.globals.map fieldR)), (103, .arr 5 (d.procs.map procR)), (104, .arr 7 (d.measures.map measureR)), (105, .arr 6 (d.invs.map invR)), (106, .arr 5 (d.pots.map potR)), (107, .arr 5 (d.bounds.map boundR))]
abbrev zD : Res := .box (zV [ZK.str, ZK.slice, ZK.slice, ZK.slice, ZK.slice, ZK.slice, ZK.slice, ZK.slice])
theorem isA_two {l : List Tok} {i : Nat} {a b : Str} (h1 : isA l i a = true) (h2 : isA l i b = true) : a = b := by
  unfold isA at h1 h2
  split at h1
  · rename_i t ht
    rw [ht] at h2
    simp only [Bool.and_eq_true, decide_eq_true_eq] at h1 h2
    rw [← h1.2, h2.2]
  · cases h1
theorem kwI_not {l : List Tok} {i : Nat} (h : kwI l i = true) : ¬ isA l i ⟨#[125]⟩ = true := by
  intro h2
  unfold kwI at h
  simp only [Bool.or_eq_true] at h
  rcases h with (((((h | h) | h) | h) | h) | h) | h
  all_goals exact absurd (isA_two h h2) (by decide)
theorem itemJ_no {l : List Tok} {f i : Nat} {d : Desc} (h : kwI l i = false) : itemJ l f i d = some (d, i, true) := by
  unfold kwI at h
  simp only [Bool.or_eq_false_iff] at h
  obtain ⟨⟨⟨⟨⟨⟨h1, h2⟩, h3⟩, h4⟩, h5⟩, h6⟩, h7⟩ := h
  unfold itemJ
  rw [h1, h2, h3, h4, h5, h6, h7]
  rfl
theorem parse_bad_le {p q e : Int} : LeS (.tup [.agg [.p (ks (⟨#[]⟩ : ByteArray)), .p (.k (.slice none 0 0)), .p (.k (.slice none 0 0)), .p (.k (.slice none 0 0)), .p (.k (.slice none 0 0)), .p (.k (.slice none 0 0)), .p (.k (.slice none 0 0)), .p (.k (.slice none 0 0))], posS (p, q), I e]) (.tup [aggS (descR D0), posS (p, q), I e]) :=
  .tup (.cons (.agg (.cons (.refl _) (.cons (.nil 2) (.cons (.nil 2) (.cons (.nil 5) (.cons (.nil 7) (.cons (.nil 6) (.cons (.nil 5) (.cons (.nil 5) .nil))))))))) (.cons (.refl _) (.cons (.refl _) .nil)))
def ansD (b : Bool) (t : Tok) (x : Desc) : Desc × (Int × Int) × Int := match b with
  | true => (D0, (t.ln, t.cl), if t.k = 5 then 8 else 7)
  | false => if t.k = 5 then if validD x = true then (x, (0, 0), 0) else (D0, (0, 0), 4) else (D0, (t.ln, t.cl), 7)
set_option maxHeartbeats 2000000 in
theorem parserParse_ok (s : Str) (hs : s.size ≤ 1000000) : FnOK Tryz.prog 9 [Sr s] [] (.tup [aggS (descR (descTop s).1), posS (descTop s).2.1, I (descTop s).2.2]) [] := by
  have hT := lexTokens_ok s hs
  unfold descTop
  rcases tokens_good s with ⟨l, he, hl, _⟩ | ⟨⟨q1, q2⟩, e, he, h74⟩
  rotate_left
  · rw [he] at hT ⊢
    simp only at hT ⊢
    have h0 : ¬ e = 0 := by omega
    rw [if_neg h0]
    refine fn_ok T Tryz.func9 (by kernel_rfl) rfl rfl rfl rfl fun C hC => ?_
    repeat' first | refine g_go T hC true 400 rfl rfl ?_ | (exfalso; exact absurd (by simpa using h) h0) | refine g_cond rfl (fun h => ?_) (fun h => ?_) | refine g_end T hC (by kernel_rfl) ?_ | refine g_splitD (fun h => ?_) (fun h => ?_) | refine g_splitG rfl rfl rfl (fun h => ?_) (fun h => ?_) | refine g_splitP rfl rfl (fun h => ?_) (fun h => ?_) | refine g_call hC (hT) rfl rfl (LeSs.refl _) rfl rfl rfl ?_ | refine g_retl T (.inl rfl) rfl ?_
    exact g_fin ⟨.inl rfl, id, _, rfl, parse_bad_le, trivial, rfl, rfl⟩
  rw [he] at hT ⊢
  simp only [if_true] at hT ⊢
  have hll := hl.len
  have h0 : 0 < l.length := by
    obtain ⟨t, ht, _⟩ := hl.fin
    have := (List.getElem?_eq_some_iff.1 ht).1
    omega
  unfold topD
  generalize hF : 10 * l.length + 13 = F
  have hout := desc_out (l := l) (f := F) (by omega)
  have hJ := er_desc (l := l) F
  cases hx : descJ l F with
  | none => rw [hx] at hJ; exact absurd hJ.symm hout
  | some q =>
  obtain ⟨xf, jf, bf⟩ := q
  obtain ⟨_, k1, b1, e1, hR1⟩ := tgo (b := false) (w := D0) (k := 0) hx () rfl
  obtain ⟨hk1, c1⟩ := one_rt hl h0 false _ _ _ _ e1
  obtain ⟨n, k2, b2, e2, hR2⟩ := tgo hR1 (⟨#[]⟩ : ByteArray) rfl
  obtain ⟨hk2, c2⟩ := name_rt hl hk1 b1 _ _ _ e2
  obtain ⟨_, k3, b3, e3, hR3⟩ := tgo hR2 () rfl
  obtain ⟨hk3, c3⟩ := one_rt hl hk2 b2 _ _ _ _ e3
  have hjf : jf < l.length := by
    cases b3 with
    | true => cases hR3; exact hk3
    | false => exact items_rg hl F _ _ _ hk3 _ _ _ hR3
  obtain ⟨t, ht⟩ := exists_at hjf
  have hEnd := pend_ok hl ht bf
  rw [hx] at hJ
  clear e1 e2 e3 hR1 hR2 hx
  have hA : (match descA l F with
      | .ok x j => match l[j]? with
        | some t => if t.k = 5 then if validD x = true then (x, (0, 0), 0) else (D0, (0, 0), 4) else (D0, (t.ln, t.cl), 7)
        | none => (D0, (0, 0), 0)
      | .no j => match l[j]? with
        | some t => (D0, (t.ln, t.cl), if t.k = 5 then 8 else 7)
        | none => (D0, (0, 0), 0)
      | .out => (D0, (0, 0), 0)) = ansD bf t xf := by
    rw [← hJ]
    cases bf with
    | true => simp only [PJ.er, ht]; rfl
    | false => simp only [PJ.er, ht]; rfl
  rw [hA]
  clear hA hJ hout
  refine fn_ok T Tryz.func9 (by kernel_rfl) rfl rfl rfl rfl fun C hC => ?_
  repeat' first | refine g_go T hC true 400 rfl rfl ?_ | (exfalso; simp at h; done) | refine g_cond rfl (fun h => ?_) (fun h => ?_) | refine g_end T hC (by kernel_rfl) ?_ | refine g_splitD (fun h => ?_) (fun h => ?_) | refine g_splitG rfl rfl rfl (fun h => ?_) (fun h => ?_) | refine g_splitP rfl rfl (fun h => ?_) (fun h => ?_) | refine g_call hC (hT) rfl rfl (LeSs.refl _) rfl rfl rfl ?_ | refine g_callR hC (c1) (nm [1025]) rfl rfl (LeSs.refl _) rfl rfl rfl rfl rfl rfl rfl rfl ?_ | refine g_callR hC (c2) (nm [1025]) rfl rfl (LeSs.refl _) rfl rfl rfl rfl rfl rfl rfl rfl ?_ | refine g_callR hC (c3) (nm [1025]) rfl rfl (LeSs.refl _) rfl rfl rfl rfl rfl rfl rfl rfl ?_
  refine g_adopt hC rfl 101 2 rfl [] trivial [(1009, [.p (ks n), .ar 101, .p (.k (.slice none 0 0)), .p (.k (.slice none 0 0)), .p (.k (.slice none 0 0)), .p (.k (.slice none 0 0)), .p (.k (.slice none 0 0)), .p (.k (.slice none 0 0))])] ⟨⟨_, rfl, by decide, .cons (.refl _) (.cons (.nil) (.cons (.refl _) (.cons (.refl _) (.cons (.refl _) (.cons (.refl _) (.cons (.refl _) (.cons (.refl _) .nil)))))))⟩, trivial⟩ ?_
  refine g_adopt hC rfl 102 2 rfl [] trivial [(1009, [.p (ks n), .ar 101, .ar 102, .p (.k (.slice none 0 0)), .p (.k (.slice none 0 0)), .p (.k (.slice none 0 0)), .p (.k (.slice none 0 0)), .p (.k (.slice none 0 0))])] ⟨⟨_, rfl, by decide, .cons (.refl _) (.cons (.refl _) (.cons (.nil) (.cons (.refl _) (.cons (.refl _) (.cons (.refl _) (.cons (.refl _) (.cons (.refl _) .nil)))))))⟩, trivial⟩ ?_
  refine g_adopt hC rfl 103 5 rfl [] trivial [(1009, [.p (ks n), .ar 101, .ar 102, .ar 103, .p (.k (.slice none 0 0)), .p (.k (.slice none 0 0)), .p (.k (.slice none 0 0)), .p (.k (.slice none 0 0))])] ⟨⟨_, rfl, by decide, .cons (.refl _) (.cons (.refl _) (.cons (.refl _) (.cons (.nil) (.cons (.refl _) (.cons (.refl _) (.cons (.refl _) (.cons (.refl _) .nil)))))))⟩, trivial⟩ ?_
  refine g_adopt hC rfl 104 7 rfl [] trivial [(1009, [.p (ks n), .ar 101, .ar 102, .ar 103, .ar 104, .p (.k (.slice none 0 0)), .p (.k (.slice none 0 0)), .p (.k (.slice none 0 0))])] ⟨⟨_, rfl, by decide, .cons (.refl _) (.cons (.refl _) (.cons (.refl _) (.cons (.refl _) (.cons (.nil) (.cons (.refl _) (.cons (.refl _) (.cons (.refl _) .nil)))))))⟩, trivial⟩ ?_
  refine g_adopt hC rfl 105 6 rfl [] trivial [(1009, [.p (ks n), .ar 101, .ar 102, .ar 103, .ar 104, .ar 105, .p (.k (.slice none 0 0)), .p (.k (.slice none 0 0))])] ⟨⟨_, rfl, by decide, .cons (.refl _) (.cons (.refl _) (.cons (.refl _) (.cons (.refl _) (.cons (.refl _) (.cons (.nil) (.cons (.refl _) (.cons (.refl _) .nil)))))))⟩, trivial⟩ ?_
  refine g_adopt hC rfl 106 5 rfl [] trivial [(1009, [.p (ks n), .ar 101, .ar 102, .ar 103, .ar 104, .ar 105, .ar 106, .p (.k (.slice none 0 0))])] ⟨⟨_, rfl, by decide, .cons (.refl _) (.cons (.refl _) (.cons (.refl _) (.cons (.refl _) (.cons (.refl _) (.cons (.refl _) (.cons (.nil) (.cons (.refl _) .nil)))))))⟩, trivial⟩ ?_
  refine g_adopt hC rfl 107 5 rfl [] trivial [(1009, [.p (ks n), .ar 101, .ar 102, .ar 103, .ar 104, .ar 105, .ar 106, .ar 107])] ⟨⟨_, rfl, by decide, .cons (.refl _) (.cons (.refl _) (.cons (.refl _) (.cons (.refl _) (.cons (.refl _) (.cons (.refl _) (.cons (.refl _) (.cons (.nil) .nil)))))))⟩, trivial⟩ ?_
  refine g_loop (fun q : Desc × Nat × Bool × Nat => q.2.1 < l.length ∧ cntD q.1 + q.2.2.2 ≤ F ∧ tJ q.2.2.1 q.1 q.2.1 (itemsJ l F q.2.2.2 q.2.1 q.1) = some (xf, jf, bf))
    (fun q => ([(2, .one (.bx 1002 0)), (3, .one (.bx 1003 0)), (8, .one (.bx 1025 0)), (9, .one (.bx 1009 0))], (1002, some zD) :: (1003, some (Res.box (zV [ZK.int .i64, ZK.int .i64]))) :: (1025, some (rdR l q.2.1 q.2.2.1)) :: tb (dRb q.1))) (fun q => q.2.2.2) hC
    (⟨n, [], [], [], [], [], [], []⟩, k3, b3, F) ⟨hk3, Nat.le_of_eq (Nat.zero_add _), hR3⟩ id ⟨rfl, ⟨rfl, rfl, rfl, rfl, trivial⟩, ⟨rfl, rfl, rfl, rfl, rfl, rfl, rfl, rfl, rfl, rfl, rfl, trivial⟩, rfl, fun _ _ => rfl⟩ ?_
  clear hR3 hk3 c1 c2 c3 hT
  rintro ⟨d, k, b, g⟩ ⟨hk, hcd, hd⟩
  simp only at hk hcd hd
  by_cases hkw : b = false ∧ kwI l k = true
  · obtain ⟨rfl, hkw⟩ := hkw
    cases g with
    | zero => simp only [tJ, itemsJ] at hd; cases hd
    | succ g =>
      have hnb := kwI_not hkw
      simp only [tJ, itemsJ] at hd
      rw [if_neg hnb] at hd
      obtain ⟨d2, j2, b2, e4, hd2⟩ := tgo (b := false) (w := d) (k := k) hd d rfl
      obtain ⟨hj2, hc2, hI⟩ := pitem_ok hl F k d hk (by omega) e4 hkw
      repeat' first | refine g_go T hC true 400 rfl rfl ?_ | (exfalso; simp at h; done) | refine g_cond rfl (fun h => ?_) (fun h => ?_) | refine g_end T hC (by kernel_rfl) ?_ | refine g_splitD (fun h => ?_) (fun h => ?_) | refine g_splitG rfl rfl rfl (fun h => ?_) (fun h => ?_) | refine g_splitP rfl rfl (fun h => ?_) (fun h => ?_) | refine g_callR hC (hI) (nm [1025, 1009, 101, 102, 103, 104, 105, 106, 107, 201, 202, 203, 204, 205, 206, 207]) rfl rfl (LeSs.refl _) rfl rfl rfl rfl rfl rfl rfl rfl ?_
      exact g_round (d2, j2, b2, g) ⟨hj2, by simp only; omega, hd2⟩ mv7 (Nat.lt_succ_self _) ⟨rfl, ⟨rfl, rfl, rfl, rfl, trivial⟩, ⟨rfl, rfl, rfl, rfl, rfl, rfl, rfl, rfl, rfl, rfl, rfl, trivial⟩, rfl, fun i hi => mv7_low hi⟩
  · cases b with
    | true =>
      have hfin : xf = d ∧ jf = k ∧ bf = true := by cases hd; exact ⟨rfl, rfl, rfl⟩
      obtain ⟨rfl, rfl, rfl⟩ := hfin
      clear hd
      have hTk := ptake_bad hl jf hk ⟨#[125]⟩
      have hV := astValid_ok xf
      by_cases h5 : t.k = 5
      · simp only [ansD, h5, if_true, Bool.true_eq_false, reduceCtorEq, false_and, if_false] at hEnd ⊢
        repeat' first | refine g_go T hC true 400 rfl rfl ?_ | (exfalso; simp at h; done) | refine g_cond rfl (fun h => ?_) (fun h => ?_) | refine g_end T hC (by kernel_rfl) ?_ | refine g_splitD (fun h => ?_) (fun h => ?_) | refine g_splitG rfl rfl rfl (fun h => ?_) (fun h => ?_) | refine g_splitP rfl rfl (fun h => ?_) (fun h => ?_) | refine g_outE ?_ | refine g_callR hC (hTk) (nm [1025]) rfl rfl (LeSs.refl _) rfl rfl rfl rfl rfl rfl rfl rfl ?_
        refine g_freeze rfl (id := 101) (e := 2) (rows := xf.types.map nodeTR) rfl [] trivial [(1009, [.p (ks xf.n), .p (.sl 2 (xf.types.map nodeTR)), .ar 102, .ar 103, .ar 104, .ar 105, .ar 106, .ar 107])] ⟨⟨_, rfl, by decide, .cons (.refl _) (.cons (.ar) (.cons (.refl _) (.cons (.refl _) (.cons (.refl _) (.cons (.refl _) (.cons (.refl _) (.cons (.refl _) .nil)))))))⟩, trivial⟩ ?_
        refine g_freeze rfl (id := 102) (e := 2) (rows := xf.globals.map fieldR) rfl [] trivial [(1009, [.p (ks xf.n), .p (.sl 2 (xf.types.map nodeTR)), .p (.sl 2 (xf.globals.map fieldR)), .ar 103, .ar 104, .ar 105, .ar 106, .ar 107])] ⟨⟨_, rfl, by decide, .cons (.refl _) (.cons (.refl _) (.cons (.ar) (.cons (.refl _) (.cons (.refl _) (.cons (.refl _) (.cons (.refl _) (.cons (.refl _) .nil)))))))⟩, trivial⟩ ?_
        refine g_freeze rfl (id := 103) (e := 5) (rows := xf.procs.map procR) rfl [] trivial [(1009, [.p (ks xf.n), .p (.sl 2 (xf.types.map nodeTR)), .p (.sl 2 (xf.globals.map fieldR)), .p (.sl 5 (xf.procs.map procR)), .ar 104, .ar 105, .ar 106, .ar 107])] ⟨⟨_, rfl, by decide, .cons (.refl _) (.cons (.refl _) (.cons (.refl _) (.cons (.ar) (.cons (.refl _) (.cons (.refl _) (.cons (.refl _) (.cons (.refl _) .nil)))))))⟩, trivial⟩ ?_
        refine g_freeze rfl (id := 104) (e := 7) (rows := xf.measures.map measureR) rfl [] trivial [(1009, [.p (ks xf.n), .p (.sl 2 (xf.types.map nodeTR)), .p (.sl 2 (xf.globals.map fieldR)), .p (.sl 5 (xf.procs.map procR)), .p (.sl 7 (xf.measures.map measureR)), .ar 105, .ar 106, .ar 107])] ⟨⟨_, rfl, by decide, .cons (.refl _) (.cons (.refl _) (.cons (.refl _) (.cons (.refl _) (.cons (.ar) (.cons (.refl _) (.cons (.refl _) (.cons (.refl _) .nil)))))))⟩, trivial⟩ ?_
        refine g_freeze rfl (id := 105) (e := 6) (rows := xf.invs.map invR) rfl [] trivial [(1009, [.p (ks xf.n), .p (.sl 2 (xf.types.map nodeTR)), .p (.sl 2 (xf.globals.map fieldR)), .p (.sl 5 (xf.procs.map procR)), .p (.sl 7 (xf.measures.map measureR)), .p (.sl 6 (xf.invs.map invR)), .ar 106, .ar 107])] ⟨⟨_, rfl, by decide, .cons (.refl _) (.cons (.refl _) (.cons (.refl _) (.cons (.refl _) (.cons (.refl _) (.cons (.ar) (.cons (.refl _) (.cons (.refl _) .nil)))))))⟩, trivial⟩ ?_
        refine g_freeze rfl (id := 106) (e := 5) (rows := xf.pots.map potR) rfl [] trivial [(1009, [.p (ks xf.n), .p (.sl 2 (xf.types.map nodeTR)), .p (.sl 2 (xf.globals.map fieldR)), .p (.sl 5 (xf.procs.map procR)), .p (.sl 7 (xf.measures.map measureR)), .p (.sl 6 (xf.invs.map invR)), .p (.sl 5 (xf.pots.map potR)), .ar 107])] ⟨⟨_, rfl, by decide, .cons (.refl _) (.cons (.refl _) (.cons (.refl _) (.cons (.refl _) (.cons (.refl _) (.cons (.refl _) (.cons (.ar) (.cons (.refl _) .nil)))))))⟩, trivial⟩ ?_
        refine g_freeze rfl (id := 107) (e := 5) (rows := xf.bounds.map boundR) rfl [] trivial [(1009, [.p (ks xf.n), .p (.sl 2 (xf.types.map nodeTR)), .p (.sl 2 (xf.globals.map fieldR)), .p (.sl 5 (xf.procs.map procR)), .p (.sl 7 (xf.measures.map measureR)), .p (.sl 6 (xf.invs.map invR)), .p (.sl 5 (xf.pots.map potR)), .p (.sl 5 (xf.bounds.map boundR))])] ⟨⟨_, rfl, by decide, .cons (.refl _) (.cons (.refl _) (.cons (.refl _) (.cons (.refl _) (.cons (.refl _) (.cons (.refl _) (.cons (.refl _) (.cons (.ar) .nil)))))))⟩, trivial⟩ ?_
        repeat' first | refine g_go T hC true 400 rfl rfl ?_ | (exfalso; simp at h; done) | refine g_cond rfl (fun h => ?_) (fun h => ?_) | refine g_end T hC (by kernel_rfl) ?_ | refine g_splitD (fun h => ?_) (fun h => ?_) | refine g_splitG rfl rfl rfl (fun h => ?_) (fun h => ?_) | refine g_splitP rfl rfl (fun h => ?_) (fun h => ?_) | refine g_callR hC (hEnd) (nm [1025]) rfl rfl (LeSs.refl _) rfl rfl rfl rfl rfl rfl rfl rfl ?_ | refine g_call hC (hV) rfl rfl (LeSs.refl _) rfl rfl rfl ?_ | refine g_retl T (.inl rfl) rfl ?_
        exact g_fin ⟨.inl rfl, id, _, rfl, parse_bad_le, trivial, rfl, rfl⟩
      · simp only [ansD, h5, if_true, reduceCtorEq, false_and, if_false] at hEnd ⊢
        repeat' first | refine g_go T hC true 400 rfl rfl ?_ | (exfalso; simp at h; done) | refine g_cond rfl (fun h => ?_) (fun h => ?_) | refine g_end T hC (by kernel_rfl) ?_ | refine g_splitD (fun h => ?_) (fun h => ?_) | refine g_splitG rfl rfl rfl (fun h => ?_) (fun h => ?_) | refine g_splitP rfl rfl (fun h => ?_) (fun h => ?_) | refine g_outE ?_ | refine g_callR hC (hTk) (nm [1025]) rfl rfl (LeSs.refl _) rfl rfl rfl rfl rfl rfl rfl rfl ?_
        refine g_freeze rfl (id := 101) (e := 2) (rows := xf.types.map nodeTR) rfl [] trivial [(1009, [.p (ks xf.n), .p (.sl 2 (xf.types.map nodeTR)), .ar 102, .ar 103, .ar 104, .ar 105, .ar 106, .ar 107])] ⟨⟨_, rfl, by decide, .cons (.refl _) (.cons (.ar) (.cons (.refl _) (.cons (.refl _) (.cons (.refl _) (.cons (.refl _) (.cons (.refl _) (.cons (.refl _) .nil)))))))⟩, trivial⟩ ?_
        refine g_freeze rfl (id := 102) (e := 2) (rows := xf.globals.map fieldR) rfl [] trivial [(1009, [.p (ks xf.n), .p (.sl 2 (xf.types.map nodeTR)), .p (.sl 2 (xf.globals.map fieldR)), .ar 103, .ar 104, .ar 105, .ar 106, .ar 107])] ⟨⟨_, rfl, by decide, .cons (.refl _) (.cons (.refl _) (.cons (.ar) (.cons (.refl _) (.cons (.refl _) (.cons (.refl _) (.cons (.refl _) (.cons (.refl _) .nil)))))))⟩, trivial⟩ ?_
        refine g_freeze rfl (id := 103) (e := 5) (rows := xf.procs.map procR) rfl [] trivial [(1009, [.p (ks xf.n), .p (.sl 2 (xf.types.map nodeTR)), .p (.sl 2 (xf.globals.map fieldR)), .p (.sl 5 (xf.procs.map procR)), .ar 104, .ar 105, .ar 106, .ar 107])] ⟨⟨_, rfl, by decide, .cons (.refl _) (.cons (.refl _) (.cons (.refl _) (.cons (.ar) (.cons (.refl _) (.cons (.refl _) (.cons (.refl _) (.cons (.refl _) .nil)))))))⟩, trivial⟩ ?_
        refine g_freeze rfl (id := 104) (e := 7) (rows := xf.measures.map measureR) rfl [] trivial [(1009, [.p (ks xf.n), .p (.sl 2 (xf.types.map nodeTR)), .p (.sl 2 (xf.globals.map fieldR)), .p (.sl 5 (xf.procs.map procR)), .p (.sl 7 (xf.measures.map measureR)), .ar 105, .ar 106, .ar 107])] ⟨⟨_, rfl, by decide, .cons (.refl _) (.cons (.refl _) (.cons (.refl _) (.cons (.refl _) (.cons (.ar) (.cons (.refl _) (.cons (.refl _) (.cons (.refl _) .nil)))))))⟩, trivial⟩ ?_
        refine g_freeze rfl (id := 105) (e := 6) (rows := xf.invs.map invR) rfl [] trivial [(1009, [.p (ks xf.n), .p (.sl 2 (xf.types.map nodeTR)), .p (.sl 2 (xf.globals.map fieldR)), .p (.sl 5 (xf.procs.map procR)), .p (.sl 7 (xf.measures.map measureR)), .p (.sl 6 (xf.invs.map invR)), .ar 106, .ar 107])] ⟨⟨_, rfl, by decide, .cons (.refl _) (.cons (.refl _) (.cons (.refl _) (.cons (.refl _) (.cons (.refl _) (.cons (.ar) (.cons (.refl _) (.cons (.refl _) .nil)))))))⟩, trivial⟩ ?_
        refine g_freeze rfl (id := 106) (e := 5) (rows := xf.pots.map potR) rfl [] trivial [(1009, [.p (ks xf.n), .p (.sl 2 (xf.types.map nodeTR)), .p (.sl 2 (xf.globals.map fieldR)), .p (.sl 5 (xf.procs.map procR)), .p (.sl 7 (xf.measures.map measureR)), .p (.sl 6 (xf.invs.map invR)), .p (.sl 5 (xf.pots.map potR)), .ar 107])] ⟨⟨_, rfl, by decide, .cons (.refl _) (.cons (.refl _) (.cons (.refl _) (.cons (.refl _) (.cons (.refl _) (.cons (.refl _) (.cons (.ar) (.cons (.refl _) .nil)))))))⟩, trivial⟩ ?_
        refine g_freeze rfl (id := 107) (e := 5) (rows := xf.bounds.map boundR) rfl [] trivial [(1009, [.p (ks xf.n), .p (.sl 2 (xf.types.map nodeTR)), .p (.sl 2 (xf.globals.map fieldR)), .p (.sl 5 (xf.procs.map procR)), .p (.sl 7 (xf.measures.map measureR)), .p (.sl 6 (xf.invs.map invR)), .p (.sl 5 (xf.pots.map potR)), .p (.sl 5 (xf.bounds.map boundR))])] ⟨⟨_, rfl, by decide, .cons (.refl _) (.cons (.refl _) (.cons (.refl _) (.cons (.refl _) (.cons (.refl _) (.cons (.refl _) (.cons (.refl _) (.cons (.ar) .nil)))))))⟩, trivial⟩ ?_
        repeat' first | refine g_go T hC true 400 rfl rfl ?_ | (exfalso; simp at h; done) | refine g_cond rfl (fun h => ?_) (fun h => ?_) | refine g_end T hC (by kernel_rfl) ?_ | refine g_splitD (fun h => ?_) (fun h => ?_) | refine g_splitG rfl rfl rfl (fun h => ?_) (fun h => ?_) | refine g_splitP rfl rfl (fun h => ?_) (fun h => ?_) | refine g_callR hC (hEnd) (nm [1025]) rfl rfl (LeSs.refl _) rfl rfl rfl rfl rfl rfl rfl rfl ?_ | refine g_call hC (hV) rfl rfl (LeSs.refl _) rfl rfl rfl ?_ | refine g_retl T (.inl rfl) rfl ?_
        exact g_fin ⟨.inl rfl, id, _, rfl, parse_bad_le, trivial, rfl, rfl⟩
    | false =>
      have hkw' : kwI l k = false := by rw [← Bool.not_eq_true]; exact fun h => hkw ⟨rfl, h⟩
      have hfin : oneJ l ⟨#[125]⟩ k = some ((), jf, bf) ∧ xf = d := by
        cases g with
        | zero => simp only [tJ, itemsJ] at hd; cases hd
        | succ g =>
          simp only [tJ, itemsJ] at hd
          unfold oneJ
          by_cases hq : isA l k ⟨#[125]⟩ = true
          · rw [if_pos hq] at hd ⊢; cases hd; exact ⟨rfl, rfl⟩
          · rw [if_neg hq, itemJ_no hkw'] at hd
            rw [if_neg hq]
            cases hd; exact ⟨rfl, rfl⟩
      obtain ⟨ho, rfl⟩ := hfin
      obtain ⟨_, hTk⟩ := ptake_ok hl k hk _ _ _ _ ho
      clear hd ho hkw
      have hV := astValid_ok xf
      cases bf with
      | true =>
        by_cases h5 : t.k = 5
        · simp only [ansD, h5, if_true, Bool.true_eq_false, reduceCtorEq, false_and, if_false] at hEnd ⊢
          repeat' first | refine g_go T hC true 400 rfl rfl ?_ | (exfalso; simp at h; done) | refine g_cond rfl (fun h => ?_) (fun h => ?_) | refine g_end T hC (by kernel_rfl) ?_ | refine g_splitD (fun h => ?_) (fun h => ?_) | refine g_splitG rfl rfl rfl (fun h => ?_) (fun h => ?_) | refine g_splitP rfl rfl (fun h => ?_) (fun h => ?_) | refine g_callR hC ((pitem_no hl 0 _ _ hk (by assumption))) (nm [1025, 1009, 101, 102, 103, 104, 105, 106, 107]) rfl rfl (LeSs.refl _) rfl rfl rfl rfl rfl rfl rfl rfl ?_ | refine g_outE ?_ | refine g_callR hC (hTk) (nm [1025]) rfl rfl (LeSs.refl _) rfl rfl rfl rfl rfl rfl rfl rfl ?_
          refine g_freeze rfl (id := 101) (e := 2) (rows := xf.types.map nodeTR) rfl [] trivial [(1009, [.p (ks xf.n), .p (.sl 2 (xf.types.map nodeTR)), .ar 102, .ar 103, .ar 104, .ar 105, .ar 106, .ar 107])] ⟨⟨_, rfl, by decide, .cons (.refl _) (.cons (.ar) (.cons (.refl _) (.cons (.refl _) (.cons (.refl _) (.cons (.refl _) (.cons (.refl _) (.cons (.refl _) .nil)))))))⟩, trivial⟩ ?_
          refine g_freeze rfl (id := 102) (e := 2) (rows := xf.globals.map fieldR) rfl [] trivial [(1009, [.p (ks xf.n), .p (.sl 2 (xf.types.map nodeTR)), .p (.sl 2 (xf.globals.map fieldR)), .ar 103, .ar 104, .ar 105, .ar 106, .ar 107])] ⟨⟨_, rfl, by decide, .cons (.refl _) (.cons (.refl _) (.cons (.ar) (.cons (.refl _) (.cons (.refl _) (.cons (.refl _) (.cons (.refl _) (.cons (.refl _) .nil)))))))⟩, trivial⟩ ?_
          refine g_freeze rfl (id := 103) (e := 5) (rows := xf.procs.map procR) rfl [] trivial [(1009, [.p (ks xf.n), .p (.sl 2 (xf.types.map nodeTR)), .p (.sl 2 (xf.globals.map fieldR)), .p (.sl 5 (xf.procs.map procR)), .ar 104, .ar 105, .ar 106, .ar 107])] ⟨⟨_, rfl, by decide, .cons (.refl _) (.cons (.refl _) (.cons (.refl _) (.cons (.ar) (.cons (.refl _) (.cons (.refl _) (.cons (.refl _) (.cons (.refl _) .nil)))))))⟩, trivial⟩ ?_
          refine g_freeze rfl (id := 104) (e := 7) (rows := xf.measures.map measureR) rfl [] trivial [(1009, [.p (ks xf.n), .p (.sl 2 (xf.types.map nodeTR)), .p (.sl 2 (xf.globals.map fieldR)), .p (.sl 5 (xf.procs.map procR)), .p (.sl 7 (xf.measures.map measureR)), .ar 105, .ar 106, .ar 107])] ⟨⟨_, rfl, by decide, .cons (.refl _) (.cons (.refl _) (.cons (.refl _) (.cons (.refl _) (.cons (.ar) (.cons (.refl _) (.cons (.refl _) (.cons (.refl _) .nil)))))))⟩, trivial⟩ ?_
          refine g_freeze rfl (id := 105) (e := 6) (rows := xf.invs.map invR) rfl [] trivial [(1009, [.p (ks xf.n), .p (.sl 2 (xf.types.map nodeTR)), .p (.sl 2 (xf.globals.map fieldR)), .p (.sl 5 (xf.procs.map procR)), .p (.sl 7 (xf.measures.map measureR)), .p (.sl 6 (xf.invs.map invR)), .ar 106, .ar 107])] ⟨⟨_, rfl, by decide, .cons (.refl _) (.cons (.refl _) (.cons (.refl _) (.cons (.refl _) (.cons (.refl _) (.cons (.ar) (.cons (.refl _) (.cons (.refl _) .nil)))))))⟩, trivial⟩ ?_
          refine g_freeze rfl (id := 106) (e := 5) (rows := xf.pots.map potR) rfl [] trivial [(1009, [.p (ks xf.n), .p (.sl 2 (xf.types.map nodeTR)), .p (.sl 2 (xf.globals.map fieldR)), .p (.sl 5 (xf.procs.map procR)), .p (.sl 7 (xf.measures.map measureR)), .p (.sl 6 (xf.invs.map invR)), .p (.sl 5 (xf.pots.map potR)), .ar 107])] ⟨⟨_, rfl, by decide, .cons (.refl _) (.cons (.refl _) (.cons (.refl _) (.cons (.refl _) (.cons (.refl _) (.cons (.refl _) (.cons (.ar) (.cons (.refl _) .nil)))))))⟩, trivial⟩ ?_
          refine g_freeze rfl (id := 107) (e := 5) (rows := xf.bounds.map boundR) rfl [] trivial [(1009, [.p (ks xf.n), .p (.sl 2 (xf.types.map nodeTR)), .p (.sl 2 (xf.globals.map fieldR)), .p (.sl 5 (xf.procs.map procR)), .p (.sl 7 (xf.measures.map measureR)), .p (.sl 6 (xf.invs.map invR)), .p (.sl 5 (xf.pots.map potR)), .p (.sl 5 (xf.bounds.map boundR))])] ⟨⟨_, rfl, by decide, .cons (.refl _) (.cons (.refl _) (.cons (.refl _) (.cons (.refl _) (.cons (.refl _) (.cons (.refl _) (.cons (.refl _) (.cons (.ar) .nil)))))))⟩, trivial⟩ ?_
          repeat' first | refine g_go T hC true 400 rfl rfl ?_ | (exfalso; simp at h; done) | refine g_cond rfl (fun h => ?_) (fun h => ?_) | refine g_end T hC (by kernel_rfl) ?_ | refine g_splitD (fun h => ?_) (fun h => ?_) | refine g_splitG rfl rfl rfl (fun h => ?_) (fun h => ?_) | refine g_splitP rfl rfl (fun h => ?_) (fun h => ?_) | refine g_callR hC (hEnd) (nm [1025]) rfl rfl (LeSs.refl _) rfl rfl rfl rfl rfl rfl rfl rfl ?_ | refine g_call hC (hV) rfl rfl (LeSs.refl _) rfl rfl rfl ?_ | refine g_retl T (.inl rfl) rfl ?_
          exact g_fin ⟨.inl rfl, id, _, rfl, parse_bad_le, trivial, rfl, rfl⟩
        · simp only [ansD, h5, if_true, reduceCtorEq, false_and, if_false] at hEnd ⊢
          repeat' first | refine g_go T hC true 400 rfl rfl ?_ | (exfalso; simp at h; done) | refine g_cond rfl (fun h => ?_) (fun h => ?_) | refine g_end T hC (by kernel_rfl) ?_ | refine g_splitD (fun h => ?_) (fun h => ?_) | refine g_splitG rfl rfl rfl (fun h => ?_) (fun h => ?_) | refine g_splitP rfl rfl (fun h => ?_) (fun h => ?_) | refine g_callR hC ((pitem_no hl 0 _ _ hk (by assumption))) (nm [1025, 1009, 101, 102, 103, 104, 105, 106, 107]) rfl rfl (LeSs.refl _) rfl rfl rfl rfl rfl rfl rfl rfl ?_ | refine g_outE ?_ | refine g_callR hC (hTk) (nm [1025]) rfl rfl (LeSs.refl _) rfl rfl rfl rfl rfl rfl rfl rfl ?_
          refine g_freeze rfl (id := 101) (e := 2) (rows := xf.types.map nodeTR) rfl [] trivial [(1009, [.p (ks xf.n), .p (.sl 2 (xf.types.map nodeTR)), .ar 102, .ar 103, .ar 104, .ar 105, .ar 106, .ar 107])] ⟨⟨_, rfl, by decide, .cons (.refl _) (.cons (.ar) (.cons (.refl _) (.cons (.refl _) (.cons (.refl _) (.cons (.refl _) (.cons (.refl _) (.cons (.refl _) .nil)))))))⟩, trivial⟩ ?_
          refine g_freeze rfl (id := 102) (e := 2) (rows := xf.globals.map fieldR) rfl [] trivial [(1009, [.p (ks xf.n), .p (.sl 2 (xf.types.map nodeTR)), .p (.sl 2 (xf.globals.map fieldR)), .ar 103, .ar 104, .ar 105, .ar 106, .ar 107])] ⟨⟨_, rfl, by decide, .cons (.refl _) (.cons (.refl _) (.cons (.ar) (.cons (.refl _) (.cons (.refl _) (.cons (.refl _) (.cons (.refl _) (.cons (.refl _) .nil)))))))⟩, trivial⟩ ?_
          refine g_freeze rfl (id := 103) (e := 5) (rows := xf.procs.map procR) rfl [] trivial [(1009, [.p (ks xf.n), .p (.sl 2 (xf.types.map nodeTR)), .p (.sl 2 (xf.globals.map fieldR)), .p (.sl 5 (xf.procs.map procR)), .ar 104, .ar 105, .ar 106, .ar 107])] ⟨⟨_, rfl, by decide, .cons (.refl _) (.cons (.refl _) (.cons (.refl _) (.cons (.ar) (.cons (.refl _) (.cons (.refl _) (.cons (.refl _) (.cons (.refl _) .nil)))))))⟩, trivial⟩ ?_
          refine g_freeze rfl (id := 104) (e := 7) (rows := xf.measures.map measureR) rfl [] trivial [(1009, [.p (ks xf.n), .p (.sl 2 (xf.types.map nodeTR)), .p (.sl 2 (xf.globals.map fieldR)), .p (.sl 5 (xf.procs.map procR)), .p (.sl 7 (xf.measures.map measureR)), .ar 105, .ar 106, .ar 107])] ⟨⟨_, rfl, by decide, .cons (.refl _) (.cons (.refl _) (.cons (.refl _) (.cons (.refl _) (.cons (.ar) (.cons (.refl _) (.cons (.refl _) (.cons (.refl _) .nil)))))))⟩, trivial⟩ ?_
          refine g_freeze rfl (id := 105) (e := 6) (rows := xf.invs.map invR) rfl [] trivial [(1009, [.p (ks xf.n), .p (.sl 2 (xf.types.map nodeTR)), .p (.sl 2 (xf.globals.map fieldR)), .p (.sl 5 (xf.procs.map procR)), .p (.sl 7 (xf.measures.map measureR)), .p (.sl 6 (xf.invs.map invR)), .ar 106, .ar 107])] ⟨⟨_, rfl, by decide, .cons (.refl _) (.cons (.refl _) (.cons (.refl _) (.cons (.refl _) (.cons (.refl _) (.cons (.ar) (.cons (.refl _) (.cons (.refl _) .nil)))))))⟩, trivial⟩ ?_
          refine g_freeze rfl (id := 106) (e := 5) (rows := xf.pots.map potR) rfl [] trivial [(1009, [.p (ks xf.n), .p (.sl 2 (xf.types.map nodeTR)), .p (.sl 2 (xf.globals.map fieldR)), .p (.sl 5 (xf.procs.map procR)), .p (.sl 7 (xf.measures.map measureR)), .p (.sl 6 (xf.invs.map invR)), .p (.sl 5 (xf.pots.map potR)), .ar 107])] ⟨⟨_, rfl, by decide, .cons (.refl _) (.cons (.refl _) (.cons (.refl _) (.cons (.refl _) (.cons (.refl _) (.cons (.refl _) (.cons (.ar) (.cons (.refl _) .nil)))))))⟩, trivial⟩ ?_
          refine g_freeze rfl (id := 107) (e := 5) (rows := xf.bounds.map boundR) rfl [] trivial [(1009, [.p (ks xf.n), .p (.sl 2 (xf.types.map nodeTR)), .p (.sl 2 (xf.globals.map fieldR)), .p (.sl 5 (xf.procs.map procR)), .p (.sl 7 (xf.measures.map measureR)), .p (.sl 6 (xf.invs.map invR)), .p (.sl 5 (xf.pots.map potR)), .p (.sl 5 (xf.bounds.map boundR))])] ⟨⟨_, rfl, by decide, .cons (.refl _) (.cons (.refl _) (.cons (.refl _) (.cons (.refl _) (.cons (.refl _) (.cons (.refl _) (.cons (.refl _) (.cons (.ar) .nil)))))))⟩, trivial⟩ ?_
          repeat' first | refine g_go T hC true 400 rfl rfl ?_ | (exfalso; simp at h; done) | refine g_cond rfl (fun h => ?_) (fun h => ?_) | refine g_end T hC (by kernel_rfl) ?_ | refine g_splitD (fun h => ?_) (fun h => ?_) | refine g_splitG rfl rfl rfl (fun h => ?_) (fun h => ?_) | refine g_splitP rfl rfl (fun h => ?_) (fun h => ?_) | refine g_callR hC (hEnd) (nm [1025]) rfl rfl (LeSs.refl _) rfl rfl rfl rfl rfl rfl rfl rfl ?_ | refine g_call hC (hV) rfl rfl (LeSs.refl _) rfl rfl rfl ?_ | refine g_retl T (.inl rfl) rfl ?_
          exact g_fin ⟨.inl rfl, id, _, rfl, parse_bad_le, trivial, rfl, rfl⟩
      | false =>
        by_cases h5 : t.k = 5
        · simp only [ansD, h5, and_self, if_true, Bool.false_eq_true, if_false] at hEnd ⊢
          by_cases hv : validD xf = true
          · rw [if_pos hv]
            rw [hv] at hV
            repeat' first | refine g_go T hC true 400 rfl rfl ?_ | (exfalso; simp at h; done) | refine g_cond rfl (fun h => ?_) (fun h => ?_) | refine g_end T hC (by kernel_rfl) ?_ | refine g_splitD (fun h => ?_) (fun h => ?_) | refine g_splitG rfl rfl rfl (fun h => ?_) (fun h => ?_) | refine g_splitP rfl rfl (fun h => ?_) (fun h => ?_) | refine g_callR hC ((pitem_no hl 0 _ _ hk (by assumption))) (nm [1025, 1009, 101, 102, 103, 104, 105, 106, 107]) rfl rfl (LeSs.refl _) rfl rfl rfl rfl rfl rfl rfl rfl ?_ | refine g_outE ?_ | refine g_callR hC (hTk) (nm [1025]) rfl rfl (LeSs.refl _) rfl rfl rfl rfl rfl rfl rfl rfl ?_
            refine g_freeze rfl (id := 101) (e := 2) (rows := xf.types.map nodeTR) rfl [] trivial [(1009, [.p (ks xf.n), .p (.sl 2 (xf.types.map nodeTR)), .ar 102, .ar 103, .ar 104, .ar 105, .ar 106, .ar 107])] ⟨⟨_, rfl, by decide, .cons (.refl _) (.cons (.ar) (.cons (.refl _) (.cons (.refl _) (.cons (.refl _) (.cons (.refl _) (.cons (.refl _) (.cons (.refl _) .nil)))))))⟩, trivial⟩ ?_
            refine g_freeze rfl (id := 102) (e := 2) (rows := xf.globals.map fieldR) rfl [] trivial [(1009, [.p (ks xf.n), .p (.sl 2 (xf.types.map nodeTR)), .p (.sl 2 (xf.globals.map fieldR)), .ar 103, .ar 104, .ar 105, .ar 106, .ar 107])] ⟨⟨_, rfl, by decide, .cons (.refl _) (.cons (.refl _) (.cons (.ar) (.cons (.refl _) (.cons (.refl _) (.cons (.refl _) (.cons (.refl _) (.cons (.refl _) .nil)))))))⟩, trivial⟩ ?_
            refine g_freeze rfl (id := 103) (e := 5) (rows := xf.procs.map procR) rfl [] trivial [(1009, [.p (ks xf.n), .p (.sl 2 (xf.types.map nodeTR)), .p (.sl 2 (xf.globals.map fieldR)), .p (.sl 5 (xf.procs.map procR)), .ar 104, .ar 105, .ar 106, .ar 107])] ⟨⟨_, rfl, by decide, .cons (.refl _) (.cons (.refl _) (.cons (.refl _) (.cons (.ar) (.cons (.refl _) (.cons (.refl _) (.cons (.refl _) (.cons (.refl _) .nil)))))))⟩, trivial⟩ ?_
            refine g_freeze rfl (id := 104) (e := 7) (rows := xf.measures.map measureR) rfl [] trivial [(1009, [.p (ks xf.n), .p (.sl 2 (xf.types.map nodeTR)), .p (.sl 2 (xf.globals.map fieldR)), .p (.sl 5 (xf.procs.map procR)), .p (.sl 7 (xf.measures.map measureR)), .ar 105, .ar 106, .ar 107])] ⟨⟨_, rfl, by decide, .cons (.refl _) (.cons (.refl _) (.cons (.refl _) (.cons (.refl _) (.cons (.ar) (.cons (.refl _) (.cons (.refl _) (.cons (.refl _) .nil)))))))⟩, trivial⟩ ?_
            refine g_freeze rfl (id := 105) (e := 6) (rows := xf.invs.map invR) rfl [] trivial [(1009, [.p (ks xf.n), .p (.sl 2 (xf.types.map nodeTR)), .p (.sl 2 (xf.globals.map fieldR)), .p (.sl 5 (xf.procs.map procR)), .p (.sl 7 (xf.measures.map measureR)), .p (.sl 6 (xf.invs.map invR)), .ar 106, .ar 107])] ⟨⟨_, rfl, by decide, .cons (.refl _) (.cons (.refl _) (.cons (.refl _) (.cons (.refl _) (.cons (.refl _) (.cons (.ar) (.cons (.refl _) (.cons (.refl _) .nil)))))))⟩, trivial⟩ ?_
            refine g_freeze rfl (id := 106) (e := 5) (rows := xf.pots.map potR) rfl [] trivial [(1009, [.p (ks xf.n), .p (.sl 2 (xf.types.map nodeTR)), .p (.sl 2 (xf.globals.map fieldR)), .p (.sl 5 (xf.procs.map procR)), .p (.sl 7 (xf.measures.map measureR)), .p (.sl 6 (xf.invs.map invR)), .p (.sl 5 (xf.pots.map potR)), .ar 107])] ⟨⟨_, rfl, by decide, .cons (.refl _) (.cons (.refl _) (.cons (.refl _) (.cons (.refl _) (.cons (.refl _) (.cons (.refl _) (.cons (.ar) (.cons (.refl _) .nil)))))))⟩, trivial⟩ ?_
            refine g_freeze rfl (id := 107) (e := 5) (rows := xf.bounds.map boundR) rfl [] trivial [(1009, [.p (ks xf.n), .p (.sl 2 (xf.types.map nodeTR)), .p (.sl 2 (xf.globals.map fieldR)), .p (.sl 5 (xf.procs.map procR)), .p (.sl 7 (xf.measures.map measureR)), .p (.sl 6 (xf.invs.map invR)), .p (.sl 5 (xf.pots.map potR)), .p (.sl 5 (xf.bounds.map boundR))])] ⟨⟨_, rfl, by decide, .cons (.refl _) (.cons (.refl _) (.cons (.refl _) (.cons (.refl _) (.cons (.refl _) (.cons (.refl _) (.cons (.refl _) (.cons (.ar) .nil)))))))⟩, trivial⟩ ?_
            repeat' first | refine g_go T hC true 400 rfl rfl ?_ | (exfalso; simp at h; done) | refine g_cond rfl (fun h => ?_) (fun h => ?_) | refine g_end T hC (by kernel_rfl) ?_ | refine g_splitD (fun h => ?_) (fun h => ?_) | refine g_splitG rfl rfl rfl (fun h => ?_) (fun h => ?_) | refine g_splitP rfl rfl (fun h => ?_) (fun h => ?_) | refine g_callR hC (hEnd) (nm [1025]) rfl rfl (LeSs.refl _) rfl rfl rfl rfl rfl rfl rfl rfl ?_ | refine g_call hC (hV) rfl rfl (LeSs.refl _) rfl rfl rfl ?_ | refine g_retl T (.inl rfl) rfl ?_
            exact g_fin ⟨.inl rfl, id, _, rfl, .refl _, trivial, rfl, rfl⟩
          · rw [if_neg hv]
            rw [Bool.not_eq_true] at hv
            rw [hv] at hV
            repeat' first | refine g_go T hC true 400 rfl rfl ?_ | (exfalso; simp at h; done) | refine g_cond rfl (fun h => ?_) (fun h => ?_) | refine g_end T hC (by kernel_rfl) ?_ | refine g_splitD (fun h => ?_) (fun h => ?_) | refine g_splitG rfl rfl rfl (fun h => ?_) (fun h => ?_) | refine g_splitP rfl rfl (fun h => ?_) (fun h => ?_) | refine g_callR hC ((pitem_no hl 0 _ _ hk (by assumption))) (nm [1025, 1009, 101, 102, 103, 104, 105, 106, 107]) rfl rfl (LeSs.refl _) rfl rfl rfl rfl rfl rfl rfl rfl ?_ | refine g_outE ?_ | refine g_callR hC (hTk) (nm [1025]) rfl rfl (LeSs.refl _) rfl rfl rfl rfl rfl rfl rfl rfl ?_
            refine g_freeze rfl (id := 101) (e := 2) (rows := xf.types.map nodeTR) rfl [] trivial [(1009, [.p (ks xf.n), .p (.sl 2 (xf.types.map nodeTR)), .ar 102, .ar 103, .ar 104, .ar 105, .ar 106, .ar 107])] ⟨⟨_, rfl, by decide, .cons (.refl _) (.cons (.ar) (.cons (.refl _) (.cons (.refl _) (.cons (.refl _) (.cons (.refl _) (.cons (.refl _) (.cons (.refl _) .nil)))))))⟩, trivial⟩ ?_
            refine g_freeze rfl (id := 102) (e := 2) (rows := xf.globals.map fieldR) rfl [] trivial [(1009, [.p (ks xf.n), .p (.sl 2 (xf.types.map nodeTR)), .p (.sl 2 (xf.globals.map fieldR)), .ar 103, .ar 104, .ar 105, .ar 106, .ar 107])] ⟨⟨_, rfl, by decide, .cons (.refl _) (.cons (.refl _) (.cons (.ar) (.cons (.refl _) (.cons (.refl _) (.cons (.refl _) (.cons (.refl _) (.cons (.refl _) .nil)))))))⟩, trivial⟩ ?_
            refine g_freeze rfl (id := 103) (e := 5) (rows := xf.procs.map procR) rfl [] trivial [(1009, [.p (ks xf.n), .p (.sl 2 (xf.types.map nodeTR)), .p (.sl 2 (xf.globals.map fieldR)), .p (.sl 5 (xf.procs.map procR)), .ar 104, .ar 105, .ar 106, .ar 107])] ⟨⟨_, rfl, by decide, .cons (.refl _) (.cons (.refl _) (.cons (.refl _) (.cons (.ar) (.cons (.refl _) (.cons (.refl _) (.cons (.refl _) (.cons (.refl _) .nil)))))))⟩, trivial⟩ ?_
            refine g_freeze rfl (id := 104) (e := 7) (rows := xf.measures.map measureR) rfl [] trivial [(1009, [.p (ks xf.n), .p (.sl 2 (xf.types.map nodeTR)), .p (.sl 2 (xf.globals.map fieldR)), .p (.sl 5 (xf.procs.map procR)), .p (.sl 7 (xf.measures.map measureR)), .ar 105, .ar 106, .ar 107])] ⟨⟨_, rfl, by decide, .cons (.refl _) (.cons (.refl _) (.cons (.refl _) (.cons (.refl _) (.cons (.ar) (.cons (.refl _) (.cons (.refl _) (.cons (.refl _) .nil)))))))⟩, trivial⟩ ?_
            refine g_freeze rfl (id := 105) (e := 6) (rows := xf.invs.map invR) rfl [] trivial [(1009, [.p (ks xf.n), .p (.sl 2 (xf.types.map nodeTR)), .p (.sl 2 (xf.globals.map fieldR)), .p (.sl 5 (xf.procs.map procR)), .p (.sl 7 (xf.measures.map measureR)), .p (.sl 6 (xf.invs.map invR)), .ar 106, .ar 107])] ⟨⟨_, rfl, by decide, .cons (.refl _) (.cons (.refl _) (.cons (.refl _) (.cons (.refl _) (.cons (.refl _) (.cons (.ar) (.cons (.refl _) (.cons (.refl _) .nil)))))))⟩, trivial⟩ ?_
            refine g_freeze rfl (id := 106) (e := 5) (rows := xf.pots.map potR) rfl [] trivial [(1009, [.p (ks xf.n), .p (.sl 2 (xf.types.map nodeTR)), .p (.sl 2 (xf.globals.map fieldR)), .p (.sl 5 (xf.procs.map procR)), .p (.sl 7 (xf.measures.map measureR)), .p (.sl 6 (xf.invs.map invR)), .p (.sl 5 (xf.pots.map potR)), .ar 107])] ⟨⟨_, rfl, by decide, .cons (.refl _) (.cons (.refl _) (.cons (.refl _) (.cons (.refl _) (.cons (.refl _) (.cons (.refl _) (.cons (.ar) (.cons (.refl _) .nil)))))))⟩, trivial⟩ ?_
            refine g_freeze rfl (id := 107) (e := 5) (rows := xf.bounds.map boundR) rfl [] trivial [(1009, [.p (ks xf.n), .p (.sl 2 (xf.types.map nodeTR)), .p (.sl 2 (xf.globals.map fieldR)), .p (.sl 5 (xf.procs.map procR)), .p (.sl 7 (xf.measures.map measureR)), .p (.sl 6 (xf.invs.map invR)), .p (.sl 5 (xf.pots.map potR)), .p (.sl 5 (xf.bounds.map boundR))])] ⟨⟨_, rfl, by decide, .cons (.refl _) (.cons (.refl _) (.cons (.refl _) (.cons (.refl _) (.cons (.refl _) (.cons (.refl _) (.cons (.refl _) (.cons (.ar) .nil)))))))⟩, trivial⟩ ?_
            repeat' first | refine g_go T hC true 400 rfl rfl ?_ | (exfalso; simp at h; done) | refine g_cond rfl (fun h => ?_) (fun h => ?_) | refine g_end T hC (by kernel_rfl) ?_ | refine g_splitD (fun h => ?_) (fun h => ?_) | refine g_splitG rfl rfl rfl (fun h => ?_) (fun h => ?_) | refine g_splitP rfl rfl (fun h => ?_) (fun h => ?_) | refine g_callR hC (hEnd) (nm [1025]) rfl rfl (LeSs.refl _) rfl rfl rfl rfl rfl rfl rfl rfl ?_ | refine g_call hC (hV) rfl rfl (LeSs.refl _) rfl rfl rfl ?_ | refine g_retl T (.inl rfl) rfl ?_
            exact g_fin ⟨.inl rfl, id, _, rfl, parse_bad_le, trivial, rfl, rfl⟩
        · simp only [ansD, h5, and_false, if_false] at hEnd ⊢
          repeat' first | refine g_go T hC true 400 rfl rfl ?_ | (exfalso; simp at h; done) | refine g_cond rfl (fun h => ?_) (fun h => ?_) | refine g_end T hC (by kernel_rfl) ?_ | refine g_splitD (fun h => ?_) (fun h => ?_) | refine g_splitG rfl rfl rfl (fun h => ?_) (fun h => ?_) | refine g_splitP rfl rfl (fun h => ?_) (fun h => ?_) | refine g_callR hC ((pitem_no hl 0 _ _ hk (by assumption))) (nm [1025, 1009, 101, 102, 103, 104, 105, 106, 107]) rfl rfl (LeSs.refl _) rfl rfl rfl rfl rfl rfl rfl rfl ?_ | refine g_outE ?_ | refine g_callR hC (hTk) (nm [1025]) rfl rfl (LeSs.refl _) rfl rfl rfl rfl rfl rfl rfl rfl ?_
          refine g_freeze rfl (id := 101) (e := 2) (rows := xf.types.map nodeTR) rfl [] trivial [(1009, [.p (ks xf.n), .p (.sl 2 (xf.types.map nodeTR)), .ar 102, .ar 103, .ar 104, .ar 105, .ar 106, .ar 107])] ⟨⟨_, rfl, by decide, .cons (.refl _) (.cons (.ar) (.cons (.refl _) (.cons (.refl _) (.cons (.refl _) (.cons (.refl _) (.cons (.refl _) (.cons (.refl _) .nil)))))))⟩, trivial⟩ ?_
          refine g_freeze rfl (id := 102) (e := 2) (rows := xf.globals.map fieldR) rfl [] trivial [(1009, [.p (ks xf.n), .p (.sl 2 (xf.types.map nodeTR)), .p (.sl 2 (xf.globals.map fieldR)), .ar 103, .ar 104, .ar 105, .ar 106, .ar 107])] ⟨⟨_, rfl, by decide, .cons (.refl _) (.cons (.refl _) (.cons (.ar) (.cons (.refl _) (.cons (.refl _) (.cons (.refl _) (.cons (.refl _) (.cons (.refl _) .nil)))))))⟩, trivial⟩ ?_
          refine g_freeze rfl (id := 103) (e := 5) (rows := xf.procs.map procR) rfl [] trivial [(1009, [.p (ks xf.n), .p (.sl 2 (xf.types.map nodeTR)), .p (.sl 2 (xf.globals.map fieldR)), .p (.sl 5 (xf.procs.map procR)), .ar 104, .ar 105, .ar 106, .ar 107])] ⟨⟨_, rfl, by decide, .cons (.refl _) (.cons (.refl _) (.cons (.refl _) (.cons (.ar) (.cons (.refl _) (.cons (.refl _) (.cons (.refl _) (.cons (.refl _) .nil)))))))⟩, trivial⟩ ?_
          refine g_freeze rfl (id := 104) (e := 7) (rows := xf.measures.map measureR) rfl [] trivial [(1009, [.p (ks xf.n), .p (.sl 2 (xf.types.map nodeTR)), .p (.sl 2 (xf.globals.map fieldR)), .p (.sl 5 (xf.procs.map procR)), .p (.sl 7 (xf.measures.map measureR)), .ar 105, .ar 106, .ar 107])] ⟨⟨_, rfl, by decide, .cons (.refl _) (.cons (.refl _) (.cons (.refl _) (.cons (.refl _) (.cons (.ar) (.cons (.refl _) (.cons (.refl _) (.cons (.refl _) .nil)))))))⟩, trivial⟩ ?_
          refine g_freeze rfl (id := 105) (e := 6) (rows := xf.invs.map invR) rfl [] trivial [(1009, [.p (ks xf.n), .p (.sl 2 (xf.types.map nodeTR)), .p (.sl 2 (xf.globals.map fieldR)), .p (.sl 5 (xf.procs.map procR)), .p (.sl 7 (xf.measures.map measureR)), .p (.sl 6 (xf.invs.map invR)), .ar 106, .ar 107])] ⟨⟨_, rfl, by decide, .cons (.refl _) (.cons (.refl _) (.cons (.refl _) (.cons (.refl _) (.cons (.refl _) (.cons (.ar) (.cons (.refl _) (.cons (.refl _) .nil)))))))⟩, trivial⟩ ?_
          refine g_freeze rfl (id := 106) (e := 5) (rows := xf.pots.map potR) rfl [] trivial [(1009, [.p (ks xf.n), .p (.sl 2 (xf.types.map nodeTR)), .p (.sl 2 (xf.globals.map fieldR)), .p (.sl 5 (xf.procs.map procR)), .p (.sl 7 (xf.measures.map measureR)), .p (.sl 6 (xf.invs.map invR)), .p (.sl 5 (xf.pots.map potR)), .ar 107])] ⟨⟨_, rfl, by decide, .cons (.refl _) (.cons (.refl _) (.cons (.refl _) (.cons (.refl _) (.cons (.refl _) (.cons (.refl _) (.cons (.ar) (.cons (.refl _) .nil)))))))⟩, trivial⟩ ?_
          refine g_freeze rfl (id := 107) (e := 5) (rows := xf.bounds.map boundR) rfl [] trivial [(1009, [.p (ks xf.n), .p (.sl 2 (xf.types.map nodeTR)), .p (.sl 2 (xf.globals.map fieldR)), .p (.sl 5 (xf.procs.map procR)), .p (.sl 7 (xf.measures.map measureR)), .p (.sl 6 (xf.invs.map invR)), .p (.sl 5 (xf.pots.map potR)), .p (.sl 5 (xf.bounds.map boundR))])] ⟨⟨_, rfl, by decide, .cons (.refl _) (.cons (.refl _) (.cons (.refl _) (.cons (.refl _) (.cons (.refl _) (.cons (.refl _) (.cons (.refl _) (.cons (.ar) .nil)))))))⟩, trivial⟩ ?_
          repeat' first | refine g_go T hC true 400 rfl rfl ?_ | (exfalso; simp at h; done) | refine g_cond rfl (fun h => ?_) (fun h => ?_) | refine g_end T hC (by kernel_rfl) ?_ | refine g_splitD (fun h => ?_) (fun h => ?_) | refine g_splitG rfl rfl rfl (fun h => ?_) (fun h => ?_) | refine g_splitP rfl rfl (fun h => ?_) (fun h => ?_) | refine g_callR hC (hEnd) (nm [1025]) rfl rfl (LeSs.refl _) rfl rfl rfl rfl rfl rfl rfl rfl ?_ | refine g_call hC (hV) rfl rfl (LeSs.refl _) rfl rfl rfl ?_ | refine g_retl T (.inl rfl) rfl ?_
          exact g_fin ⟨.inl rfl, id, _, rfl, parse_bad_le, trivial, rfl, rfl⟩
end Hw.Pa
namespace Hw.Pa
open Go Go.Proofs Hw.M

def eqL {α : Type} (p : α → α → Bool) : List α → List α → Bool
  | [], [] => true
  | x :: a, y :: b => p x y && eqL p a b
  | [], _ :: _ => false
  | _ :: _, [] => false
theorem eqL_len {α : Type} {p : α → α → Bool} : ∀ {a b : List α}, a.length ≠ b.length → eqL p a b = false
  | [], [], h => absurd rfl h
  | x :: a, y :: b, h => by rw [eqL, eqL_len (fun e => h (by rw [List.length_cons, List.length_cons, e])), Bool.and_false]
  | [], _ :: _, _ => rfl
  | _ :: _, [], _ => rfl
theorem eqL_refl {α : Type} {p : α → α → Bool} : ∀ {a : List α}, (∀ x ∈ a, p x x = true) → eqL p a a = true
  | [], _ => rfl
  | x :: a, h => by rw [eqL, h x (by simp), eqL_refl fun y hy => h y (by simp [hy])]; rfl
mutual
def sameE : Ex → Ex → Bool
  | .mk o n s l, .mk o' n' s' l' => decide (o = o') && decide (n = n') && decide (s = s') && sameLs l l'
def sameLs : List Ex → List Ex → Bool
  | [], [] => true
  | x :: a, y :: b => sameE x y && sameLs a b
  | [], _ :: _ => false
  | _ :: _, [] => false
end
theorem sameLs_eq : ∀ a b : List Ex, sameLs a b = eqL sameE a b
  | [], [] => by simp only [sameLs, eqL]
  | x :: a, y :: b => by simp only [sameLs, eqL, sameLs_eq a b]
  | [], _ :: _ => by simp only [sameLs, eqL]
  | _ :: _, [] => by simp only [sameLs, eqL]
theorem sameE_eq (a b : Ex) : sameE a b = (decide (a.op = b.op) && decide (a.n = b.n) && decide (a.s = b.s) && eqL sameE a.l b.l) := by
  cases a; cases b; simp only [sameE, sameLs_eq, Ex.op, Ex.n, Ex.s, Ex.l]; rfl
theorem sameE_refl : ∀ (k : Nat) (a : Ex), sizeOf a < k → sameE a a = true := by
  intro k
  induction k with
  | zero => intro a h; omega
  | succ k ih =>
    intro a h
    rw [sameE_eq, decide_eq_true rfl, decide_eq_true rfl, decide_eq_true rfl, eqL_refl fun x hx => ih x (by have := List.sizeOf_lt_of_mem hx; have := sizeE_sub a; omega)]
    rfl
theorem rsameExpr_ok : ∀ (N : Nat) (a b : Ex), sizeOf a < N → FnOK Tryz.prog 16 [aggS (exprC a), aggS (exprC b)] [] (.bq (sameE a b)) [] := by
  intro N
  induction N with
  | zero => intro a b h; omega
  | succ N ih =>
    intro a b hN
    have no : (decide (a.op = b.op) && decide (a.n = b.n) && decide (a.s = b.s) && decide ((a.l.length : Int) = b.l.length)) = false → sameE a b = false := fun h => by
      rw [sameE_eq]
      by_cases hl : a.l.length = b.l.length
      · rw [decide_eq_true (show (a.l.length : Int) = b.l.length by rw [hl]), Bool.and_true] at h
        rw [h]; rfl
      · rw [eqL_len hl, Bool.and_false]
    have yes : (decide (a.op = b.op) && decide (a.n = b.n) && decide (a.s = b.s) && decide ((a.l.length : Int) = b.l.length)) = true → sameE a b = eqL sameE a.l b.l := fun h => by
      rw [sameE_eq]
      simp only [Bool.and_eq_true] at h
      rw [h.1.1.1, h.1.1.2, h.1.2]; rfl
    refine fn_ok T Tryz.func16 (by kernel_rfl) rfl rfl rfl rfl fun C hC => ?_
    refine g_lenA rfl 0 3 rfl rfl fun hlen => ?_
    rw [List.length_map] at hlen
    repeat' first | refine g_go T hC true 400 rfl rfl ?_ | refine g_cond rfl (fun h => ?_) (fun h => ?_) | refine g_end T hC (by kernel_rfl) ?_ | refine g_splitD (fun h => ?_) (fun h => ?_) | refine g_splitG rfl rfl rfl (fun h => ?_) (fun h => ?_) | refine g_splitP rfl rfl (fun h => ?_) (fun h => ?_) | refine g_retl T (.inl rfl) rfl ?_
    all_goals (try simp only [List.length_map] at *)
    all_goals first
      | (refine (no ?_).symm; clear no yes ih; simp_all; done)
      | (have hy : (decide (a.op = b.op) && decide (a.n = b.n) && decide (a.s = b.s) && decide ((a.l.length : Int) = b.l.length)) = true := by clear no yes ih; simp_all
         rw [yes hy]
         have hab : a.l.length = b.l.length := by simp only [Bool.and_eq_true, decide_eq_true_eq] at hy; omega
         clear no yes hy
         refine g_loop (fun i : Nat => i ≤ a.l.length ∧ eqL sameE (a.l.drop i) (b.l.drop i) = eqL sameE a.l b.l) (fun i => ([(2, .one (.bx 1002 0)), (3, .one (.bx 1003 0)), (5, I i)], [(1002, some (.box ((exprC a).map V.p))), (1003, some (.box ((exprC b).map V.p)))])) (fun i => a.l.length - i) hC
           0 ⟨Nat.zero_le _, rfl⟩ id ⟨rfl, ⟨rfl, rfl, rfl, trivial⟩, ⟨rfl, rfl, trivial⟩, rfl, fun _ _ => rfl⟩ ?_
         rintro i ⟨hi, hn⟩
         refine g_run' T hC true 200 rfl ?_
         refine g_cond rfl (fun h => ?_) (fun h => ?_)
         · have hlt : i < a.l.length := by have := of_decide_eq_true h; rw [List.length_map] at this; omega
           clear h
           obtain ⟨x, hx⟩ := exists_at hlt
           obtain ⟨y, hy⟩ := exists_at (hab ▸ hlt)
           have hS := ih x y (by have := List.sizeOf_lt_of_mem (List.mem_of_getElem? hx); have := sizeE_sub a; omega)
           rw [drop_at hx, drop_at hy, eqL] at hn
           repeat' first | refine g_go T hC true 400 rfl rfl ?_ | refine g_cond rfl (fun h => ?_) (fun h => ?_) | refine g_end T hC (by kernel_rfl) ?_ | refine g_splitD (fun h => ?_) (fun h => ?_) | refine g_splitG rfl rfl rfl (fun h => ?_) (fun h => ?_) | refine g_splitP rfl rfl (fun h => ?_) (fun h => ?_) | refine g_idx T hC rfl rfl rfl (Int.natCast_nonneg _) (map_atE hx) rfl rfl ?_ | refine g_idx T hC rfl rfl rfl (Int.natCast_nonneg _) (map_atE hy) rfl rfl ?_ | refine g_call hC (hS) rfl rfl (LeSs.refl _) rfl rfl rfl ?_ | refine g_outR ?_ | refine g_retl T (.inl rfl) rfl ?_
           · have hxy : sameE x y = false := by simpa using h
             rw [hxy] at hn; exact hn
           · have hxy : sameE x y = true := by simpa using h
             rw [hxy, Bool.true_and] at hn
             rw [wrap64 (by omega)]
             exact g_round (i + 1) ⟨by omega, hn⟩ id (by omega) ⟨rfl, ⟨rfl, rfl, rfl, trivial⟩, ⟨rfl, rfl, trivial⟩, rfl, fun _ _ => rfl⟩
         · have hge : ¬ i < a.l.length := by have := of_decide_eq_false h; rw [List.length_map] at this; omega
           repeat' first | refine g_go T hC true 400 rfl rfl ?_ | refine g_cond rfl (fun h => ?_) (fun h => ?_) | refine g_end T hC (by kernel_rfl) ?_ | refine g_splitD (fun h => ?_) (fun h => ?_) | refine g_splitG rfl rfl rfl (fun h => ?_) (fun h => ?_) | refine g_splitP rfl rfl (fun h => ?_) (fun h => ?_) | refine g_outE ?_ | refine g_retl T (.inl rfl) rfl ?_
           rw [List.drop_eq_nil_of_le (by omega), List.drop_eq_nil_of_le (by omega)] at hn
           exact hn)
end Hw.Pa
