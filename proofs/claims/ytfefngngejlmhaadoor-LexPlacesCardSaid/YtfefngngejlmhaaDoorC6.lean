/- The engine and the contracts. -/
import Derived.Test.YtfefngngejlmhaaDoorC5
set_option linter.unusedVariables false
set_option linter.unusedSimpArgs false
namespace Hw.L
open Go Go.Proofs Go.Shelf Hw.M

/-! lex.Tokens -/
def mvU (a b i : Nat) : Nat := match Nat.beq i a with
  | true => b
  | false => i
theorem mvU_low {a b i : Nat} (ha : 100 ≤ a) (hi : i < 100) : mvU a b i = i := by
  unfold mvU; rw [beq_ne (by omega)]
theorem tw_end {p : UInt8 → Bool} : ∀ (l : By) (k : Nat), (l.take k).all p = true → (∀ x, l[k]? = some x → p x = false) → l.takeWhile p = l.take k
  | [], k, _, _ => by simp
  | x :: l, 0, _, h => by
    have := h x rfl
    rw [List.takeWhile_cons, if_neg (by simp [this])]; rfl
  | x :: l, k + 1, ha, h => by
    rw [List.take_succ_cons, List.all_cons, Bool.and_eq_true] at ha
    rw [List.takeWhile_cons, if_pos ha.1, List.take_succ_cons, tw_end l k ha.2 (fun y hy => h y (by simpa using hy))]
theorem dropC {l : By} {i : Nat} {c : UInt8} (h : l[i]? = some c) : l.drop i = c :: l.drop (i + 1) := by
  obtain ⟨hi, rfl⟩ := List.getElem?_eq_some_iff.1 h
  exact List.drop_eq_getElem_cons hi
theorem blB_iff {c : UInt8} : blB c = true ↔ classS c.toNat = 1 := by unfold blB; exact decide_eq_true_iff
theorem wB_iff {c : UInt8} : wB c = true ↔ 2 ≤ classS c.toNat := by
  have := class_word c.toNat
  unfold wB
  cases h : isWord (c.toNat : Int) with
  | true => rw [h] at this; simp at this; simpa using this
  | false => rw [h] at this; simp at this; simp; omega
theorem step_blank {l : By} {i : Nat} {c : UInt8} (p : Int × Int) (out : List Tok) (h : l[i]? = some c) (hb : blB c = true) : lxx (l.drop i) p out = lxx (l.drop (i + 1)) (mv p c) out := by
  have ht : tk (l.drop i) = some (1, none) := by rw [dropC h]; simp only [tk, if_pos hb]
  rw [lxx_step p out ht, List.drop_drop, dropC h]
  simp
theorem take_line {l : By} {p : UInt8 → Bool} (hp : p 10 = false) (q : Int × Int) : (l.take (l.takeWhile p).length).foldl mv q = (q.1, q.2 + (l.takeWhile p).length) := by
  have e : l.take (l.takeWhile p).length = l.takeWhile p := (List.prefix_iff_eq_take.1 (List.takeWhile_prefix p)).symm
  rw [e]
  refine mv_line _ _ fun b hb e => ?_
  subst e
  have := (List.all_eq_true.1 (List.all_takeWhile (p := p) (l := l))) _ hb
  rw [hp] at this; cases this
theorem step_com {l : By} {i k : Nat} (p : Int × Int) (out : List Tok) (h : l[i]? = some 35) (hk : ((l.drop i).takeWhile fun b => decide (b ≠ 10)).length = k) : lxx (l.drop i) p out = lxx (l.drop (i + k)) (p.1, p.2 + k) out := by
  subst hk
  have ht : tk (l.drop i) = some (((l.drop i).takeWhile fun b => decide (b ≠ 10)).length, none) := by
    rw [dropC h]; simp only [tk]; rw [if_neg (by decide)]; rfl
  rw [lxx_step p out ht, List.drop_drop, take_line (by decide)]
  simp
theorem step_word {l : By} {i : Nat} {c : UInt8} (p : Int × Int) (out : List Tok) (h : l[i]? = some c) (hb : blB c = false) (hc : c ≠ 35) (hw : wB c = true) {t : Int × Str × Int} (ht : clsT ((l.drop i).takeWhile wB) = some t) : lxx (l.drop i) p out = lxx (l.drop (i + ((l.drop i).takeWhile wB).length)) (p.1, p.2 + ((l.drop i).takeWhile wB).length) (out ++ [tokAt p t]) := by
  have hk : tk (l.drop i) = some (((l.drop i).takeWhile wB).length, some t) := by
    rw [dropC h] at ht ⊢
    simp only [tk]
    rw [if_neg (by simp [hb]), if_neg hc, if_pos hw, ht]; rfl
  rw [lxx_step p out hk, List.drop_drop, take_line (by decide)]
  rfl
theorem word_bad {l : By} {i : Nat} {c : UInt8} (p : Int × Int) (out : List Tok) (h : l[i]? = some c) (hb : blB c = false) (hc : c ≠ 35) (hw : wB c = true) (ht : clsT ((l.drop i).takeWhile wB) = none) : lxx (l.drop i) p out = ([], p, 7) := by
  rw [dropC h] at ht ⊢
  refine lxx_bad p out ?_
  simp only [tk]
  rw [if_neg (by simp [hb]), if_neg hc, if_pos hw, ht]; rfl
theorem syms_line : ∀ y ∈ syms, ∀ b ∈ lst y, b ≠ 10 := by decide +kernel
theorem sym_line {l : By} {y : Str} (h : symL l = some y) (q : Int × Int) : (l.take y.size).foldl mv q = (q.1, q.2 + (y.size : Int)) := by
  obtain ⟨h1, h2⟩ := sym_of h
  have e : l.take y.size = lst y := by
    rw [← lst_len]; exact (List.prefix_iff_eq_take.1 (List.isPrefixOf_iff_prefix.1 h2)).symm
  rw [e, mv_line _ _ (syms_line y h1), lst_len]
theorem step_sym {l : By} {i : Nat} {c : UInt8} (p : Int × Int) (out : List Tok) (h : l[i]? = some c) (hb : blB c = false) (hc : c ≠ 35) (hw : wB c = false) {y : Str} (ht : symL (l.drop i) = some y) : lxx (l.drop i) p out = lxx (l.drop (i + y.size)) (p.1, p.2 + (y.size : Int)) (out ++ [tokAt p (4, y, 0)]) := by
  have hk : tk (l.drop i) = some (y.size, some (4, y, 0)) := by
    rw [dropC h] at ht ⊢
    simp only [tk]
    rw [if_neg (by simp [hb]), if_neg hc, if_neg (by simp [hw]), ht]; rfl
  rw [lxx_step p out hk, List.drop_drop, sym_line ht]
  rfl
theorem sym_bad {l : By} {i : Nat} {c : UInt8} (p : Int × Int) (out : List Tok) (h : l[i]? = some c) (hb : blB c = false) (hc : c ≠ 35) (hw : wB c = false) (ht : symL (l.drop i) = none) : lxx (l.drop i) p out = ([], p, 7) := by
  rw [dropC h] at ht ⊢
  refine lxx_bad p out ?_
  simp only [tk]
  rw [if_neg (by simp [hb]), if_neg hc, if_neg (by simp [hw]), ht]; rfl
end Hw.L
namespace Hw.L
open Go Go.Proofs Go.Shelf Hw.M

/-! lex.Tokens: the walk -/
theorem lexTokens_ok (s : Str) (hs : s.size ≤ 1000000) : FnOK Tryd.prog 9 [Sr s] [] (.tup [pS (toksP (tokensS s).1), aggS [ki (tokensS s).2.1.1, ki (tokensS s).2.1.2], I (tokensS s).2.2]) [] := by
  have hl := lst_len s
  by_cases hbig : 65536 < s.size
  · have hR : tokensS s = ([], (0, 0), 4) := if_pos hbig
    rw [hR]
    refine fn_ok T Tryd.func9 (by kernel_rfl) rfl rfl rfl rfl fun C hC => ?_
    repeat' first
      | refine g_go T hC true 400 rfl rfl ?_
      | refine g_cond rfl (fun h => ?_) (fun h => ?_)
      | refine g_end T hC (by kernel_rfl) ?_
      | refine g_splitD (fun h => ?_) (fun h => ?_)
      | refine g_splitG rfl rfl rfl (fun h => ?_) (fun h => ?_)
      | refine g_splitP rfl rfl (fun h => ?_) (fun h => ?_)
    all_goals first
      | exact g_fin ⟨.inl rfl, id, _, rfl, LeS.tup (.cons (LeS.one (.nil 5)) (.cons (.refl _) (.cons (.refl _) .nil))), trivial, rfl, rfl⟩
      | (exfalso; simp only [decide_eq_false_iff_not] at h; omega)
  have hR : tokensS s = lxx ((lst s).drop 0) (1, 1) [] := if_neg hbig
  generalize tokensS s = R at hR
  refine fn_ok T Tryd.func9 (by kernel_rfl) rfl rfl rfl rfl fun C hC => ?_
  repeat' first
    | refine g_go T hC true 400 rfl rfl ?_
    | refine g_cond rfl (fun h => ?_) (fun h => ?_)
    | refine g_end T hC (by kernel_rfl) ?_
    | refine g_splitD (fun h => ?_) (fun h => ?_)
    | refine g_splitG rfl rfl rfl (fun h => ?_) (fun h => ?_)
    | refine g_splitP rfl rfl (fun h => ?_) (fun h => ?_)
  · exfalso; have := of_decide_eq_true h; omega
  refine g_adopt hC rfl 101 5 rfl [(5, .one (.ar 101))] ⟨⟨_, rfl, AdS.nil⟩, trivial⟩ [] trivial ?_
  refine g_loop (fun q : Nat × Nat × Nat × List Tok => q.1 ≤ s.size ∧ q.2.2.1 ≤ q.1 ∧ q.2.1 ≤ q.1 + 1 ∧ q.2.2.2.length ≤ q.1 ∧ R = lxx ((lst s).drop q.1) (q.2.1, (q.1 : Int) - q.2.2.1 + 1) q.2.2.2) (fun q => ([(0, Sr s), (3, .one (.bx 1003 0)), (5, .one (.ar 101)), (6, I q.2.1), (7, I q.2.2.1), (8, I q.1)], [(1003, some (Res.box [.p (ki 0), .p (ki 0)])), (101, some (Res.arr 5 (q.2.2.2.map tokR)))])) (fun q => s.size - q.1) hC
    (0, 1, 0, []) ⟨Nat.zero_le _, Nat.zero_le _, by decide, Nat.zero_le _, hR⟩ id ⟨rfl, ⟨rfl, rfl, rfl, rfl, rfl, rfl, trivial⟩, ⟨rfl, rfl, trivial⟩, rfl, fun _ _ => rfl⟩ ?_
  rintro ⟨i, ln, bg, out⟩ ⟨hi, hb, hlnn, hout, hL⟩
  simp only at hi hb hlnn hout hL
  refine g_run' T hC true 200 rfl ?_
  refine g_cond rfl (fun hh => ?_) (fun hh => ?_)
  rotate_left
  · have hge : i = s.size := by have := of_decide_eq_false hh; omega
    clear hh
    rw [List.drop_of_length_le (by omega), lxx_nil] at hL
    subst hL
    have w1 : IntKind.i64.wrap ((s.size : Int) - bg) = (s.size : Int) - bg := wrap64 (by omega)
    have w2 : IntKind.i64.wrap ((s.size : Int) - bg + 1) = (s.size : Int) - bg + 1 := wrap64 (by omega)
    have hol : (out.map tokR).length = out.length := List.length_map _
    have happ : out.map tokR ++ [[ki 5, ks (⟨#[]⟩ : ByteArray), ki 0, ki ln, ki (IntKind.i64.wrap (IntKind.i64.wrap ((s.size : Int) - bg) + 1))]] = (out ++ [(⟨5, (⟨#[]⟩ : ByteArray), 0, ln, (i : Int) - bg + 1⟩ : Tok)]).map tokR := by rw [w1, w2, hge, List.map_append]; rfl
    repeat' first
      | refine g_go T hC true 400 rfl rfl ?_
      | refine g_cond rfl (fun h => ?_) (fun h => ?_)
      | refine g_end T hC (by kernel_rfl) ?_
      | refine g_splitD (fun h => ?_) (fun h => ?_)
      | refine g_splitG rfl rfl rfl (fun h => ?_) (fun h => ?_)
      | refine g_splitP rfl rfl (fun h => ?_) (fun h => ?_)
      | refine g_outE ?_
      | refine g_lit T hC rfl rfl rfl rfl rfl rfl rfl rfl rfl ?_
      | (refine g_append T 102 hC (rows := out.map tokR) (rows2 := [[ki 5, ks (⟨#[]⟩ : ByteArray), ki 0, ki ln, ki (IntKind.i64.wrap (IntKind.i64.wrap ((s.size : Int) - bg) + 1))]]) (rows3 := (out ++ [(⟨5, (⟨#[]⟩ : ByteArray), 0, ln, (i : Int) - bg + 1⟩ : Tok)]).map tokR) (bytes := 48) rfl rfl rfl rfl (SrcS.sl (T.es_ok _ _ rfl)) happ rfl rfl rfl (by kernel_rfl) (by rw [hol, List.length_singleton]; omega) (by rw [hol, List.length_singleton]; omega) rfl rfl rfl ?_)
    refine g_freeze rfl (id := 102) (e := 5) (rows := (out ++ [(⟨5, (⟨#[]⟩ : ByteArray), 0, ln, (i : Int) - bg + 1⟩ : Tok)]).map tokR) rfl [(2, pS (toksP (out ++ [(⟨5, (⟨#[]⟩ : ByteArray), 0, ln, (i : Int) - bg + 1⟩ : Tok)])))] ⟨⟨_, rfl, FrS.ar⟩, trivial⟩ [] trivial ?_
    exact g_fin ⟨.inl rfl, id, _, rfl, .refl _, trivial, rfl, rfl⟩
  have hlt : i < (lst s).length := by have := of_decide_eq_true hh; omega
  clear hh
  obtain ⟨c, hc⟩ := exists_at hlt
  have hK := class_ok c.toNat
  have w1 : IntKind.i64.wrap ((i : Int) - bg) = (i : Int) - bg := wrap64 (by omega)
  have w2 : IntKind.i64.wrap ((i : Int) - bg + 1) = (i : Int) - bg + 1 := wrap64 (by omega)
  cases hbl : blB c with
  | true =>
    have hcl := blB_iff.1 hbl
    rw [step_blank _ _ hc hbl] at hL
    rw [hcl] at hK
    repeat' first
      | refine g_go T hC true 400 rfl rfl ?_
      | (exfalso; simp at h; done)
      | refine g_cond rfl (fun h => ?_) (fun h => ?_)
      | refine g_end T hC (by kernel_rfl) ?_
      | refine g_splitD (fun h => ?_) (fun h => ?_)
      | refine g_splitG rfl rfl rfl (fun h => ?_) (fun h => ?_)
      | refine g_splitP rfl rfl (fun h => ?_) (fun h => ?_)
      | refine g_idxS T hC rfl rfl rfl (Int.natCast_nonneg _) (lst_at hc) rfl rfl ?_
      | refine g_call hC (hK) rfl rfl (LeSs.refl _) rfl rfl rfl ?_
    · have h10 : c = 10 := UInt8.toNat_inj.1 (by have := of_decide_eq_true h; have e : (10 : UInt8).toNat = 10 := rfl; omega)
      subst h10
      dsimp only
      rw [wrapS (by omega), wrapS (by omega)]
      refine g_round (i + 1, ln + 1, i + 1, out) ⟨by simp only; omega, Nat.le_refl _, by simp only; omega, by simp only; omega, ?_⟩ id (by simp only; omega) ⟨rfl, ⟨rfl, rfl, rfl, rfl, rfl, rfl, trivial⟩, ⟨rfl, rfl, trivial⟩, rfl, fun _ _ => rfl⟩
      rw [hL]; simp [mv]
    · have h10 : c ≠ 10 := fun e => by subst e; exact absurd h (by decide)
      dsimp only
      rw [wrapS (by omega)]
      refine g_round (i + 1, ln, bg, out) ⟨by simp only; omega, by simp only; omega, by simp only; omega, by simp only; omega, ?_⟩ id (by simp only; omega) ⟨rfl, ⟨rfl, rfl, rfl, rfl, rfl, rfl, trivial⟩, ⟨rfl, rfl, trivial⟩, rfl, fun _ _ => rfl⟩
      rw [hL]; unfold mv; rw [if_neg h10]
      congr 2
      show (i : Int) - bg + 1 + 1 = ((i + 1 : Nat) : Int) - bg + 1
      omega
  | false =>
  have hcl : classS c.toNat ≠ 1 := fun e => by rw [blB_iff.2 e] at hbl; cases hbl
  by_cases h35 : c = 35
  · subst h35
    rw [show classS ((35 : UInt8).toNat : Int) = 0 from rfl] at hK
    repeat' first
      | refine g_go T hC true 400 rfl rfl ?_
      | (exfalso; simp at h; done)
      | refine g_cond rfl (fun h => ?_) (fun h => ?_)
      | refine g_end T hC (by kernel_rfl) ?_
      | refine g_splitD (fun h => ?_) (fun h => ?_)
      | refine g_splitG rfl rfl rfl (fun h => ?_) (fun h => ?_)
      | refine g_splitP rfl rfl (fun h => ?_) (fun h => ?_)
      | refine g_idxS T hC rfl rfl rfl (Int.natCast_nonneg _) (lst_at hc) rfl rfl ?_
      | refine g_call hC (hK) rfl rfl (LeSs.refl _) rfl rfl rfl ?_
    all_goals (try (exfalso; revert h; decide))
    refine g_loop (fun k : Nat => i + k ≤ s.size ∧ (((lst s).drop i).take k).all (fun b => decide (b ≠ 10)) = true) (fun k => ([(0, Sr s), (3, .one (.bx 1003 0)), (5, .one (.ar 101)), (6, I ln), (7, I bg), (8, I (i + k : Nat))], [(1003, some (Res.box [.p (ki 0), .p (ki 0)])), (101, some (Res.arr 5 (out.map tokR)))])) (fun k => s.size - i - k) hC
      0 ⟨by omega, by simp⟩ id ⟨rfl, ⟨rfl, rfl, rfl, rfl, rfl, rfl, trivial⟩, ⟨rfl, rfl, trivial⟩, rfl, fun _ _ => rfl⟩ ?_
    rintro k ⟨hk, hall⟩
    have hcom : (∀ x, ((lst s).drop i)[k]? = some x → x = 10) → 0 < k ∧ R = lxx ((lst s).drop (i + k)) (ln, ((i + k : Nat) : Int) - bg + 1) out := fun hx => by
      have htw := tw_end _ k hall (fun x h => by simpa using hx x h)
      refine ⟨?_, ?_⟩
      · rcases Nat.eq_zero_or_pos k with rfl | h
        · have := hx 35 (by rw [List.getElem?_drop]; exact hc)
          cases this
        · exact h
      · rw [hL, step_com _ _ hc (k := k) (by rw [htw, List.length_take, List.length_drop]; omega)]
        have e : (i : Int) - bg + 1 + k = ((i + k : Nat) : Int) - bg + 1 := by omega
        show lxx _ ((ln : Int), (i : Int) - bg + 1 + k) out = _
        rw [e]
    refine g_run' T hC true 200 rfl ?_
    by_cases hj : i + k < s.size
    · obtain ⟨x, hx⟩ := exists_at (l := lst s) (i := i + k) (by omega)
      have hxd : ((lst s).drop i)[k]? = some x := by rw [List.getElem?_drop]; exact hx
      repeat' first
        | refine g_go T hC true 400 rfl rfl ?_
        | (exfalso; have h2 := of_decide_eq_false h; omega)
        | refine g_cond rfl (fun h => ?_) (fun h => ?_)
        | refine g_end T hC (by kernel_rfl) ?_
        | refine g_splitD (fun h => ?_) (fun h => ?_)
        | refine g_splitG rfl rfl rfl (fun h => ?_) (fun h => ?_)
        | refine g_splitP rfl rfl (fun h => ?_) (fun h => ?_)
        | refine g_idxS T hC rfl rfl rfl (Int.natCast_nonneg _) (lst_at hx) rfl rfl ?_
        | refine g_outE ?_
      · have hx10 : x ≠ 10 := fun e => by subst e; exact absurd h (by decide)
        rw [wrapS (by omega)]
        exact g_round (k + 1) ⟨by omega, by rw [all_take hxd, hall]; simpa using hx10⟩ id (by omega) ⟨rfl, ⟨rfl, rfl, rfl, rfl, rfl, rfl, trivial⟩, ⟨rfl, rfl, trivial⟩, rfl, fun _ _ => rfl⟩
      · obtain ⟨h0, hL'⟩ := hcom fun y hy => by
          rw [hxd] at hy
          obtain rfl := Option.some.inj hy
          exact UInt8.toNat_inj.1 (by have e2 : (10 : UInt8).toNat = 10 := rfl; simp at h; omega)
        exact g_round (i + k, ln, bg, out) ⟨by simp only; omega, by simp only; omega, by simp only; omega, by simp only; omega, hL'⟩ id (by simp only; omega) ⟨rfl, ⟨rfl, rfl, rfl, rfl, rfl, rfl, trivial⟩, ⟨rfl, rfl, trivial⟩, rfl, fun _ _ => rfl⟩
    · repeat' first
        | refine g_go T hC true 400 rfl rfl ?_
        | (exfalso; have h2 := of_decide_eq_true h; omega)
        | refine g_cond rfl (fun h => ?_) (fun h => ?_)
        | refine g_end T hC (by kernel_rfl) ?_
        | refine g_splitD (fun h => ?_) (fun h => ?_)
        | refine g_splitG rfl rfl rfl (fun h => ?_) (fun h => ?_)
        | refine g_splitP rfl rfl (fun h => ?_) (fun h => ?_)
        | refine g_outE ?_
      obtain ⟨h0, hL'⟩ := hcom fun y hy => by
        rw [List.getElem?_drop, List.getElem?_eq_none (by omega)] at hy
        cases hy
      exact g_round (i + k, ln, bg, out) ⟨by simp only; omega, by simp only; omega, by simp only; omega, by simp only; omega, hL'⟩ id (by simp only; omega) ⟨rfl, ⟨rfl, rfl, rfl, rfl, rfl, rfl, trivial⟩, ⟨rfl, rfl, trivial⟩, rfl, fun _ _ => rfl⟩
  have hwd := @wB_iff c
  have h35c : ¬ (c.toNat : Int) = 35 := fun e => h35 (UInt8.toNat_inj.1 (by have e2 : (35 : UInt8).toNat = 35 := rfl; omega))
  generalize hcv : classS (c.toNat : Int) = cv at hK hcl hwd
  cases hw : wB c with
  | true =>
    rw [hw] at hwd
    have hcw : 2 ≤ cv := hwd.1 rfl
    repeat' first
      | refine g_go T hC true 400 rfl rfl ?_
      | (exfalso; have h2 := of_decide_eq_false h; omega)
      | (exfalso; have h2 := of_decide_eq_true h; omega)
      | refine g_cond rfl (fun h => ?_) (fun h => ?_)
      | refine g_end T hC (by kernel_rfl) ?_
      | refine g_splitD (fun h => ?_) (fun h => ?_)
      | refine g_splitG rfl rfl rfl (fun h => ?_) (fun h => ?_)
      | refine g_splitP rfl rfl (fun h => ?_) (fun h => ?_)
      | refine g_idxS T hC rfl rfl rfl (Int.natCast_nonneg _) (lst_at hc) rfl rfl ?_
      | refine g_call hC (hK) rfl rfl (LeSs.refl _) rfl rfl rfl ?_
    dsimp only
    rw [w1, w2]
    refine g_loop (fun k : Nat => i + k ≤ s.size ∧ (((lst s).drop i).take k).all wB = true) (fun k => ([(0, Sr s), (3, .one (.bx 1003 0)), (5, .one (.ar 101)), (6, I ln), (7, I bg), (8, I i), (9, .one (.bx 1009 0)), (11, I (i + k : Nat))], [(1003, some (Res.box [.p (ki 0), .p (ki 0)])), (1009, some (Res.box [.p (ki ln), .p (ki ((i : Int) - bg + 1))])), (101, some (Res.arr 5 (out.map tokR)))])) (fun k => s.size - i - k) hC
      0 ⟨by omega, by simp⟩ id ⟨rfl, ⟨rfl, rfl, rfl, rfl, rfl, rfl, rfl, rfl, trivial⟩, ⟨rfl, rfl, rfl, trivial⟩, rfl, fun _ _ => rfl⟩ ?_
    rintro k ⟨hk, hall⟩
    have hwe : (∀ x, ((lst s).drop i)[k]? = some x → wB x = false) → 0 < k ∧ ((lst s).drop i).takeWhile wB = ((lst s).drop i).take k ∧ (((lst s).drop i).takeWhile wB).length = k := fun hx => by
      have htw := tw_end _ k hall hx
      refine ⟨?_, htw, ?_⟩
      · rcases Nat.eq_zero_or_pos k with rfl | h
        · have := hx c (by rw [List.getElem?_drop]; exact hc)
          rw [hw] at this; cases this
        · exact h
      · rw [htw, List.length_take, List.length_drop]; omega
    have hex : s.extract i (i + k) = strOf (((lst s).drop i).take k) := by rw [extract_str, show i + k - i = k by omega]
    have hlx : lst (s.extract ((i : Nat) : Int).toNat ((i + k : Nat) : Int).toNat) = ((lst s).drop i).take k := by rw [Int.toNat_natCast, Int.toNat_natCast, hex, lst_str]
    have hW := lexWord_ok (s.extract ((i : Nat) : Int).toNat ((i + k : Nat) : Int).toNat) (by rw [← lst_len, hlx, List.length_take]; omega)
    rw [hlx] at hW
    have hol : (out.map tokR).length = out.length := List.length_map _
    by_cases hend : ∃ x, (lst s)[i + k]? = some x ∧ wB x = true
    · obtain ⟨x, hx, hwx⟩ := hend
      have hxd : ((lst s).drop i)[k]? = some x := by rw [List.getElem?_drop]; exact hx
      have hxl := (List.getElem?_eq_some_iff.1 hx).1
      have hKx := class_ok x.toNat
      have hcx := wB_iff.1 hwx
      refine g_run' T hC true 200 rfl ?_
      repeat' first
        | refine g_go T hC true 400 rfl rfl ?_
        | (exfalso; have h2 := of_decide_eq_false h; omega)
        | (exfalso; have h2 := of_decide_eq_true h; omega)
        | refine g_cond rfl (fun h => ?_) (fun h => ?_)
        | refine g_end T hC (by kernel_rfl) ?_
        | refine g_splitD (fun h => ?_) (fun h => ?_)
        | refine g_splitG rfl rfl rfl (fun h => ?_) (fun h => ?_)
        | refine g_splitP rfl rfl (fun h => ?_) (fun h => ?_)
        | refine g_idxS T hC rfl rfl rfl (Int.natCast_nonneg _) (lst_at hx) rfl rfl ?_
        | refine g_call hC (hKx) rfl rfl (LeSs.refl _) rfl rfl rfl ?_
      rw [wrapS (by omega)]
      exact g_round (k + 1) ⟨by omega, by rw [all_take hxd, hall, hwx]; rfl⟩ id (by omega) ⟨rfl, ⟨rfl, rfl, rfl, rfl, rfl, rfl, rfl, rfl, trivial⟩, ⟨rfl, rfl, rfl, trivial⟩, rfl, fun _ _ => rfl⟩
    · have hno : ∀ x, ((lst s).drop i)[k]? = some x → wB x = false := fun x hx => by
        rw [List.getElem?_drop] at hx
        cases hwx : wB x with
        | false => rfl
        | true => exact absurd ⟨x, hx, hwx⟩ hend
      obtain ⟨h0, htw, hlen⟩ := hwe hno
      have hend2 : s.size ≤ i + k ∨ ∃ x, (lst s)[i + k]? = some x ∧ ¬ 2 ≤ classS (x.toNat : Int) := by
        by_cases hz : s.size ≤ i + k
        · exact .inl hz
        · obtain ⟨x, hx⟩ := exists_at (l := lst s) (i := i + k) (by omega)
          refine .inr ⟨x, hx, fun e => ?_⟩
          have := hno x (by rw [List.getElem?_drop]; exact hx)
          rw [wB_iff.2 e] at this; cases this
      cases ht : clsT (((lst s).drop i).take k) with
      | none =>
        have hW2 := hW.2 ht
        have hbad := word_bad ((ln : Int), (i : Int) - bg + 1) out hc hbl h35 hw (by rw [htw]; exact ht)
        rw [hbad] at hL
        subst hL
        refine g_run' T hC true 200 rfl ?_
        rcases hend2 with hz | ⟨x, hx, hcx⟩
        · repeat' first
            | refine g_go T hC true 400 rfl rfl ?_
            | (exfalso; have h2 := of_decide_eq_false h; omega)
            | (exfalso; have h2 := of_decide_eq_true h; omega)
            | refine g_cond rfl (fun h => ?_) (fun h => ?_)
            | refine g_end T hC (by kernel_rfl) ?_
            | refine g_splitD (fun h => ?_) (fun h => ?_)
            | refine g_splitG rfl rfl rfl (fun h => ?_) (fun h => ?_)
            | refine g_splitP rfl rfl (fun h => ?_) (fun h => ?_)
            | refine g_outE ?_
            | (refine g_slMid hC rfl rfl rfl (by kernel_rfl) (Int.natCast_nonneg _) (by omega) (by omega) rfl rfl ?_)
            | refine g_call hC (hW2) rfl rfl (LeSs.refl _) rfl rfl rfl ?_
            | refine g_outR ?_
          exact g_fin ⟨.inl rfl, id, _, rfl, LeS.tup (.cons (LeS.one (.nil 5)) (.cons (.refl _) (.cons (.refl _) .nil))), trivial, rfl, rfl⟩
        · have hKx := class_ok x.toNat
          have hxl := (List.getElem?_eq_some_iff.1 hx).1
          repeat' first
            | refine g_go T hC true 400 rfl rfl ?_
            | (exfalso; have h2 := of_decide_eq_false h; omega)
            | (exfalso; have h2 := of_decide_eq_true h; omega)
            | refine g_cond rfl (fun h => ?_) (fun h => ?_)
            | refine g_end T hC (by kernel_rfl) ?_
            | refine g_splitD (fun h => ?_) (fun h => ?_)
            | refine g_splitG rfl rfl rfl (fun h => ?_) (fun h => ?_)
            | refine g_splitP rfl rfl (fun h => ?_) (fun h => ?_)
            | refine g_idxS T hC rfl rfl rfl (Int.natCast_nonneg _) (lst_at hx) rfl rfl ?_
            | refine g_call hC (hKx) rfl rfl (LeSs.refl _) rfl rfl rfl ?_
            | refine g_outE ?_
            | (refine g_slMid hC rfl rfl rfl (by kernel_rfl) (Int.natCast_nonneg _) (by omega) (by omega) rfl rfl ?_)
            | refine g_call hC (hW2) rfl rfl (LeSs.refl _) rfl rfl rfl ?_
            | refine g_outR ?_
          exact g_fin ⟨.inl rfl, id, _, rfl, LeS.tup (.cons (LeS.one (.nil 5)) (.cons (.refl _) (.cons (.refl _) .nil))), trivial, rfl, rfl⟩
      | some t =>
        have hW1 := hW.1 t ht
        have hgo := step_word ((ln : Int), (i : Int) - bg + 1) out hc hbl h35 hw (t := t) (by rw [htw]; exact ht)
        rw [hlen] at hgo
        rw [hgo] at hL
        have e : (i : Int) - bg + 1 + k = ((i + k : Nat) : Int) - bg + 1 := by omega
        simp only [e] at hL
        have happ : out.map tokR ++ [tokR (tokAt ((ln : Int), (i : Int) - bg + 1) t)] = (out ++ [tokAt ((ln : Int), (i : Int) - bg + 1) t]).map tokR := by rw [List.map_append]; rfl
        refine g_run' T hC true 200 rfl ?_
        rcases hend2 with hz | ⟨x, hx, hcx⟩
        · repeat' first
            | refine g_go T hC true 400 rfl rfl ?_
            | (exfalso; have h2 := of_decide_eq_false h; omega)
            | (exfalso; have h2 := of_decide_eq_true h; omega)
            | refine g_cond rfl (fun h => ?_) (fun h => ?_)
            | refine g_end T hC (by kernel_rfl) ?_
            | refine g_splitD (fun h => ?_) (fun h => ?_)
            | refine g_splitG rfl rfl rfl (fun h => ?_) (fun h => ?_)
            | refine g_splitP rfl rfl (fun h => ?_) (fun h => ?_)
            | refine g_outE ?_
            | (refine g_slMid hC rfl rfl rfl (by kernel_rfl) (Int.natCast_nonneg _) (by omega) (by omega) rfl rfl ?_)
            | refine g_call hC (hW1) rfl rfl (LeSs.refl _) rfl rfl rfl ?_
            | refine g_lit T hC rfl rfl rfl rfl rfl rfl rfl rfl rfl ?_
            | (refine g_append T 102 hC (rows := out.map tokR) (rows2 := [tokR (tokAt ((ln : Int), (i : Int) - bg + 1) t)]) (rows3 := (out ++ [tokAt ((ln : Int), (i : Int) - bg + 1) t]).map tokR) (bytes := 48) rfl rfl rfl rfl (SrcS.sl (T.es_ok _ _ rfl)) happ rfl rfl rfl (by kernel_rfl) (by rw [hol, List.length_singleton]; omega) (by rw [hol, List.length_singleton]; omega) rfl rfl rfl ?_)
            | refine g_outR ?_
          exact g_round (i + k, ln, bg, out ++ [tokAt ((ln : Int), (i : Int) - bg + 1) t]) ⟨by simp only; omega, by simp only; omega, by simp only; omega, by simp only [List.length_append, List.length_singleton]; omega, hL⟩ (mvU 101 102) (by simp only; omega) ⟨rfl, ⟨rfl, rfl, rfl, rfl, rfl, rfl, trivial⟩, ⟨rfl, rfl, trivial⟩, rfl, fun i hi => mvU_low (by omega) hi⟩
        · have hKx := class_ok x.toNat
          have hxl := (List.getElem?_eq_some_iff.1 hx).1
          repeat' first
            | refine g_go T hC true 400 rfl rfl ?_
            | (exfalso; have h2 := of_decide_eq_false h; omega)
            | (exfalso; have h2 := of_decide_eq_true h; omega)
            | refine g_cond rfl (fun h => ?_) (fun h => ?_)
            | refine g_end T hC (by kernel_rfl) ?_
            | refine g_splitD (fun h => ?_) (fun h => ?_)
            | refine g_splitG rfl rfl rfl (fun h => ?_) (fun h => ?_)
            | refine g_splitP rfl rfl (fun h => ?_) (fun h => ?_)
            | refine g_idxS T hC rfl rfl rfl (Int.natCast_nonneg _) (lst_at hx) rfl rfl ?_
            | refine g_call hC (hKx) rfl rfl (LeSs.refl _) rfl rfl rfl ?_
            | refine g_outE ?_
            | (refine g_slMid hC rfl rfl rfl (by kernel_rfl) (Int.natCast_nonneg _) (by omega) (by omega) rfl rfl ?_)
            | refine g_call hC (hW1) rfl rfl (LeSs.refl _) rfl rfl rfl ?_
            | refine g_lit T hC rfl rfl rfl rfl rfl rfl rfl rfl rfl ?_
            | (refine g_append T 102 hC (rows := out.map tokR) (rows2 := [tokR (tokAt ((ln : Int), (i : Int) - bg + 1) t)]) (rows3 := (out ++ [tokAt ((ln : Int), (i : Int) - bg + 1) t]).map tokR) (bytes := 48) rfl rfl rfl rfl (SrcS.sl (T.es_ok _ _ rfl)) happ rfl rfl rfl (by kernel_rfl) (by rw [hol, List.length_singleton]; omega) (by rw [hol, List.length_singleton]; omega) rfl rfl rfl ?_)
            | refine g_outR ?_
          exact g_round (i + k, ln, bg, out ++ [tokAt ((ln : Int), (i : Int) - bg + 1) t]) ⟨by simp only; omega, by simp only; omega, by simp only; omega, by simp only [List.length_append, List.length_singleton]; omega, hL⟩ (mvU 101 102) (by simp only; omega) ⟨rfl, ⟨rfl, rfl, rfl, rfl, rfl, rfl, trivial⟩, ⟨rfl, rfl, trivial⟩, rfl, fun i hi => mvU_low (by omega) hi⟩
  | false =>
    rw [hw] at hwd
    have hcw : ¬ 2 ≤ cv := fun e => by have := hwd.2 e; cases this
    repeat' first
      | refine g_go T hC true 400 rfl rfl ?_
      | (exfalso; have h2 := of_decide_eq_false h; omega)
      | (exfalso; have h2 := of_decide_eq_true h; omega)
      | refine g_cond rfl (fun h => ?_) (fun h => ?_)
      | refine g_end T hC (by kernel_rfl) ?_
      | refine g_splitD (fun h => ?_) (fun h => ?_)
      | refine g_splitG rfl rfl rfl (fun h => ?_) (fun h => ?_)
      | refine g_splitP rfl rfl (fun h => ?_) (fun h => ?_)
      | refine g_idxS T hC rfl rfl rfl (Int.natCast_nonneg _) (lst_at hc) rfl rfl ?_
      | refine g_call hC (hK) rfl rfl (LeSs.refl _) rfl rfl rfl ?_
    dsimp only
    rw [w1, w2]
    have hsx : lst (s.extract ((i : Nat) : Int).toNat s.size) = (lst s).drop i := by rw [Int.toNat_natCast, extract_str, lst_str, List.take_of_length_le (by rw [List.length_drop]; omega)]
    have hS := symbol_ok (s.extract ((i : Nat) : Int).toNat s.size)
    rw [hsx] at hS
    have hol : (out.map tokR).length = out.length := List.length_map _
    cases hy : symL ((lst s).drop i) with
    | none =>
      rw [hy] at hS
      have hbad := sym_bad ((ln : Int), (i : Int) - bg + 1) out hc hbl h35 hw hy
      rw [hbad] at hL
      subst hL
      repeat' first
        | refine g_go T hC true 400 rfl rfl ?_
        | (exfalso; exact absurd h (by decide))
        | refine g_cond rfl (fun h => ?_) (fun h => ?_)
        | refine g_end T hC (by kernel_rfl) ?_
        | refine g_splitD (fun h => ?_) (fun h => ?_)
        | refine g_splitG rfl rfl rfl (fun h => ?_) (fun h => ?_)
        | refine g_splitP rfl rfl (fun h => ?_) (fun h => ?_)
        | (refine g_slFrom hC rfl rfl (by kernel_rfl) (Int.natCast_nonneg _) (by omega) rfl rfl ?_)
        | refine g_call hC (hS) rfl rfl (LeSs.refl _) rfl rfl rfl ?_
        | refine g_outR ?_
      exact g_fin ⟨.inl rfl, id, _, rfl, LeS.tup (.cons (LeS.one (.nil 5)) (.cons (.refl _) (.cons (.refl _) .nil))), trivial, rfl, rfl⟩
    | some y =>
      rw [hy] at hS
      have hys := sym_of hy
      have hyz := syms_size y hys.1
      have hyl := isPrefix_len hys.2
      rw [lst_len, List.length_drop] at hyl
      have hyne : y ≠ ⟨#[]⟩ := fun e => by subst e; exact absurd hyz.1 (by decide)
      have hgo := step_sym ((ln : Int), (i : Int) - bg + 1) out hc hbl h35 hw hy
      rw [hgo] at hL
      have e : (i : Int) - bg + 1 + (y.size : Int) = ((i + y.size : Nat) : Int) - bg + 1 := by omega
      simp only [e] at hL
      have happ : out.map tokR ++ [tokR (tokAt ((ln : Int), (i : Int) - bg + 1) (4, y, 0))] = (out ++ [tokAt ((ln : Int), (i : Int) - bg + 1) (4, y, 0)]).map tokR := by rw [List.map_append]; rfl
      repeat' first
        | refine g_go T hC true 400 rfl rfl ?_
        | (exfalso; exact hyne (of_decide_eq_true h))
        | refine g_cond rfl (fun h => ?_) (fun h => ?_)
        | refine g_end T hC (by kernel_rfl) ?_
        | refine g_splitD (fun h => ?_) (fun h => ?_)
        | refine g_splitG rfl rfl rfl (fun h => ?_) (fun h => ?_)
        | refine g_splitP rfl rfl (fun h => ?_) (fun h => ?_)
        | (refine g_slFrom hC rfl rfl (by kernel_rfl) (Int.natCast_nonneg _) (by omega) rfl rfl ?_)
        | refine g_call hC (hS) rfl rfl (LeSs.refl _) rfl rfl rfl ?_
        | refine g_lit T hC rfl rfl rfl rfl rfl rfl rfl rfl rfl ?_
        | (refine g_append T 102 hC (rows := out.map tokR) (rows2 := [tokR (tokAt ((ln : Int), (i : Int) - bg + 1) (4, y, 0))]) (rows3 := (out ++ [tokAt ((ln : Int), (i : Int) - bg + 1) (4, y, 0)]).map tokR) (bytes := 48) rfl rfl rfl rfl (SrcS.sl (T.es_ok _ _ rfl)) happ rfl rfl rfl (by kernel_rfl) (by rw [hol, List.length_singleton]; omega) (by rw [hol, List.length_singleton]; omega) rfl rfl rfl ?_)
        | refine g_outR ?_
      show Goal _ _ _ _ _ ((8, Kk IntKind.i64 (IntKind.i64.wrap ((i : Int) + (y.size : Int)))) :: _) _ _
      rw [show IntKind.i64.wrap ((i : Int) + (y.size : Int)) = ((i + y.size : Nat) : Int) from by rw [wrap64 (by omega)]; omega]
      exact g_round (i + y.size, ln, bg, out ++ [tokAt ((ln : Int), (i : Int) - bg + 1) (4, y, 0)]) ⟨by simp only; omega, by simp only; omega, by simp only; omega, by simp only [List.length_append, List.length_singleton]; omega, hL⟩ (mvU 101 102) (by simp only; omega) ⟨rfl, ⟨rfl, rfl, rfl, rfl, rfl, rfl, trivial⟩, ⟨rfl, rfl, trivial⟩, rfl, fun i hi => mvU_low (by omega) hi⟩
end Hw.L
