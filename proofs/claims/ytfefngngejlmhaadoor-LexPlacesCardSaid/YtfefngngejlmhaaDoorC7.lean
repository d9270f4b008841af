/- The engine and the contracts. -/
import Derived.Test.YtfefngngejlmhaaDoorC6
import Derived.Test.YtfefngngejlmhaaDoorC3
set_option linter.unusedVariables false
set_option linter.unusedSimpArgs false
namespace Hw.L
open Go Go.Proofs Go.Shelf Hw.M

/-! the reference's Tokens: the walk -/
theorem blB_any {c : UInt8} : blB c = true ↔ (c = 32 ∨ c = 9 ∨ c = 13) ∨ c = 10 := by
  have e : ∀ n : Nat, n < 256 → decide (classS (n : Int) = 1) = (decide (n = 32) || decide (n = 9) || decide (n = 13) || decide (n = 10)) := by decide +kernel
  have h := e c.toNat c.toNat_lt
  unfold blB
  rw [h]
  simp only [← UInt8.toNat_inj, Bool.or_eq_true, decide_eq_true_eq]
  have e1 : (32 : UInt8).toNat = 32 := rfl
  have e2 : (9 : UInt8).toNat = 9 := rfl
  have e3 : (13 : UInt8).toNat = 13 := rfl
  have e4 : (10 : UInt8).toNat = 10 := rfl
  omega
theorem nl_of {l : By} {i k : Nat} (hlen : i + k ≤ l.length) (h : ∀ b ∈ (l.drop i).take k, b ≠ 10) : ∀ j, j < k → ∃ x, l[i + j]? = some x ∧ x ≠ 10 := fun j hj => by
  obtain ⟨x, hx⟩ := exists_at (l := l) (i := i + j) (by omega)
  refine ⟨x, hx, h x (List.mem_of_getElem? (i := j) ?_)⟩
  rw [List.getElem?_take, if_pos hj, List.getElem?_drop]; exact hx
theorem mv_no {ln q : Int} {x : UInt8} (h : x ≠ 10) : mv (ln, q) x = (ln, q + 1) := by unfold mv; rw [if_neg h]
theorem rTokens_ok (s : Str) (hs : s.size ≤ 1000000) : FnOK Tryd.prog 10 [Sr s] [] (.tup [pS (toksP (tokensS s).1), aggS [ki (tokensS s).2.1.1, ki (tokensS s).2.1.2], I (tokensS s).2.2]) [] := by
  have hl := lst_len s
  by_cases hbig : 65536 < s.size
  · have hR : tokensS s = ([], (0, 0), 4) := if_pos hbig
    rw [hR]
    refine fn_ok T Tryd.func10 (by kernel_rfl) rfl rfl rfl rfl fun C hC => ?_
    repeat' first
      | refine g_go T hC true 400 rfl rfl ?_
      | refine g_cond rfl (fun h => ?_) (fun h => ?_)
      | refine g_end T hC (by kernel_rfl) ?_
      | refine g_splitD (fun h => ?_) (fun h => ?_)
      | refine g_splitG rfl rfl rfl (fun h => ?_) (fun h => ?_)
      | refine g_splitP rfl rfl (fun h => ?_) (fun h => ?_)
    all_goals first
      | exact g_fin ⟨.inl rfl, id, _, rfl, LeS.tup (.cons (LeS.one (.nil 5)) (.cons (.refl _) (.cons (.refl _) .nil))), trivial, rfl, rfl⟩
      | (exfalso; simp only [decide_eq_false_iff_not] at h; omega)
  have hR : tokensS s = lxx ((lst s).drop 0) (1, 1) [] := if_neg hbig
  generalize tokensS s = R at hR
  refine fn_ok T Tryd.func10 (by kernel_rfl) rfl rfl rfl rfl fun C hC => ?_
  repeat' first
    | refine g_go T hC true 400 rfl rfl ?_
    | refine g_cond rfl (fun h => ?_) (fun h => ?_)
    | refine g_end T hC (by kernel_rfl) ?_
    | refine g_splitD (fun h => ?_) (fun h => ?_)
    | refine g_splitG rfl rfl rfl (fun h => ?_) (fun h => ?_)
    | refine g_splitP rfl rfl (fun h => ?_) (fun h => ?_)
  · exfalso; have := of_decide_eq_true h; omega
  refine g_adopt hC rfl 101 5 rfl [(5, .one (.ar 101))] ⟨⟨_, rfl, AdS.nil⟩, trivial⟩ [] trivial ?_
  refine g_loop (fun q : Nat × (Int × Int) × List Tok => q.1 ≤ s.size ∧ (0 ≤ q.2.1.1 ∧ q.2.1.1 ≤ q.1 + 1) ∧ (0 ≤ q.2.1.2 ∧ q.2.1.2 ≤ q.1 + 1) ∧ q.2.2.length ≤ q.1 ∧ R = lxx ((lst s).drop q.1) q.2.1 q.2.2) (fun q => ([(0, Sr s), (3, .one (.bx 1003 0)), (5, .one (.ar 101)), (6, .one (.bx 1006 0)), (7, I q.1)], [(1003, some (Res.box [.p (ki 0), .p (ki 0)])), (1006, some (Res.box [.p (ki q.2.1.1), .p (ki q.2.1.2)])), (101, some (Res.arr 5 (q.2.2.map tokR)))])) (fun q => s.size - q.1) hC
    (0, (1, 1), []) ⟨Nat.zero_le _, ⟨by decide, by decide⟩, ⟨by decide, by decide⟩, Nat.zero_le _, hR⟩ id ⟨rfl, ⟨rfl, rfl, rfl, rfl, rfl, trivial⟩, ⟨rfl, rfl, rfl, trivial⟩, rfl, fun _ _ => rfl⟩ ?_
  rintro ⟨i, ⟨ln, cl⟩, out⟩ ⟨hi, hln, hcl, hout, hL⟩
  simp only at hi hln hcl hout hL
  have hol : (out.map tokR).length = out.length := List.length_map _
  refine g_run' T hC true 200 rfl ?_
  refine g_cond rfl (fun hh => ?_) (fun hh => ?_)
  rotate_left
  · have hge : i = s.size := by have := of_decide_eq_false hh; omega
    clear hh
    rw [List.drop_of_length_le (by omega), lxx_nil] at hL
    subst hL
    have happ : out.map tokR ++ [tokR ⟨5, (⟨#[]⟩ : ByteArray), 0, ln, cl⟩] = (out ++ [(⟨5, (⟨#[]⟩ : ByteArray), 0, ln, cl⟩ : Tok)]).map tokR := by rw [List.map_append]; rfl
    repeat' first
      | refine g_go T hC true 400 rfl rfl ?_
      | refine g_cond rfl (fun h => ?_) (fun h => ?_)
      | refine g_end T hC (by kernel_rfl) ?_
      | refine g_splitD (fun h => ?_) (fun h => ?_)
      | refine g_splitG rfl rfl rfl (fun h => ?_) (fun h => ?_)
      | refine g_splitP rfl rfl (fun h => ?_) (fun h => ?_)
      | refine g_outE ?_
      | refine g_lit T hC rfl rfl rfl rfl rfl rfl rfl rfl rfl ?_
      | (refine g_append T 102 hC (rows := out.map tokR) (rows2 := [tokR ((⟨5, (⟨#[]⟩ : ByteArray), 0, ln, cl⟩ : Tok))]) (rows3 := (out ++ [(⟨5, (⟨#[]⟩ : ByteArray), 0, ln, cl⟩ : Tok)]).map tokR) (bytes := 48) rfl rfl rfl rfl (SrcS.sl (T.es_ok _ _ rfl)) happ rfl rfl rfl (by kernel_rfl) (by rw [hol, List.length_singleton]; omega) (by rw [hol, List.length_singleton]; omega) rfl rfl rfl ?_)
    refine g_freeze rfl (id := 102) (e := 5) (rows := (out ++ [(⟨5, (⟨#[]⟩ : ByteArray), 0, ln, cl⟩ : Tok)]).map tokR) rfl [(2, pS (toksP (out ++ [(⟨5, (⟨#[]⟩ : ByteArray), 0, ln, cl⟩ : Tok)])))] ⟨⟨_, rfl, FrS.ar⟩, trivial⟩ [] trivial ?_
    exact g_fin ⟨.inl rfl, id, _, rfl, .refl _, trivial, rfl, rfl⟩
  have hlt : i < (lst s).length := by have := of_decide_eq_true hh; omega
  clear hh
  obtain ⟨c, hc⟩ := exists_at hlt
  cases hbl : blB c with
  | true =>
    rw [step_blank _ _ hc hbl] at hL
    have hM := move_ok (ln, cl) c ⟨hln.1, by simp only; omega⟩ ⟨hcl.1, by simp only; omega⟩
    have hb1 : (mv (ln, cl) c).1 ≤ ln + 1 ∧ 0 ≤ (mv (ln, cl) c).1 := by unfold mv; split <;> simp only <;> omega
    have hb2 : (mv (ln, cl) c).2 ≤ (i : Int) + 2 ∧ 0 ≤ (mv (ln, cl) c).2 := by unfold mv; split <;> simp only <;> omega
    generalize mv (ln, cl) c = p' at hM hL hb1 hb2
    have h4 := blB_any.1 hbl
    clear hbl
    rcases h4 with (rfl | rfl | rfl) | rfl
    all_goals
      repeat' first
        | refine g_go T hC true 400 rfl rfl ?_
        | (exfalso; revert h; decide)
        | refine g_cond rfl (fun h => ?_) (fun h => ?_)
        | refine g_end T hC (by kernel_rfl) ?_
        | refine g_splitD (fun h => ?_) (fun h => ?_)
        | refine g_splitG rfl rfl rfl (fun h => ?_) (fun h => ?_)
        | refine g_splitP rfl rfl (fun h => ?_) (fun h => ?_)
        | refine g_idxS T hC rfl rfl rfl (Int.natCast_nonneg _) (lst_at hc) rfl rfl ?_
        | refine g_call hC (hM) rfl rfl (LeSs.refl _) rfl rfl rfl ?_
        | refine g_outR ?_
        | refine g_outE ?_
      dsimp only
      rw [wrapS (by omega)]
      exact g_round (i + 1, p', out) ⟨by simp only; omega, ⟨by simp only; omega, by simp only; omega⟩, ⟨by simp only; omega, by simp only; omega⟩, by simp only; omega, hL⟩ id (by simp only; omega) ⟨rfl, ⟨rfl, rfl, rfl, rfl, rfl, trivial⟩, ⟨rfl, rfl, rfl, trivial⟩, rfl, fun _ _ => rfl⟩
  | false =>
    have hn4 : ¬ ((c = 32 ∨ c = 9 ∨ c = 13) ∨ c = 10) := fun e => by rw [blB_any.2 e] at hbl; cases hbl
    have num2 : ∀ c d : UInt8, (c.toNat : Int) = (d.toNat : Int) → c = d := fun c d e => UInt8.toNat_inj.1 (by omega)
    have num : ∀ d : UInt8, (c.toNat : Int) = (d.toNat : Int) → c = d := fun d e => UInt8.toNat_inj.1 (by omega)
    have n1 : ¬ (c.toNat : Int) = 32 := fun e => hn4 (.inl (.inl (num 32 e)))
    have n2 : ¬ (c.toNat : Int) = 9 := fun e => hn4 (.inl (.inr (.inl (num 9 e))))
    have n3 : ¬ (c.toNat : Int) = 13 := fun e => hn4 (.inl (.inr (.inr (num 13 e))))
    have n4 : ¬ (c.toNat : Int) = 10 := fun e => hn4 (.inr (num 10 e))
    have w3 : ∀ k : Nat, i + k ≤ s.size → IntKind.i64.wrap ((i : Int) + (k : Int)) = ((i + k : Nat) : Int) := fun k hk => by rw [wrap64 (by omega)]; omega
    have hcw := word_ok c.toNat
    by_cases h35 : c = 35
    · have h35c : (c.toNat : Int) = 35 := by rw [h35]; rfl
      repeat' first
        | refine g_go T hC true 400 rfl rfl ?_
        | (exfalso; have h2 := of_decide_eq_false h; omega)
        | (exfalso; have h2 := of_decide_eq_true h; omega)
        | refine g_cond rfl (fun h => ?_) (fun h => ?_)
        | refine g_end T hC (by kernel_rfl) ?_
        | refine g_splitD (fun h => ?_) (fun h => ?_)
        | refine g_splitG rfl rfl rfl (fun h => ?_) (fun h => ?_)
        | refine g_splitP rfl rfl (fun h => ?_) (fun h => ?_)
        | refine g_idxS T hC rfl rfl rfl (Int.natCast_nonneg _) (lst_at hc) rfl rfl ?_
        | refine g_outR ?_
      refine g_loop (fun z : Nat × Int => i + z.1 ≤ s.size ∧ (((lst s).drop i).take z.1).all (fun b => decide (b ≠ 10)) = true ∧ z.2 = cl + z.1) (fun z => ([(0, Sr s), (3, .one (.bx 1003 0)), (5, .one (.ar 101)), (6, .one (.bx 1006 0)), (7, I (i + z.1 : Nat))], [(1003, some (Res.box [.p (ki 0), .p (ki 0)])), (1006, some (Res.box [.p (ki ln), .p (ki z.2)])), (101, some (Res.arr 5 (out.map tokR)))])) (fun z => s.size - i - z.1) hC
        (0, cl) ⟨by simp only; omega, by simp, by simp⟩ id ⟨rfl, ⟨rfl, rfl, rfl, rfl, rfl, trivial⟩, ⟨rfl, rfl, rfl, trivial⟩, rfl, fun _ _ => rfl⟩ ?_
      rintro ⟨k, q⟩ ⟨hk, hall, hq⟩
      simp only at hk hall hq
      have hcom : (∀ x, ((lst s).drop i)[k]? = some x → x = 10) → 0 < k ∧ R = lxx ((lst s).drop (i + k)) (ln, q) out := fun hx => by
        have htw := tw_end _ k hall (fun x h => by simpa using hx x h)
        refine ⟨?_, ?_⟩
        · rcases Nat.eq_zero_or_pos k with rfl | h
          · have := hx 35 (by rw [List.getElem?_drop, ← h35]; exact hc)
            cases this
          · exact h
        · rw [h35] at hc
          rw [hL, step_com _ _ hc (k := k) (by rw [htw, List.length_take, List.length_drop]; omega), hq]
      refine g_run' T hC true 200 rfl ?_
      by_cases hj : i + k < s.size
      · obtain ⟨x, hx⟩ := exists_at (l := lst s) (i := i + k) (by omega)
        have hxd : ((lst s).drop i)[k]? = some x := by rw [List.getElem?_drop]; exact hx
        by_cases hx10 : x = 10
        · obtain ⟨h0, hL'⟩ := hcom fun y hy => by
            rw [hxd] at hy
            obtain rfl := Option.some.inj hy
            exact hx10
          subst hx10
          repeat' first
            | refine g_go T hC true 400 rfl rfl ?_
            | (exfalso; revert h; decide)
            | (exfalso; have h2 := of_decide_eq_false h; dsimp only at h2; omega)
            | refine g_cond rfl (fun h => ?_) (fun h => ?_)
            | refine g_end T hC (by kernel_rfl) ?_
            | refine g_splitD (fun h => ?_) (fun h => ?_)
            | refine g_splitG rfl rfl rfl (fun h => ?_) (fun h => ?_)
            | refine g_splitP rfl rfl (fun h => ?_) (fun h => ?_)
            | refine g_idxS T hC rfl rfl rfl (Int.natCast_nonneg _) (lst_at hx) rfl rfl ?_
            | refine g_outE ?_
            | refine g_outR ?_
          exact g_round (i + k, (ln, q), out) ⟨by simp only; omega, ⟨by simp only; omega, by simp only; omega⟩, ⟨by simp only; omega, by simp only; omega⟩, by simp only; omega, hL'⟩ id (by simp only; omega) ⟨rfl, ⟨rfl, rfl, rfl, rfl, rfl, trivial⟩, ⟨rfl, rfl, rfl, trivial⟩, rfl, fun _ _ => rfl⟩
        · have hM := move_ok (ln, q) x ⟨hln.1, by simp only; omega⟩ ⟨by simp only; omega, by simp only; omega⟩
          rw [mv_no hx10] at hM
          have hx10c : ¬ (x.toNat : Int) = 10 := fun e => hx10 (num2 x 10 e)
          repeat' first
            | refine g_go T hC true 400 rfl rfl ?_
            | (exfalso; have h2 := h; simp at h2; omega)
            | (exfalso; have h2 := of_decide_eq_false h; dsimp only at h2; omega)
            | refine g_cond rfl (fun h => ?_) (fun h => ?_)
            | refine g_end T hC (by kernel_rfl) ?_
            | refine g_splitD (fun h => ?_) (fun h => ?_)
            | refine g_splitG rfl rfl rfl (fun h => ?_) (fun h => ?_)
            | refine g_splitP rfl rfl (fun h => ?_) (fun h => ?_)
            | refine g_idxS T hC rfl rfl rfl (Int.natCast_nonneg _) (lst_at hx) rfl rfl ?_
            | refine g_call hC (hM) rfl rfl (LeSs.refl _) rfl rfl rfl ?_
          dsimp only
          rw [wrapS (by omega)]
          exact g_round (k + 1, q + 1) ⟨by simp only; omega, by simp only; rw [all_take hxd, hall]; simpa using hx10, by simp only; omega⟩ id (by simp only; omega) ⟨rfl, ⟨rfl, rfl, rfl, rfl, rfl, trivial⟩, ⟨rfl, rfl, rfl, trivial⟩, rfl, fun _ _ => rfl⟩
      · obtain ⟨h0, hL'⟩ := hcom fun y hy => by
          rw [List.getElem?_drop, List.getElem?_eq_none (by omega)] at hy
          cases hy
        repeat' first
          | refine g_go T hC true 400 rfl rfl ?_
          | (exfalso; have h2 := of_decide_eq_true h; dsimp only at h2; omega)
          | refine g_cond rfl (fun h => ?_) (fun h => ?_)
          | refine g_end T hC (by kernel_rfl) ?_
          | refine g_splitD (fun h => ?_) (fun h => ?_)
          | refine g_splitG rfl rfl rfl (fun h => ?_) (fun h => ?_)
          | refine g_splitP rfl rfl (fun h => ?_) (fun h => ?_)
          | refine g_outE ?_
          | refine g_outR ?_
        exact g_round (i + k, (ln, q), out) ⟨by simp only; omega, ⟨by simp only; omega, by simp only; omega⟩, ⟨by simp only; omega, by simp only; omega⟩, by simp only; omega, hL'⟩ id (by simp only; omega) ⟨rfl, ⟨rfl, rfl, rfl, rfl, rfl, trivial⟩, ⟨rfl, rfl, rfl, trivial⟩, rfl, fun _ _ => rfl⟩
    have h35c : ¬ (c.toNat : Int) = 35 := fun e => h35 (num 35 e)
    cases hw : wB c with
    | true =>
      rw [show isWord (c.toNat : Int) = true from hw] at hcw
      repeat' first
        | refine g_go T hC true 400 rfl rfl ?_
        | (exfalso; simp at h; done)
        | (exfalso; have h2 := of_decide_eq_false h; omega)
        | (exfalso; have h2 := of_decide_eq_true h; omega)
        | refine g_cond rfl (fun h => ?_) (fun h => ?_)
        | refine g_end T hC (by kernel_rfl) ?_
        | refine g_splitD (fun h => ?_) (fun h => ?_)
        | refine g_splitG rfl rfl rfl (fun h => ?_) (fun h => ?_)
        | refine g_splitP rfl rfl (fun h => ?_) (fun h => ?_)
        | refine g_idxS T hC rfl rfl rfl (Int.natCast_nonneg _) (lst_at hc) rfl rfl ?_
        | refine g_call hC (hcw) rfl rfl (LeSs.refl _) rfl rfl rfl ?_
      dsimp only
      refine g_loop (fun k : Nat => i + k ≤ s.size ∧ (((lst s).drop i).take k).all wB = true) (fun k => ([(0, Sr s), (3, .one (.bx 1003 0)), (5, .one (.ar 101)), (6, .one (.bx 1006 0)), (7, I i), (9, I k)], [(1003, some (Res.box [.p (ki 0), .p (ki 0)])), (1006, some (Res.box [.p (ki ln), .p (ki (cl))])), (101, some (Res.arr 5 (out.map tokR)))])) (fun k => s.size - i - k) hC
        0 ⟨by omega, by simp⟩ id ⟨rfl, ⟨rfl, rfl, rfl, rfl, rfl, rfl, trivial⟩, ⟨rfl, rfl, rfl, trivial⟩, rfl, fun _ _ => rfl⟩ ?_
      rintro k ⟨hk, hall⟩
      have wk := w3 k hk
      have hnn : 0 ≤ IntKind.i64.wrap ((i : Int) + (k : Int)) := by rw [wk]; exact Int.natCast_nonneg _
      have hex : lst (s.extract ((i : Nat) : Int).toNat (IntKind.i64.wrap ((i : Int) + (k : Int))).toNat) = ((lst s).drop i).take k := by rw [wk, Int.toNat_natCast, Int.toNat_natCast, lst_extract, show i + k - i = k by omega]
      have hW := classify_ok (s.extract ((i : Nat) : Int).toNat (IntKind.i64.wrap ((i : Int) + (k : Int))).toNat) ln cl (by rw [← lst_len, hex, List.length_take]; omega)
      rw [hex] at hW
      by_cases hend : ∃ x, (lst s)[i + k]? = some x ∧ wB x = true
      · obtain ⟨x, hx, hwx⟩ := hend
        have hxd : ((lst s).drop i)[k]? = some x := by rw [List.getElem?_drop]; exact hx
        have hxl := (List.getElem?_eq_some_iff.1 hx).1
        have hKx := word_ok x.toNat
        rw [show isWord (x.toNat : Int) = true from hwx] at hKx
        have hx' : s[(IntKind.i64.wrap ((i : Int) + (k : Int))).toNat]? = some x := by rw [wk]; exact lst_at hx
        refine g_run' T hC true 200 rfl ?_
        repeat' first
          | refine g_go T hC true 400 rfl rfl ?_
          | (exfalso; simp at h; done)
          | (exfalso; have h2 := of_decide_eq_false h; omega)
          | (exfalso; have h2 := of_decide_eq_true h; omega)
          | refine g_cond rfl (fun h => ?_) (fun h => ?_)
          | refine g_end T hC (by kernel_rfl) ?_
          | refine g_splitD (fun h => ?_) (fun h => ?_)
          | refine g_splitG rfl rfl rfl (fun h => ?_) (fun h => ?_)
          | refine g_splitP rfl rfl (fun h => ?_) (fun h => ?_)
          | refine g_idxS T hC rfl rfl rfl hnn hx' rfl rfl ?_
          | refine g_call hC (hKx) rfl rfl (LeSs.refl _) rfl rfl rfl ?_
        rw [wrapS (by omega)]
        exact g_round (k + 1) ⟨by omega, by rw [all_take hxd, hall, hwx]; rfl⟩ id (by omega) ⟨rfl, ⟨rfl, rfl, rfl, rfl, rfl, rfl, trivial⟩, ⟨rfl, rfl, rfl, trivial⟩, rfl, fun _ _ => rfl⟩
      · have hno : ∀ x, (lst s)[i + k]? = some x → wB x = false := fun x hx => by
          cases hwx : wB x with
          | false => rfl
          | true => exact absurd ⟨x, hx, hwx⟩ hend
        have htw := tw_end _ k hall (fun x hx => hno x (by rw [List.getElem?_drop] at hx; exact hx))
        have hlen : (((lst s).drop i).takeWhile wB).length = k := by rw [htw, List.length_take, List.length_drop]; omega
        have h0 : 0 < k := by
          rcases Nat.eq_zero_or_pos k with h | h
          · have := hno c (by rw [h]; exact hc)
            rw [hw] at this; cases this
          · exact h
        have hend2 : s.size ≤ i + k ∨ ∃ x, (lst s)[i + k]? = some x ∧ wB x = false := by
          by_cases hz : s.size ≤ i + k
          · exact .inl hz
          · obtain ⟨x, hx⟩ := exists_at (l := lst s) (i := i + k) (by omega)
            exact .inr ⟨x, hx, hno x hx⟩
        have hnl := nl_of (l := lst s) (i := i) (k := k) (by omega) (fun b hb e => by
          have := List.all_eq_true.1 hall b hb
          subst e
          exact absurd this (by decide))
        clear hend hno
        cases ht : clsT (((lst s).drop i).take k) with
        | none =>
          have hW2 := hW.2 ht
          have hbad := word_bad (ln, cl) out hc hbl h35 hw (by rw [htw]; exact ht)
          rw [hbad] at hL
          subst hL
          refine g_run' T hC true 200 rfl ?_
          rcases hend2 with hz | ⟨x, hx, hwx⟩
          · repeat' first
              | refine g_go T hC true 400 rfl rfl ?_
              | (exfalso; have h2 := of_decide_eq_false h; omega)
              | (exfalso; have h2 := of_decide_eq_true h; omega)
              | refine g_cond rfl (fun h => ?_) (fun h => ?_)
              | refine g_end T hC (by kernel_rfl) ?_
              | refine g_splitD (fun h => ?_) (fun h => ?_)
              | refine g_splitG rfl rfl rfl (fun h => ?_) (fun h => ?_)
              | refine g_splitP rfl rfl (fun h => ?_) (fun h => ?_)
              | refine g_outE ?_
              | (refine g_slMid hC rfl rfl rfl (by kernel_rfl) (Int.natCast_nonneg _) (by omega) (by omega) rfl rfl ?_)
              | refine g_call hC (hW2) rfl rfl (LeSs.refl _) rfl rfl rfl ?_
              | refine g_outR ?_
            exact g_fin ⟨.inl rfl, id, _, rfl, LeS.tup (.cons (LeS.one (.nil 5)) (.cons (.refl _) (.cons (.refl _) .nil))), trivial, rfl, rfl⟩
          · have hKx := word_ok x.toNat
            rw [show isWord (x.toNat : Int) = false from hwx] at hKx
            have hxl := (List.getElem?_eq_some_iff.1 hx).1
            have hx' : s[(IntKind.i64.wrap ((i : Int) + (k : Int))).toNat]? = some x := by rw [wk]; exact lst_at hx
            repeat' first
              | refine g_go T hC true 400 rfl rfl ?_
              | (exfalso; simp at h; done)
              | (exfalso; have h2 := of_decide_eq_false h; omega)
              | (exfalso; have h2 := of_decide_eq_true h; omega)
              | refine g_cond rfl (fun h => ?_) (fun h => ?_)
              | refine g_end T hC (by kernel_rfl) ?_
              | refine g_splitD (fun h => ?_) (fun h => ?_)
              | refine g_splitG rfl rfl rfl (fun h => ?_) (fun h => ?_)
              | refine g_splitP rfl rfl (fun h => ?_) (fun h => ?_)
              | refine g_idxS T hC rfl rfl rfl hnn hx' rfl rfl ?_
              | refine g_call hC (hKx) rfl rfl (LeSs.refl _) rfl rfl rfl ?_
              | refine g_outE ?_
              | (refine g_slMid hC rfl rfl rfl (by kernel_rfl) (Int.natCast_nonneg _) (by omega) (by omega) rfl rfl ?_)
              | refine g_call hC (hW2) rfl rfl (LeSs.refl _) rfl rfl rfl ?_
              | refine g_outR ?_
            exact g_fin ⟨.inl rfl, id, _, rfl, LeS.tup (.cons (LeS.one (.nil 5)) (.cons (.refl _) (.cons (.refl _) .nil))), trivial, rfl, rfl⟩
        | some t =>
          have hW1 := hW.1 t ht
          have hgo := step_word (ln, cl) out hc hbl h35 hw (t := t) (by rw [htw]; exact ht)
          rw [hlen] at hgo
          rw [hgo] at hL
          have happ : out.map tokR ++ [tokR (tokAt (ln, cl) t)] = (out ++ [tokAt (ln, cl) t]).map tokR := by rw [List.map_append]; rfl
          refine g_run' T hC true 200 rfl ?_
          rcases hend2 with hz | ⟨x, hx, hwx⟩
          · repeat' first
              | refine g_go T hC true 400 rfl rfl ?_
              | (exfalso; have h2 := of_decide_eq_false h; omega)
              | (exfalso; have h2 := of_decide_eq_true h; omega)
              | refine g_cond rfl (fun h => ?_) (fun h => ?_)
              | refine g_end T hC (by kernel_rfl) ?_
              | refine g_splitD (fun h => ?_) (fun h => ?_)
              | refine g_splitG rfl rfl rfl (fun h => ?_) (fun h => ?_)
              | refine g_splitP rfl rfl (fun h => ?_) (fun h => ?_)
              | refine g_outE ?_
              | (refine g_slMid hC rfl rfl rfl (by kernel_rfl) (Int.natCast_nonneg _) (by omega) (by omega) rfl rfl ?_)
              | refine g_call hC (hW1) rfl rfl (LeSs.refl _) rfl rfl rfl ?_
              | refine g_lit T hC rfl rfl rfl rfl rfl rfl rfl rfl rfl ?_
              | (refine g_append T 102 hC (rows := out.map tokR) (rows2 := [tokR (tokAt (ln, cl) t)]) (rows3 := (out ++ [tokAt (ln, cl) t]).map tokR) (bytes := 48) rfl rfl rfl rfl (SrcS.sl (T.es_ok _ _ rfl)) happ rfl rfl rfl (by kernel_rfl) (by rw [hol, List.length_singleton]; omega) (by rw [hol, List.length_singleton]; omega) rfl rfl rfl ?_)
            refine g_loop (fun z : Nat × Int => z.1 ≤ k ∧ z.2 = cl + z.1) (fun z => ([(0, Sr s), (3, .one (.bx 1003 0)), (5, .one (.ar 102)), (6, .one (.bx 1006 0)), (7, I i), (9, I (k : Nat)), (13, I z.1)], [(1003, some (Res.box [.p (ki 0), .p (ki 0)])), (1006, some (Res.box [.p (ki ln), .p (ki (z.2))])), (102, some (Res.arr 5 ((out ++ [tokAt (ln, cl) t]).map tokR)))])) (fun z => k - z.1) hC
              (0, cl) ⟨by simp only; omega, by simp⟩ id ⟨rfl, ⟨rfl, rfl, rfl, rfl, rfl, rfl, rfl, trivial⟩, ⟨rfl, rfl, rfl, trivial⟩, rfl, fun _ _ => rfl⟩ ?_
            rintro ⟨j, q⟩ ⟨hj, hq⟩
            simp only at hj hq
            refine g_run' T hC true 200 rfl ?_
            refine g_cond rfl (fun hh => ?_) (fun hh => ?_)
            · have hjk : j < k := by have := of_decide_eq_true hh; simp only at this; omega
              clear hh
              obtain ⟨x, hx, hx10⟩ := hnl j hjk
              have w4 := w3 j (by omega)
              have hnn : 0 ≤ IntKind.i64.wrap ((i : Int) + (j : Int)) := by rw [w4]; exact Int.natCast_nonneg _
              have hx' : s[(IntKind.i64.wrap ((i : Int) + (j : Int))).toNat]? = some x := by rw [w4]; exact lst_at hx
              have hM := move_ok (ln, q) x ⟨hln.1, by simp only; omega⟩ ⟨by simp only; omega, by simp only; omega⟩
              rw [mv_no hx10] at hM
              repeat' first
                | refine g_go T hC true 400 rfl rfl ?_
                | refine g_cond rfl (fun h => ?_) (fun h => ?_)
                | refine g_end T hC (by kernel_rfl) ?_
                | refine g_splitD (fun h => ?_) (fun h => ?_)
                | refine g_splitG rfl rfl rfl (fun h => ?_) (fun h => ?_)
                | refine g_splitP rfl rfl (fun h => ?_) (fun h => ?_)
                | refine g_idxS T hC rfl rfl rfl hnn hx' rfl rfl ?_
                | refine g_call hC (hM) rfl rfl (LeSs.refl _) rfl rfl rfl ?_
              dsimp only
              rw [wrapS (by omega)]
              exact g_round (j + 1, q + 1) ⟨by simp only; omega, by simp only; omega⟩ id (by simp only; omega) ⟨rfl, ⟨rfl, rfl, rfl, rfl, rfl, rfl, rfl, trivial⟩, ⟨rfl, rfl, rfl, trivial⟩, rfl, fun _ _ => rfl⟩
            · have hjk : j = k := by have := of_decide_eq_false hh; simp only at this; omega
              clear hh
              subst hq
              subst hjk
              repeat' first
                | refine g_go T hC true 400 rfl rfl ?_
                | refine g_cond rfl (fun h => ?_) (fun h => ?_)
                | refine g_end T hC (by kernel_rfl) ?_
                | refine g_splitD (fun h => ?_) (fun h => ?_)
                | refine g_splitG rfl rfl rfl (fun h => ?_) (fun h => ?_)
                | refine g_splitP rfl rfl (fun h => ?_) (fun h => ?_)
                | refine g_outE ?_
                | refine g_outR ?_
              dsimp only
              rw [w3 _ (by omega)]
              exact g_round (i + j, (ln, cl + ((j : Nat) : Int)), out ++ [tokAt (ln, cl) t]) ⟨by simp only; omega, ⟨by simp only; omega, by simp only; omega⟩, ⟨by simp only; omega, by simp only; omega⟩, by simp only [List.length_append, List.length_singleton]; omega, hL⟩ (mvU 101 102) (by simp only; omega) ⟨rfl, ⟨rfl, rfl, rfl, rfl, rfl, trivial⟩, ⟨rfl, rfl, rfl, trivial⟩, rfl, fun i hi => mvU_low (by omega) hi⟩
          · have hKx := word_ok x.toNat
            rw [show isWord (x.toNat : Int) = false from hwx] at hKx
            have hxl := (List.getElem?_eq_some_iff.1 hx).1
            have hx' : s[(IntKind.i64.wrap ((i : Int) + (k : Int))).toNat]? = some x := by rw [wk]; exact lst_at hx
            repeat' first
              | refine g_go T hC true 400 rfl rfl ?_
              | (exfalso; simp at h; done)
              | (exfalso; have h2 := of_decide_eq_false h; omega)
              | (exfalso; have h2 := of_decide_eq_true h; omega)
              | refine g_cond rfl (fun h => ?_) (fun h => ?_)
              | refine g_end T hC (by kernel_rfl) ?_
              | refine g_splitD (fun h => ?_) (fun h => ?_)
              | refine g_splitG rfl rfl rfl (fun h => ?_) (fun h => ?_)
              | refine g_splitP rfl rfl (fun h => ?_) (fun h => ?_)
              | refine g_idxS T hC rfl rfl rfl hnn hx' rfl rfl ?_
              | refine g_call hC (hKx) rfl rfl (LeSs.refl _) rfl rfl rfl ?_
              | refine g_outE ?_
              | (refine g_slMid hC rfl rfl rfl (by kernel_rfl) (Int.natCast_nonneg _) (by omega) (by omega) rfl rfl ?_)
              | refine g_call hC (hW1) rfl rfl (LeSs.refl _) rfl rfl rfl ?_
              | refine g_lit T hC rfl rfl rfl rfl rfl rfl rfl rfl rfl ?_
              | (refine g_append T 102 hC (rows := out.map tokR) (rows2 := [tokR (tokAt (ln, cl) t)]) (rows3 := (out ++ [tokAt (ln, cl) t]).map tokR) (bytes := 48) rfl rfl rfl rfl (SrcS.sl (T.es_ok _ _ rfl)) happ rfl rfl rfl (by kernel_rfl) (by rw [hol, List.length_singleton]; omega) (by rw [hol, List.length_singleton]; omega) rfl rfl rfl ?_)
            refine g_loop (fun z : Nat × Int => z.1 ≤ k ∧ z.2 = cl + z.1) (fun z => ([(0, Sr s), (3, .one (.bx 1003 0)), (5, .one (.ar 102)), (6, .one (.bx 1006 0)), (7, I i), (9, I (k : Nat)), (13, I z.1)], [(1003, some (Res.box [.p (ki 0), .p (ki 0)])), (1006, some (Res.box [.p (ki ln), .p (ki (z.2))])), (102, some (Res.arr 5 ((out ++ [tokAt (ln, cl) t]).map tokR)))])) (fun z => k - z.1) hC
              (0, cl) ⟨by simp only; omega, by simp⟩ id ⟨rfl, ⟨rfl, rfl, rfl, rfl, rfl, rfl, rfl, trivial⟩, ⟨rfl, rfl, rfl, trivial⟩, rfl, fun _ _ => rfl⟩ ?_
            rintro ⟨j, q⟩ ⟨hj, hq⟩
            simp only at hj hq
            refine g_run' T hC true 200 rfl ?_
            refine g_cond rfl (fun hh => ?_) (fun hh => ?_)
            · have hjk : j < k := by have := of_decide_eq_true hh; simp only at this; omega
              clear hh
              obtain ⟨x, hx, hx10⟩ := hnl j hjk
              have w4 := w3 j (by omega)
              have hnn : 0 ≤ IntKind.i64.wrap ((i : Int) + (j : Int)) := by rw [w4]; exact Int.natCast_nonneg _
              have hx' : s[(IntKind.i64.wrap ((i : Int) + (j : Int))).toNat]? = some x := by rw [w4]; exact lst_at hx
              have hM := move_ok (ln, q) x ⟨hln.1, by simp only; omega⟩ ⟨by simp only; omega, by simp only; omega⟩
              rw [mv_no hx10] at hM
              repeat' first
                | refine g_go T hC true 400 rfl rfl ?_
                | refine g_cond rfl (fun h => ?_) (fun h => ?_)
                | refine g_end T hC (by kernel_rfl) ?_
                | refine g_splitD (fun h => ?_) (fun h => ?_)
                | refine g_splitG rfl rfl rfl (fun h => ?_) (fun h => ?_)
                | refine g_splitP rfl rfl (fun h => ?_) (fun h => ?_)
                | refine g_idxS T hC rfl rfl rfl hnn hx' rfl rfl ?_
                | refine g_call hC (hM) rfl rfl (LeSs.refl _) rfl rfl rfl ?_
              dsimp only
              rw [wrapS (by omega)]
              exact g_round (j + 1, q + 1) ⟨by simp only; omega, by simp only; omega⟩ id (by simp only; omega) ⟨rfl, ⟨rfl, rfl, rfl, rfl, rfl, rfl, rfl, trivial⟩, ⟨rfl, rfl, rfl, trivial⟩, rfl, fun _ _ => rfl⟩
            · have hjk : j = k := by have := of_decide_eq_false hh; simp only at this; omega
              clear hh
              subst hq
              subst hjk
              repeat' first
                | refine g_go T hC true 400 rfl rfl ?_
                | refine g_cond rfl (fun h => ?_) (fun h => ?_)
                | refine g_end T hC (by kernel_rfl) ?_
                | refine g_splitD (fun h => ?_) (fun h => ?_)
                | refine g_splitG rfl rfl rfl (fun h => ?_) (fun h => ?_)
                | refine g_splitP rfl rfl (fun h => ?_) (fun h => ?_)
                | refine g_outE ?_
                | refine g_outR ?_
              dsimp only
              rw [w3 _ (by omega)]
              exact g_round (i + j, (ln, cl + ((j : Nat) : Int)), out ++ [tokAt (ln, cl) t]) ⟨by simp only; omega, ⟨by simp only; omega, by simp only; omega⟩, ⟨by simp only; omega, by simp only; omega⟩, by simp only [List.length_append, List.length_singleton]; omega, hL⟩ (mvU 101 102) (by simp only; omega) ⟨rfl, ⟨rfl, rfl, rfl, rfl, rfl, trivial⟩, ⟨rfl, rfl, rfl, trivial⟩, rfl, fun i hi => mvU_low (by omega) hi⟩
    | false =>
      rw [show isWord (c.toNat : Int) = false from hw] at hcw
      repeat' first
        | refine g_go T hC true 400 rfl rfl ?_
        | (exfalso; simp at h; done)
        | (exfalso; have h2 := of_decide_eq_false h; omega)
        | (exfalso; have h2 := of_decide_eq_true h; omega)
        | refine g_cond rfl (fun h => ?_) (fun h => ?_)
        | refine g_end T hC (by kernel_rfl) ?_
        | refine g_splitD (fun h => ?_) (fun h => ?_)
        | refine g_splitG rfl rfl rfl (fun h => ?_) (fun h => ?_)
        | refine g_splitP rfl rfl (fun h => ?_) (fun h => ?_)
        | refine g_idxS T hC rfl rfl rfl (Int.natCast_nonneg _) (lst_at hc) rfl rfl ?_
        | refine g_call hC (hcw) rfl rfl (LeSs.refl _) rfl rfl rfl ?_
      dsimp only
      have hsx : lst (s.extract ((i : Nat) : Int).toNat s.size) = (lst s).drop i := by rw [Int.toNat_natCast, lst_extract, List.take_of_length_le (by rw [List.length_drop]; omega)]
      have hS := rSymbol_ok (s.extract ((i : Nat) : Int).toNat s.size)
      rw [hsx] at hS
      cases hy : symL ((lst s).drop i) with
      | none =>
        rw [hy] at hS
        have hbad := sym_bad (ln, cl) out hc hbl h35 hw hy
        rw [hbad] at hL
        subst hL
        repeat' first
          | refine g_go T hC true 400 rfl rfl ?_
          | (exfalso; exact absurd h (by decide))
          | refine g_cond rfl (fun h => ?_) (fun h => ?_)
          | refine g_end T hC (by kernel_rfl) ?_
          | refine g_splitD (fun h => ?_) (fun h => ?_)
          | refine g_splitG rfl rfl rfl (fun h => ?_) (fun h => ?_)
          | refine g_splitP rfl rfl (fun h => ?_) (fun h => ?_)
          | (refine g_slFrom hC rfl rfl (by kernel_rfl) (Int.natCast_nonneg _) (by omega) rfl rfl ?_)
          | refine g_call hC (hS) rfl rfl (LeSs.refl _) rfl rfl rfl ?_
          | refine g_outR ?_
        exact g_fin ⟨.inl rfl, id, _, rfl, LeS.tup (.cons (LeS.one (.nil 5)) (.cons (.refl _) (.cons (.refl _) .nil))), trivial, rfl, rfl⟩
      | some y =>
        rw [hy] at hS
        have hys := sym_of hy
        have hyz := syms_size y hys.1
        have hyl := isPrefix_len hys.2
        rw [lst_len, List.length_drop] at hyl
        have hyne : y ≠ ⟨#[]⟩ := fun e => by subst e; exact absurd hyz.1 (by decide)
        have hgo := step_sym (ln, cl) out hc hbl h35 hw hy
        rw [hgo] at hL
        have hnl := nl_of (l := lst s) (i := i) (k := y.size) (by omega) (fun b hb => by
          have e : ((lst s).drop i).take y.size = lst y := by
            rw [← lst_len]; exact (List.prefix_iff_eq_take.1 (List.isPrefixOf_iff_prefix.1 hys.2)).symm
          rw [e] at hb
          exact syms_line y hys.1 b hb)
        have happ : out.map tokR ++ [tokR (tokAt (ln, cl) (4, y, 0))] = (out ++ [tokAt (ln, cl) (4, y, 0)]).map tokR := by rw [List.map_append]; rfl
        repeat' first
          | refine g_go T hC true 400 rfl rfl ?_
          | (exfalso; exact hyne (of_decide_eq_true h))
          | refine g_cond rfl (fun h => ?_) (fun h => ?_)
          | refine g_end T hC (by kernel_rfl) ?_
          | refine g_splitD (fun h => ?_) (fun h => ?_)
          | refine g_splitG rfl rfl rfl (fun h => ?_) (fun h => ?_)
          | refine g_splitP rfl rfl (fun h => ?_) (fun h => ?_)
          | (refine g_slFrom hC rfl rfl (by kernel_rfl) (Int.natCast_nonneg _) (by omega) rfl rfl ?_)
          | refine g_call hC (hS) rfl rfl (LeSs.refl _) rfl rfl rfl ?_
          | refine g_lit T hC rfl rfl rfl rfl rfl rfl rfl rfl rfl ?_
          | (refine g_append T 102 hC (rows := out.map tokR) (rows2 := [tokR (tokAt (ln, cl) (4, y, 0))]) (rows3 := (out ++ [tokAt (ln, cl) (4, y, 0)]).map tokR) (bytes := 48) rfl rfl rfl rfl (SrcS.sl (T.es_ok _ _ rfl)) happ rfl rfl rfl (by kernel_rfl) (by rw [hol, List.length_singleton]; omega) (by rw [hol, List.length_singleton]; omega) rfl rfl rfl ?_)
        refine g_loop (fun z : Nat × Int => z.1 ≤ y.size ∧ z.2 = cl + z.1) (fun z => ([(0, Sr s), (3, .one (.bx 1003 0)), (5, .one (.ar 102)), (6, .one (.bx 1006 0)), (7, I i), (9, I (y.size : Nat)), (13, I z.1)], [(1003, some (Res.box [.p (ki 0), .p (ki 0)])), (1006, some (Res.box [.p (ki ln), .p (ki (z.2))])), (102, some (Res.arr 5 ((out ++ [tokAt (ln, cl) (4, y, 0)]).map tokR)))])) (fun z => y.size - z.1) hC
          (0, cl) ⟨by simp only; omega, by simp⟩ id ⟨rfl, ⟨rfl, rfl, rfl, rfl, rfl, rfl, rfl, trivial⟩, ⟨rfl, rfl, rfl, trivial⟩, rfl, fun _ _ => rfl⟩ ?_
        rintro ⟨j, q⟩ ⟨hj, hq⟩
        simp only at hj hq
        refine g_run' T hC true 200 rfl ?_
        refine g_cond rfl (fun hh => ?_) (fun hh => ?_)
        · have hjk : j < y.size := by have := of_decide_eq_true hh; simp only at this; omega
          clear hh
          obtain ⟨x, hx, hx10⟩ := hnl j hjk
          have w4 := w3 j (by omega)
          have hnn : 0 ≤ IntKind.i64.wrap ((i : Int) + (j : Int)) := by rw [w4]; exact Int.natCast_nonneg _
          have hx' : s[(IntKind.i64.wrap ((i : Int) + (j : Int))).toNat]? = some x := by rw [w4]; exact lst_at hx
          have hM := move_ok (ln, q) x ⟨hln.1, by simp only; omega⟩ ⟨by simp only; omega, by simp only; omega⟩
          rw [mv_no hx10] at hM
          repeat' first
            | refine g_go T hC true 400 rfl rfl ?_
            | refine g_cond rfl (fun h => ?_) (fun h => ?_)
            | refine g_end T hC (by kernel_rfl) ?_
            | refine g_splitD (fun h => ?_) (fun h => ?_)
            | refine g_splitG rfl rfl rfl (fun h => ?_) (fun h => ?_)
            | refine g_splitP rfl rfl (fun h => ?_) (fun h => ?_)
            | refine g_idxS T hC rfl rfl rfl hnn hx' rfl rfl ?_
            | refine g_call hC (hM) rfl rfl (LeSs.refl _) rfl rfl rfl ?_
          dsimp only
          rw [wrapS (by omega)]
          exact g_round (j + 1, q + 1) ⟨by simp only; omega, by simp only; omega⟩ id (by simp only; omega) ⟨rfl, ⟨rfl, rfl, rfl, rfl, rfl, rfl, rfl, trivial⟩, ⟨rfl, rfl, rfl, trivial⟩, rfl, fun _ _ => rfl⟩
        · have hjk : j = y.size := by have := of_decide_eq_false hh; simp only at this; omega
          clear hh
          subst hq
          subst hjk
          repeat' first
            | refine g_go T hC true 400 rfl rfl ?_
            | refine g_cond rfl (fun h => ?_) (fun h => ?_)
            | refine g_end T hC (by kernel_rfl) ?_
            | refine g_splitD (fun h => ?_) (fun h => ?_)
            | refine g_splitG rfl rfl rfl (fun h => ?_) (fun h => ?_)
            | refine g_splitP rfl rfl (fun h => ?_) (fun h => ?_)
            | refine g_outE ?_
            | refine g_outR ?_
          dsimp only
          rw [w3 _ (by omega)]
          exact g_round (i + y.size, (ln, cl + ((y.size : Nat) : Int)), out ++ [tokAt (ln, cl) (4, y, 0)]) ⟨by simp only; omega, ⟨by simp only; omega, by simp only; omega⟩, ⟨by simp only; omega, by simp only; omega⟩, by simp only [List.length_append, List.length_singleton]; omega, hL⟩ (mvU 101 102) (by simp only; omega) ⟨rfl, ⟨rfl, rfl, rfl, rfl, rfl, trivial⟩, ⟨rfl, rfl, rfl, trivial⟩, rfl, fun i hi => mvU_low (by omega) hi⟩
end Hw.L
namespace Hw.L
open Go Go.Proofs Go.Shelf Hw.M

/-! LexTokens: the law -/
def tokSc (t : Tok) : List Sc := [.i .i64 t.k, .s t.t, .i .i64 t.n, .i .i64 t.ln, .i .i64 t.cl]
theorem tokSc_inj {x y : Tok} : tokSc x = tokSc y ↔ x = y := by
  cases x; cases y
  simp [tokSc]
theorem take_eqT {a b : List Tok} {i : Nat} {x : Tok} (hx : a[i]? = some x) (hy : b[i]? = some x) (h : a.take i = b.take i) : a.take (i + 1) = b.take (i + 1) := by
  rw [List.take_add_one, List.take_add_one, hx, hy, h]
theorem eqToks_ok (a b : List Tok) : FnOK Tryd.prog 11 [pS (toksP a), pS (toksP b)] [] (.bq (decide (a = b))) [] := by
  refine fn_ok T Tryd.func11 (by kernel_rfl) rfl rfl rfl rfl fun C hC => ?_
  refine g_len 0 rfl fun hlen => ?_
  rw [List.length_map] at hlen
  repeat' first
    | refine g_go T hC true 400 rfl rfl ?_
    | refine g_cond rfl (fun h => ?_) (fun h => ?_)
    | refine g_end T hC (by kernel_rfl) ?_
    | refine g_splitD (fun h => ?_) (fun h => ?_)
    | refine g_splitG rfl rfl rfl (fun h => ?_) (fun h => ?_)
    | refine g_splitP rfl rfl (fun h => ?_) (fun h => ?_)
    | refine g_retl T (.inl rfl) rfl ?_
  all_goals (try simp only [List.length_map] at *)
  · have : ¬ (a.length : Int) = (b.length : Int) := by simpa using h
    exact (decide_eq_false fun e => this (by rw [e])).symm
  · have hab : a.length = b.length := by have : (a.length : Int) = (b.length : Int) := by simpa using h
                                         omega
    refine g_loop (fun i : Nat => i ≤ a.length ∧ a.take i = b.take i) (fun i => ([(0, pS (toksP a)), (1, pS (toksP b)), (12, I a.length), (13, I i)], [])) (fun i => a.length - i) hC
      0 ⟨Nat.zero_le _, by simp⟩ id ⟨rfl, ⟨rfl, rfl, rfl, rfl, trivial⟩, trivial, rfl, fun _ _ => rfl⟩ ?_
    rintro i ⟨hi, hn⟩
    refine g_run' T hC true 200 rfl ?_
    refine g_cond rfl (fun h => ?_) (fun h => ?_)
    · have hlt : i < a.length := by simpa using h
      obtain ⟨x, hx⟩ := exists_at hlt
      obtain ⟨y, hy⟩ := exists_at (hab ▸ hlt)
      have ha5 : okSKs [.i .i64, .s, .i .i64, .i .i64, .i .i64] (tokSc x) = true := rfl
      have hb5 : okSKs [.i .i64, .s, .i .i64, .i .i64, .i .i64] (tokSc y) = true := rfl
      repeat' first
        | refine g_go T hC true 400 rfl rfl ?_
        | refine g_cond rfl (fun h => ?_) (fun h => ?_)
        | refine g_end T hC (by kernel_rfl) ?_
        | refine g_splitD (fun h => ?_) (fun h => ?_)
        | refine g_splitG rfl rfl rfl (fun h => ?_) (fun h => ?_)
        | refine g_splitP rfl rfl (fun h => ?_) (fun h => ?_)
        | refine g_idx T hC rfl rfl rfl (Int.natCast_nonneg _) (map_at (by assumption)) rfl rfl ?_
        | (refine g_neF hC [.i .i64, .s, .i .i64, .i .i64, .i .i64] (tokSc x) (tokSc y) rfl rfl (by kernel_rfl) (by kernel_rfl) ha5 hb5 (by kernel_rfl) rfl rfl ?_)
        | refine g_outR ?_
        | refine g_retl T (.inl rfl) rfl ?_
      · have hxy : x ≠ y := fun e => by subst e; simp at h
        exact (decide_eq_false fun e => hxy (by subst e; rw [hx] at hy; exact Option.some.inj hy)).symm
      · have hxy : x = y := by simpa [tokSc_inj] using h
        subst hxy
        rw [wrapS (by omega)]
        exact g_round (i + 1) ⟨by omega, take_eqT hx hy hn⟩ id (by omega) ⟨rfl, ⟨rfl, rfl, rfl, rfl, trivial⟩, trivial, rfl, fun _ _ => rfl⟩
    · have hge : ¬ i < a.length := by simpa using h
      repeat' first
        | refine g_go T hC true 400 rfl rfl ?_
        | refine g_cond rfl (fun h => ?_) (fun h => ?_)
        | refine g_end T hC (by kernel_rfl) ?_
        | refine g_splitD (fun h => ?_) (fun h => ?_)
        | refine g_splitG rfl rfl rfl (fun h => ?_) (fun h => ?_)
        | refine g_splitP rfl rfl (fun h => ?_) (fun h => ?_)
        | refine g_outE ?_
        | refine g_retl T (.inl rfl) rfl ?_
      rw [List.take_of_length_le (by omega), List.take_of_length_le (by omega)] at hn
      exact (decide_eq_true hn).symm
def aw1 : Str := (⟨#[120, 46, 108, 101, 102, 116, 60, 61, 51, 32, 35, 32, 110, 111]⟩ : ByteArray)
def aw2 : Str := (⟨#[97, 32, 61, 32, 48, 49]⟩ : ByteArray)
def awT : List Tok := [⟨1, (⟨#[120]⟩ : ByteArray), 0, 1, 1⟩, ⟨4, (⟨#[46]⟩ : ByteArray), 0, 1, 2⟩, ⟨1, (⟨#[108, 101, 102, 116]⟩ : ByteArray), 0, 1, 3⟩, ⟨4, (⟨#[60, 61]⟩ : ByteArray), 0, 1, 7⟩, ⟨2, (⟨#[]⟩ : ByteArray), 3, 1, 9⟩, ⟨5, (⟨#[]⟩ : ByteArray), 0, 1, 15⟩]
theorem aw1_eq : tokensS aw1 = (awT, (0, 0), 0) := by decide +kernel
theorem aw2_eq : tokensS aw2 = ([], (1, 5), 7) := by decide +kernel
theorem awake01_ok : FnOK Tryd.prog 8 [] [] (.bq true) [] := by
  have h1 := lexTokens_ok aw1 (by decide)
  have h2 := lexTokens_ok aw2 (by decide)
  rw [aw1_eq] at h1
  rw [aw2_eq] at h2
  unfold aw1 at h1
  unfold aw2 at h2
  refine fn_ok T Tryd.func8 (by kernel_rfl) rfl rfl rfl rfl fun C hC => ?_
  repeat' first
    | refine g_go T hC true 400 rfl rfl ?_
    | (exfalso; revert h; decide)
    | refine g_cond rfl (fun h => ?_) (fun h => ?_)
    | refine g_end T hC (by kernel_rfl) ?_
    | refine g_splitD (fun h => ?_) (fun h => ?_)
    | refine g_splitG rfl rfl rfl (fun h => ?_) (fun h => ?_)
    | refine g_splitP rfl rfl (fun h => ?_) (fun h => ?_)
    | refine g_call hC (h1) rfl rfl (LeSs.refl _) rfl rfl rfl ?_
    | refine g_call hC (h2) rfl rfl (LeSs.refl _) rfl rfl rfl ?_
    | refine g_idx T hC rfl rfl rfl (by decide) (map_at (l := awT) (i := 3) rfl) rfl rfl ?_
    | refine g_idx T hC rfl rfl rfl (by decide) (map_at (l := awT) (i := 4) rfl) rfl rfl ?_
    | (refine g_eqF hC [.i .i64, .i .i64] [.i .i64 1, .i .i64 5] [.i .i64 1, .i .i64 5] rfl rfl (by kernel_rfl) (by kernel_rfl) rfl rfl (by kernel_rfl) rfl rfl ?_)
    | refine g_retq T (.inl rfl) rfl ?_
    | refine g_retl T (.inl rfl) rfl ?_
  all_goals first | rfl | (exfalso; revert h; decide) | (simp; done)
theorem lexTokensLaw_ok (s : Str) : FnOK Tryd.prog 3 [Sr s] [] (.bq true) [] := by
  by_cases hs : s.size ≤ 1000000
  · have hT := lexTokens_ok s hs
    have hU := rTokens_ok s hs
    generalize tokensS s = R at hT hU
    obtain ⟨l, ⟨p1, p2⟩, e⟩ := R
    simp only at hT hU
    have hE := eqToks_ok l l
    rw [decide_eq_true rfl] at hE
    refine fn_ok T Tryd.func3 (by kernel_rfl) rfl rfl rfl rfl fun C hC => ?_
    repeat' first
      | refine g_go T hC true 400 rfl rfl ?_
      | (exfalso; simp at h; done)
      | refine g_cond rfl (fun h => ?_) (fun h => ?_)
      | refine g_end T hC (by kernel_rfl) ?_
      | refine g_splitD (fun h => ?_) (fun h => ?_)
      | refine g_splitG rfl rfl rfl (fun h => ?_) (fun h => ?_)
      | refine g_splitP rfl rfl (fun h => ?_) (fun h => ?_)
      | refine g_call hC (awake01_ok) rfl rfl (LeSs.refl _) rfl rfl rfl ?_
      | refine g_call hC (hT) rfl rfl (LeSs.refl _) rfl rfl rfl ?_
      | refine g_call hC (hU) rfl rfl (LeSs.refl _) rfl rfl rfl ?_
      | refine g_call hC (hE) rfl rfl (LeSs.refl _) rfl rfl rfl ?_
      | (refine g_eqF hC [.i .i64, .i .i64] [.i .i64 p1, .i .i64 p2] [.i .i64 p1, .i .i64 p2] rfl rfl (by kernel_rfl) (by kernel_rfl) rfl rfl (by kernel_rfl) rfl rfl ?_)
      | refine g_retq T (.inl rfl) rfl ?_
      | refine g_retl T (.inl rfl) rfl ?_
    all_goals clear hT hU hE
    all_goals first
      | rfl
      | (simp; done)
      | (exfalso; simp_all; done)
      | (simp_all; done)
  · refine fn_ok T Tryd.func3 (by kernel_rfl) rfl rfl rfl rfl fun C hC => ?_
    repeat' first
      | refine g_go T hC true 400 rfl rfl ?_
      | (exfalso; have h2 := of_decide_eq_false h; omega)
      | (exfalso; have h2 := of_decide_eq_true h; omega)
      | (exfalso; simp at h; done)
      | refine g_cond rfl (fun h => ?_) (fun h => ?_)
      | refine g_end T hC (by kernel_rfl) ?_
      | refine g_splitD (fun h => ?_) (fun h => ?_)
      | refine g_splitG rfl rfl rfl (fun h => ?_) (fun h => ?_)
      | refine g_splitP rfl rfl (fun h => ?_) (fun h => ?_)
      | refine g_call hC (awake01_ok) rfl rfl (LeSs.refl _) rfl rfl rfl ?_
      | refine g_retq T (.inl rfl) rfl ?_
      | refine g_retl T (.inl rfl) rfl ?_
    all_goals first
      | rfl
      | (simp; done)
      | (exfalso; simp_all; done)
end Hw.L
namespace Hw.L
open Go Go.Proofs Go.Shelf Hw.M

/-! LexNames -/
def symIn (s : Str) : Bool := syms.any fun x => decide (x = s)
def validF (t : Tok) : Bool := if t.k = 1 then isName t.t && decide (t.n = 0) else if t.k = 3 then isKeyword t.t && decide (t.n = 0) else if t.k = 4 then symIn t.t && decide (t.n = 0) else if t.k = 2 then decide (t.t = (⟨#[]⟩ : ByteArray)) && (decide (0 ≤ t.n) && decide (t.n ≤ 1099511627776)) else if t.k = 5 then decide (t.t = (⟨#[]⟩ : ByteArray)) && decide (t.n = 0) else false
theorem syms_self : ∀ y ∈ syms, y ≠ (⟨#[]⟩ : ByteArray) ∧ (symL (lst y)).getD (⟨#[]⟩ : ByteArray) = y := by decide +kernel
theorem symIn_iff (s : Str) : symIn s = true ↔ s ∈ syms := by
  unfold symIn; rw [List.any_eq_true]
  exact ⟨fun ⟨x, h1, h2⟩ => by have := of_decide_eq_true h2; subst this; exact h1, fun h => ⟨s, h, decide_eq_true rfl⟩⟩
theorem sym_iff (s : Str) : symIn s = true ↔ s ≠ (⟨#[]⟩ : ByteArray) ∧ (symL (lst s)).getD (⟨#[]⟩ : ByteArray) = s := by
  rw [symIn_iff]
  refine ⟨syms_self s, fun ⟨h1, h2⟩ => ?_⟩
  cases h : symL (lst s) with
  | none => rw [h] at h2; exact absurd h2.symm h1
  | some y => rw [h] at h2; have := (sym_of h).1; simp only [Option.getD_some] at h2; rw [← h2]; exact this
theorem lexValid_ok (t : Tok) : FnOK Tryd.prog 16 [aggS (tokR t)] [] (.bq (validF t)) [] := by
  obtain ⟨k, s, n, ln, cl⟩ := t
  have hN := lexName_ok s
  have hK := lexKeyword_ok s
  have hS := symbol_ok s
  have hI := sym_iff s
  unfold validF
  simp only
  generalize isName s = qn at hN ⊢
  generalize isKeyword s = qk at hK ⊢
  generalize symIn s = qs at hI ⊢
  generalize (symL (lst s)).getD (⟨#[]⟩ : ByteArray) = y at hS hI
  refine fn_ok T Tryd.func16 (by kernel_rfl) rfl rfl rfl rfl fun C hC => ?_
  repeat' first
    | refine g_go T hC true 400 rfl rfl ?_
    | refine g_cond rfl (fun h => ?_) (fun h => ?_)
    | refine g_end T hC (by kernel_rfl) ?_
    | refine g_splitD (fun h => ?_) (fun h => ?_)
    | refine g_splitG rfl rfl rfl (fun h => ?_) (fun h => ?_)
    | refine g_splitP rfl rfl (fun h => ?_) (fun h => ?_)
    | refine g_call hC (hN) rfl rfl (LeSs.refl _) rfl rfl rfl ?_
    | refine g_call hC (hK) rfl rfl (LeSs.refl _) rfl rfl rfl ?_
    | refine g_call hC (hS) rfl rfl (LeSs.refl _) rfl rfl rfl ?_
    | refine g_retq T (.inl rfl) rfl ?_
    | refine g_retl T (.inl rfl) rfl ?_
  all_goals clear hN hK hS
  all_goals first
    | (simp_all; done)
    | (simp_all; omega)
    | (intros; simp_all <;> omega)
theorem rValid_ok (t : Tok) : FnOK Tryd.prog 17 [aggS (tokR t)] [] (.bq (validF t)) [] := by
  obtain ⟨k, s, n, ln, cl⟩ := t
  have hN := isName_ok s
  have hK := isKeyword_ok s
  have hS := has_ok syms s
  rw [show (syms.any fun x => decide (x = s)) = symIn s from rfl] at hS
  unfold validF
  simp only
  generalize isName s = qn at hN ⊢
  generalize isKeyword s = qk at hK ⊢
  generalize symIn s = qs at hS ⊢
  refine fn_ok T Tryd.func17 (by kernel_rfl) rfl rfl rfl rfl fun C hC => ?_
  repeat' first
    | refine g_go T hC true 400 rfl rfl ?_
    | refine g_cond rfl (fun h => ?_) (fun h => ?_)
    | refine g_end T hC (by kernel_rfl) ?_
    | refine g_splitD (fun h => ?_) (fun h => ?_)
    | refine g_splitG rfl rfl rfl (fun h => ?_) (fun h => ?_)
    | refine g_splitP rfl rfl (fun h => ?_) (fun h => ?_)
    | refine g_call hC (hN) rfl rfl (LeSs.refl _) rfl rfl rfl ?_
    | refine g_call hC (hK) rfl rfl (LeSs.refl _) rfl rfl rfl ?_
    | refine g_call hC (symbols_ok) rfl rfl (LeSs.refl _) rfl rfl rfl ?_
    | refine g_call hC (hS) rfl rfl (LeSs.refl _) rfl rfl rfl ?_
    | refine g_retq T (.inl rfl) rfl ?_
    | refine g_retl T (.inl rfl) rfl ?_
  all_goals clear hN hK hS
  all_goals first
    | (simp_all; done)
    | (simp_all; omega)
    | (intros; simp_all <;> omega)
theorem lexNamesLaw_ok (s : Str) (t : Tok) : FnOK Tryd.prog 4 [Sr s, aggS (tokR t)] [] (.bq true) [] := by
  have h1 := lexName_ok s
  have h2 := isName_ok s
  have h3 := lexKeyword_ok s
  have h4 := isKeyword_ok s
  have h5 := lexValid_ok t
  have h6 := rValid_ok t
  generalize isName s = q1 at h1 h2
  generalize isKeyword s = q2 at h3 h4
  generalize validF t = q3 at h5 h6
  obtain ⟨k, x, n, ln, cl⟩ := t
  refine fn_ok T Tryd.func4 (by kernel_rfl) rfl rfl rfl rfl fun C hC => ?_
  repeat' first
    | refine g_go T hC true 400 rfl rfl ?_
    | refine g_boolsE hC rfl rfl (by kernel_rfl) rfl rfl ?_
    | (exfalso; simp at h; done)
    | refine g_cond rfl (fun h => ?_) (fun h => ?_)
    | refine g_end T hC (by kernel_rfl) ?_
    | refine g_splitD (fun h => ?_) (fun h => ?_)
    | refine g_splitG rfl rfl rfl (fun h => ?_) (fun h => ?_)
    | refine g_splitP rfl rfl (fun h => ?_) (fun h => ?_)
    | refine g_call hC (awake01_ok) rfl rfl (LeSs.refl _) rfl rfl rfl ?_
    | refine g_call hC (h1) rfl rfl (LeSs.refl _) rfl rfl rfl ?_
    | refine g_call hC (h2) rfl rfl (LeSs.refl _) rfl rfl rfl ?_
    | refine g_call hC (h3) rfl rfl (LeSs.refl _) rfl rfl rfl ?_
    | refine g_call hC (h4) rfl rfl (LeSs.refl _) rfl rfl rfl ?_
    | refine g_call hC (h5) rfl rfl (LeSs.refl _) rfl rfl rfl ?_
    | refine g_call hC (h6) rfl rfl (LeSs.refl _) rfl rfl rfl ?_
    | refine g_retq T (.inl rfl) rfl ?_
    | refine g_retl T (.inl rfl) rfl ?_
  all_goals clear h1 h2 h3 h4 h5 h6
  all_goals first
    | rfl
    | (simp; done)
    | (exfalso; simp_all; done)
    | (simp_all; done)
end Hw.L
