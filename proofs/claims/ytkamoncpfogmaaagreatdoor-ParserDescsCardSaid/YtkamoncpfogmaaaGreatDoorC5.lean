/- The engine and the contracts. -/
import Derived.Test.YtkamoncpfogmaaaGreatDoorC4
import Derived.Test.YtkamoncpfogmaaaGreatDoorC2
import Derived.Test.YtkamoncpfogmaaaGreatDoorC1
import Derived.Test.YtkamoncpfogmaaaGreatDoorC3
set_option linter.unusedVariables false
set_option linter.unusedSimpArgs false
namespace Hw.Pa
open Go Go.Proofs Go.Shelf Hw.M

theorem blB_any {c : UInt8} : blB c = true ↔ (c = 32 ∨ c = 9 ∨ c = 13) ∨ c = 10 := by
  have e : ∀ n : Nat, n < 256 → decide (classS (n : Int) = 1) = (decide (n = 32) || decide (n = 9) || decide (n = 13) || decide (n = 10)) := by decide +kernel
  have h := e c.toNat c.toNat_lt
  unfold blB
  rw [h]
  simp only [← UInt8.toNat_inj, Bool.or_eq_true, decide_eq_true_eq]
  have e1 : (32 : UInt8).toNat = 32 := rfl
  have e2 : (9 : UInt8).toNat = 9 := rfl
  have e3 : (13 : UInt8).toNat = 13 := rfl
  have e4 : (10 : UInt8).toNat = 10 := rfl
  omega
theorem nl_of {l : By} {i k : Nat} (hlen : i + k ≤ l.length) (h : ∀ b ∈ (l.drop i).take k, b ≠ 10) : ∀ j, j < k → ∃ x, l[i + j]? = some x ∧ x ≠ 10 := fun j hj => by
  obtain ⟨x, hx⟩ := exists_at (l := l) (i := i + j) (by omega)
  refine ⟨x, hx, h x (List.mem_of_getElem? (i := j) ?_)⟩
  rw [List.getElem?_take, if_pos hj, List.getElem?_drop]; exact hx
theorem mv_no {ln q : Int} {x : UInt8} (h : x ≠ 10) : mv (ln, q) x = (ln, q + 1) := by unfold mv; rw [if_neg h]
theorem rTokens_ok (s : Str) (hs : s.size ≤ 1000000) : FnOK Tryz.prog 31 [Sr s] [] (.tup [pS (toksP (tokensS s).1), aggS [ki (tokensS s).2.1.1, ki (tokensS s).2.1.2], I (tokensS s).2.2]) [] := by
  have hl := lst_len s
  by_cases hbig : 65536 < s.size
  · have hR : tokensS s = ([], (0, 0), 4) := if_pos hbig
    rw [hR]
    refine fn_ok T Tryz.func31 (by kernel_rfl) rfl rfl rfl rfl fun C hC => ?_
    repeat' first | refine g_go T hC true 400 rfl rfl ?_ | refine g_cond rfl (fun h => ?_) (fun h => ?_) | refine g_end T hC (by kernel_rfl) ?_ | refine g_splitD (fun h => ?_) (fun h => ?_) | refine g_splitG rfl rfl rfl (fun h => ?_) (fun h => ?_) | refine g_splitP rfl rfl (fun h => ?_) (fun h => ?_)
    all_goals first
      | exact g_fin ⟨.inl rfl, id, _, rfl, LeS.tup (.cons (LeS.one (.nil 5)) (.cons (.refl _) (.cons (.refl _) .nil))), trivial, rfl, rfl⟩
      | (exfalso; simp only [decide_eq_false_iff_not] at h; omega)
  have hR : tokensS s = lxx ((lst s).drop 0) (1, 1) [] := if_neg hbig
  generalize tokensS s = R at hR
  refine fn_ok T Tryz.func31 (by kernel_rfl) rfl rfl rfl rfl fun C hC => ?_
  repeat' first | refine g_go T hC true 400 rfl rfl ?_ | refine g_cond rfl (fun h => ?_) (fun h => ?_) | refine g_end T hC (by kernel_rfl) ?_ | refine g_splitD (fun h => ?_) (fun h => ?_) | refine g_splitG rfl rfl rfl (fun h => ?_) (fun h => ?_) | refine g_splitP rfl rfl (fun h => ?_) (fun h => ?_)
  · exfalso; have := of_decide_eq_true h; omega
  refine g_adopt hC rfl 101 5 rfl [(5, .one (.ar 101))] ⟨⟨_, rfl, AdS.nil⟩, trivial⟩ [] trivial ?_
  refine g_loop (fun q : Nat × (Int × Int) × List Tok => q.1 ≤ s.size ∧ (0 ≤ q.2.1.1 ∧ q.2.1.1 ≤ q.1 + 1) ∧ (0 ≤ q.2.1.2 ∧ q.2.1.2 ≤ q.1 + 1) ∧ q.2.2.length ≤ q.1 ∧ R = lxx ((lst s).drop q.1) q.2.1 q.2.2) (fun q => ([(0, Sr s), (3, .one (.bx 1003 0)), (5, .one (.ar 101)), (6, .one (.bx 1006 0)), (7, I q.1)], [(1003, some (Res.box [.p (ki 0), .p (ki 0)])), (1006, some (Res.box [.p (ki q.2.1.1), .p (ki q.2.1.2)])), (101, some (Res.arr 5 (q.2.2.map tokR)))])) (fun q => s.size - q.1) hC
    (0, (1, 1), []) ⟨Nat.zero_le _, ⟨by decide, by decide⟩, ⟨by decide, by decide⟩, Nat.zero_le _, hR⟩ id ⟨rfl, ⟨rfl, rfl, rfl, rfl, rfl, trivial⟩, ⟨rfl, rfl, rfl, trivial⟩, rfl, fun _ _ => rfl⟩ ?_
  rintro ⟨i, ⟨ln, cl⟩, out⟩ ⟨hi, hln, hcl, hout, hL⟩
  simp only at hi hln hcl hout hL
  have hol : (out.map tokR).length = out.length := List.length_map _
  refine g_run' T hC true 200 rfl ?_
  refine g_cond rfl (fun hh => ?_) (fun hh => ?_)
  rotate_left
  · have hge : i = s.size := by have := of_decide_eq_false hh; omega
    clear hh
    rw [List.drop_of_length_le (by omega), lxx_nil] at hL
    subst hL
    have happ : out.map tokR ++ [tokR ⟨5, (⟨#[]⟩ : ByteArray), 0, ln, cl⟩] = (out ++ [(⟨5, (⟨#[]⟩ : ByteArray), 0, ln, cl⟩ : Tok)]).map tokR := by rw [List.map_append]; rfl
    repeat' first | refine g_go T hC true 400 rfl rfl ?_ | refine g_cond rfl (fun h => ?_) (fun h => ?_) | refine g_end T hC (by kernel_rfl) ?_ | refine g_splitD (fun h => ?_) (fun h => ?_) | refine g_splitG rfl rfl rfl (fun h => ?_) (fun h => ?_) | refine g_splitP rfl rfl (fun h => ?_) (fun h => ?_) | refine g_outE ?_ | refine g_lit T hC rfl rfl rfl rfl rfl rfl rfl rfl rfl ?_ | (refine g_append T 102 hC (rows := out.map tokR) (rows2 := [tokR ((⟨5, (⟨#[]⟩ : ByteArray), 0, ln, cl⟩ : Tok))]) (rows3 := (out ++ [(⟨5, (⟨#[]⟩ : ByteArray), 0, ln, cl⟩ : Tok)]).map tokR) (bytes := 48) rfl rfl rfl rfl (SrcS.sl (T.es_ok _ _ rfl)) happ rfl rfl rfl (by kernel_rfl) (by rw [hol, List.length_singleton]; omega) (by rw [hol, List.length_singleton]; omega) rfl rfl rfl ?_)
    refine g_freeze rfl (id := 102) (e := 5) (rows := (out ++ [(⟨5, (⟨#[]⟩ : ByteArray), 0, ln, cl⟩ : Tok)]).map tokR) rfl [(2, pS (toksP (out ++ [(⟨5, (⟨#[]⟩ : ByteArray), 0, ln, cl⟩ : Tok)])))] ⟨⟨_, rfl, FrS.ar⟩, trivial⟩ [] trivial ?_
    exact g_fin ⟨.inl rfl, id, _, rfl, .refl _, trivial, rfl, rfl⟩
  have hlt : i < (lst s).length := by have := of_decide_eq_true hh; omega
  clear hh
  obtain ⟨c, hc⟩ := exists_at hlt
  cases hbl : blB c with
  | true =>
    rw [step_blank _ _ hc hbl] at hL
    have hM := move_ok (ln, cl) c ⟨hln.1, by simp only; omega⟩ ⟨hcl.1, by simp only; omega⟩
    have hb1 : (mv (ln, cl) c).1 ≤ ln + 1 ∧ 0 ≤ (mv (ln, cl) c).1 := by unfold mv; split <;> simp only <;> omega
    have hb2 : (mv (ln, cl) c).2 ≤ (i : Int) + 2 ∧ 0 ≤ (mv (ln, cl) c).2 := by unfold mv; split <;> simp only <;> omega
    generalize mv (ln, cl) c = p' at hM hL hb1 hb2
    have h4 := blB_any.1 hbl
    clear hbl
    rcases h4 with (rfl | rfl | rfl) | rfl
    all_goals
      repeat' first | refine g_go T hC true 400 rfl rfl ?_ | (exfalso; revert h; decide) | refine g_cond rfl (fun h => ?_) (fun h => ?_) | refine g_end T hC (by kernel_rfl) ?_ | refine g_splitD (fun h => ?_) (fun h => ?_) | refine g_splitG rfl rfl rfl (fun h => ?_) (fun h => ?_) | refine g_splitP rfl rfl (fun h => ?_) (fun h => ?_) | refine g_idxS T hC rfl rfl rfl (Int.natCast_nonneg _) (lst_at hc) rfl rfl ?_ | refine g_call hC (hM) rfl rfl (LeSs.refl _) rfl rfl rfl ?_ | refine g_outR ?_ | refine g_outE ?_
      dsimp only
      rw [wrapS (by omega)]
      exact g_round (i + 1, p', out) ⟨by simp only; omega, ⟨by simp only; omega, by simp only; omega⟩, ⟨by simp only; omega, by simp only; omega⟩, by simp only; omega, hL⟩ id (by simp only; omega) ⟨rfl, ⟨rfl, rfl, rfl, rfl, rfl, trivial⟩, ⟨rfl, rfl, rfl, trivial⟩, rfl, fun _ _ => rfl⟩
  | false =>
    have hn4 : ¬ ((c = 32 ∨ c = 9 ∨ c = 13) ∨ c = 10) := fun e => by rw [blB_any.2 e] at hbl; cases hbl
    have num2 : ∀ c d : UInt8, (c.toNat : Int) = (d.toNat : Int) → c = d := fun c d e => UInt8.toNat_inj.1 (by omega)
    have num : ∀ d : UInt8, (c.toNat : Int) = (d.toNat : Int) → c = d := fun d e => UInt8.toNat_inj.1 (by omega)
    have n1 : ¬ (c.toNat : Int) = 32 := fun e => hn4 (.inl (.inl (num 32 e)))
    have n2 : ¬ (c.toNat : Int) = 9 := fun e => hn4 (.inl (.inr (.inl (num 9 e))))
    have n3 : ¬ (c.toNat : Int) = 13 := fun e => hn4 (.inl (.inr (.inr (num 13 e))))
    have n4 : ¬ (c.toNat : Int) = 10 := fun e => hn4 (.inr (num 10 e))
    have w3 : ∀ k : Nat, i + k ≤ s.size → IntKind.i64.wrap ((i : Int) + (k : Int)) = ((i + k : Nat) : Int) := fun k hk => by rw [wrap64 (by omega)]; omega
    have hcw := word_ok c.toNat
    by_cases h35 : c = 35
    · have h35c : (c.toNat : Int) = 35 := by rw [h35]; rfl
      repeat' first | refine g_go T hC true 400 rfl rfl ?_ | (exfalso; have h2 := of_decide_eq_false h; omega) | (exfalso; have h2 := of_decide_eq_true h; omega) | refine g_cond rfl (fun h => ?_) (fun h => ?_) | refine g_end T hC (by kernel_rfl) ?_ | refine g_splitD (fun h => ?_) (fun h => ?_) | refine g_splitG rfl rfl rfl (fun h => ?_) (fun h => ?_) | refine g_splitP rfl rfl (fun h => ?_) (fun h => ?_) | refine g_idxS T hC rfl rfl rfl (Int.natCast_nonneg _) (lst_at hc) rfl rfl ?_ | refine g_outR ?_
      refine g_loop (fun z : Nat × Int => i + z.1 ≤ s.size ∧ (((lst s).drop i).take z.1).all (fun b => decide (b ≠ 10)) = true ∧ z.2 = cl + z.1) (fun z => ([(0, Sr s), (3, .one (.bx 1003 0)), (5, .one (.ar 101)), (6, .one (.bx 1006 0)), (7, I (i + z.1 : Nat))], [(1003, some (Res.box [.p (ki 0), .p (ki 0)])), (1006, some (Res.box [.p (ki ln), .p (ki z.2)])), (101, some (Res.arr 5 (out.map tokR)))])) (fun z => s.size - i - z.1) hC
        (0, cl) ⟨by simp only; omega, by simp, by simp⟩ id ⟨rfl, ⟨rfl, rfl, rfl, rfl, rfl, trivial⟩, ⟨rfl, rfl, rfl, trivial⟩, rfl, fun _ _ => rfl⟩ ?_
      rintro ⟨k, q⟩ ⟨hk, hall, hq⟩
      simp only at hk hall hq
      have hcom : (∀ x, ((lst s).drop i)[k]? = some x → x = 10) → 0 < k ∧ R = lxx ((lst s).drop (i + k)) (ln, q) out := fun hx => by
        have htw := tw_end _ k hall (fun x h => by simpa using hx x h)
        refine ⟨?_, ?_⟩
        · rcases Nat.eq_zero_or_pos k with rfl | h
          · have := hx 35 (by rw [List.getElem?_drop, ← h35]; exact hc)
            cases this
          · exact h
        · rw [h35] at hc
          rw [hL, step_com _ _ hc (k := k) (by rw [htw, List.length_take, List.length_drop]; omega), hq]
      refine g_run' T hC true 200 rfl ?_
      by_cases hj : i + k < s.size
      · obtain ⟨x, hx⟩ := exists_at (l := lst s) (i := i + k) (by omega)
        have hxd : ((lst s).drop i)[k]? = some x := by rw [List.getElem?_drop]; exact hx
        by_cases hx10 : x = 10
        · obtain ⟨h0, hL'⟩ := hcom fun y hy => by
            rw [hxd] at hy
            obtain rfl := Option.some.inj hy
            exact hx10
          subst hx10
          repeat' first | refine g_go T hC true 400 rfl rfl ?_ | (exfalso; revert h; decide) | (exfalso; have h2 := of_decide_eq_false h; dsimp only at h2; omega) | refine g_cond rfl (fun h => ?_) (fun h => ?_) | refine g_end T hC (by kernel_rfl) ?_ | refine g_splitD (fun h => ?_) (fun h => ?_) | refine g_splitG rfl rfl rfl (fun h => ?_) (fun h => ?_) | refine g_splitP rfl rfl (fun h => ?_) (fun h => ?_) | refine g_idxS T hC rfl rfl rfl (Int.natCast_nonneg _) (lst_at hx) rfl rfl ?_ | refine g_outE ?_ | refine g_outR ?_
          exact g_round (i + k, (ln, q), out) ⟨by simp only; omega, ⟨by simp only; omega, by simp only; omega⟩, ⟨by simp only; omega, by simp only; omega⟩, by simp only; omega, hL'⟩ id (by simp only; omega) ⟨rfl, ⟨rfl, rfl, rfl, rfl, rfl, trivial⟩, ⟨rfl, rfl, rfl, trivial⟩, rfl, fun _ _ => rfl⟩
        · have hM := move_ok (ln, q) x ⟨hln.1, by simp only; omega⟩ ⟨by simp only; omega, by simp only; omega⟩
          rw [mv_no hx10] at hM
          have hx10c : ¬ (x.toNat : Int) = 10 := fun e => hx10 (num2 x 10 e)
          repeat' first | refine g_go T hC true 400 rfl rfl ?_ | (exfalso; have h2 := h; simp at h2; omega) | (exfalso; have h2 := of_decide_eq_false h; dsimp only at h2; omega) | refine g_cond rfl (fun h => ?_) (fun h => ?_) | refine g_end T hC (by kernel_rfl) ?_ | refine g_splitD (fun h => ?_) (fun h => ?_) | refine g_splitG rfl rfl rfl (fun h => ?_) (fun h => ?_) | refine g_splitP rfl rfl (fun h => ?_) (fun h => ?_) | refine g_idxS T hC rfl rfl rfl (Int.natCast_nonneg _) (lst_at hx) rfl rfl ?_ | refine g_call hC (hM) rfl rfl (LeSs.refl _) rfl rfl rfl ?_
          dsimp only
          rw [wrapS (by omega)]
          exact g_round (k + 1, q + 1) ⟨by simp only; omega, by simp only; rw [all_take hxd, hall]; simpa using hx10, by simp only; omega⟩ id (by simp only; omega) ⟨rfl, ⟨rfl, rfl, rfl, rfl, rfl, trivial⟩, ⟨rfl, rfl, rfl, trivial⟩, rfl, fun _ _ => rfl⟩
      · obtain ⟨h0, hL'⟩ := hcom fun y hy => by
          rw [List.getElem?_drop, List.getElem?_eq_none (by omega)] at hy
          cases hy
        repeat' first | refine g_go T hC true 400 rfl rfl ?_ | (exfalso; have h2 := of_decide_eq_true h; dsimp only at h2; omega) | refine g_cond rfl (fun h => ?_) (fun h => ?_) | refine g_end T hC (by kernel_rfl) ?_ | refine g_splitD (fun h => ?_) (fun h => ?_) | refine g_splitG rfl rfl rfl (fun h => ?_) (fun h => ?_) | refine g_splitP rfl rfl (fun h => ?_) (fun h => ?_) | refine g_outE ?_ | refine g_outR ?_
        exact g_round (i + k, (ln, q), out) ⟨by simp only; omega, ⟨by simp only; omega, by simp only; omega⟩, ⟨by simp only; omega, by simp only; omega⟩, by simp only; omega, hL'⟩ id (by simp only; omega) ⟨rfl, ⟨rfl, rfl, rfl, rfl, rfl, trivial⟩, ⟨rfl, rfl, rfl, trivial⟩, rfl, fun _ _ => rfl⟩
    have h35c : ¬ (c.toNat : Int) = 35 := fun e => h35 (num 35 e)
    cases hw : wB c with
    | true =>
      rw [show isWord (c.toNat : Int) = true from hw] at hcw
      repeat' first | refine g_go T hC true 400 rfl rfl ?_ | (exfalso; simp at h; done) | (exfalso; have h2 := of_decide_eq_false h; omega) | (exfalso; have h2 := of_decide_eq_true h; omega) | refine g_cond rfl (fun h => ?_) (fun h => ?_) | refine g_end T hC (by kernel_rfl) ?_ | refine g_splitD (fun h => ?_) (fun h => ?_) | refine g_splitG rfl rfl rfl (fun h => ?_) (fun h => ?_) | refine g_splitP rfl rfl (fun h => ?_) (fun h => ?_) | refine g_idxS T hC rfl rfl rfl (Int.natCast_nonneg _) (lst_at hc) rfl rfl ?_ | refine g_call hC (hcw) rfl rfl (LeSs.refl _) rfl rfl rfl ?_
      dsimp only
      refine g_loop (fun k : Nat => i + k ≤ s.size ∧ (((lst s).drop i).take k).all wB = true) (fun k => ([(0, Sr s), (3, .one (.bx 1003 0)), (5, .one (.ar 101)), (6, .one (.bx 1006 0)), (7, I i), (9, I k)], [(1003, some (Res.box [.p (ki 0), .p (ki 0)])), (1006, some (Res.box [.p (ki ln), .p (ki (cl))])), (101, some (Res.arr 5 (out.map tokR)))])) (fun k => s.size - i - k) hC
        0 ⟨by omega, by simp⟩ id ⟨rfl, ⟨rfl, rfl, rfl, rfl, rfl, rfl, trivial⟩, ⟨rfl, rfl, rfl, trivial⟩, rfl, fun _ _ => rfl⟩ ?_
      rintro k ⟨hk, hall⟩
      have wk := w3 k hk
      have hnn : 0 ≤ IntKind.i64.wrap ((i : Int) + (k : Int)) := by rw [wk]; exact Int.natCast_nonneg _
      have hex : lst (s.extract ((i : Nat) : Int).toNat (IntKind.i64.wrap ((i : Int) + (k : Int))).toNat) = ((lst s).drop i).take k := by rw [wk, Int.toNat_natCast, Int.toNat_natCast, lst_extract, show i + k - i = k by omega]
      have hW := classify_ok (s.extract ((i : Nat) : Int).toNat (IntKind.i64.wrap ((i : Int) + (k : Int))).toNat) ln cl (by rw [← lst_len, hex, List.length_take]; omega)
      rw [hex] at hW
      by_cases hend : ∃ x, (lst s)[i + k]? = some x ∧ wB x = true
      · obtain ⟨x, hx, hwx⟩ := hend
        have hxd : ((lst s).drop i)[k]? = some x := by rw [List.getElem?_drop]; exact hx
        have hxl := (List.getElem?_eq_some_iff.1 hx).1
        have hKx := word_ok x.toNat
        rw [show isWord (x.toNat : Int) = true from hwx] at hKx
        have hx' : s[(IntKind.i64.wrap ((i : Int) + (k : Int))).toNat]? = some x := by rw [wk]; exact lst_at hx
        refine g_run' T hC true 200 rfl ?_
        repeat' first | refine g_go T hC true 400 rfl rfl ?_ | (exfalso; simp at h; done) | (exfalso; have h2 := of_decide_eq_false h; omega) | (exfalso; have h2 := of_decide_eq_true h; omega) | refine g_cond rfl (fun h => ?_) (fun h => ?_) | refine g_end T hC (by kernel_rfl) ?_ | refine g_splitD (fun h => ?_) (fun h => ?_) | refine g_splitG rfl rfl rfl (fun h => ?_) (fun h => ?_) | refine g_splitP rfl rfl (fun h => ?_) (fun h => ?_) | refine g_idxS T hC rfl rfl rfl hnn hx' rfl rfl ?_ | refine g_call hC (hKx) rfl rfl (LeSs.refl _) rfl rfl rfl ?_
        rw [wrapS (by omega)]
        exact g_round (k + 1) ⟨by omega, by rw [all_take hxd, hall, hwx]; rfl⟩ id (by omega) ⟨rfl, ⟨rfl, rfl, rfl, rfl, rfl, rfl, trivial⟩, ⟨rfl, rfl, rfl, trivial⟩, rfl, fun _ _ => rfl⟩
      · have hno : ∀ x, (lst s)[i + k]? = some x → wB x = false := fun x hx => by
          cases hwx : wB x with
          | false => rfl
          | true => exact absurd ⟨x, hx, hwx⟩ hend
        have htw := tw_end _ k hall (fun x hx => hno x (by rw [List.getElem?_drop] at hx; exact hx))
        have hlen : (((lst s).drop i).takeWhile wB).length = k := by rw [htw, List.length_take, List.length_drop]; omega
        have h0 : 0 < k := by
          rcases Nat.eq_zero_or_pos k with h | h
          · have := hno c (by rw [h]; exact hc)
            rw [hw] at this; cases this
          · exact h
        have hend2 : s.size ≤ i + k ∨ ∃ x, (lst s)[i + k]? = some x ∧ wB x = false := by
          by_cases hz : s.size ≤ i + k
          · exact .inl hz
          · obtain ⟨x, hx⟩ := exists_at (l := lst s) (i := i + k) (by omega)
            exact .inr ⟨x, hx, hno x hx⟩
        have hnl := nl_of (l := lst s) (i := i) (k := k) (by omega) (fun b hb e => by
          have := List.all_eq_true.1 hall b hb
          subst e
          exact absurd this (by decide))
        clear hend hno
        cases ht : clsT (((lst s).drop i).take k) with
        | none =>
          have hW2 := hW.2 ht
          have hbad := word_bad (ln, cl) out hc hbl h35 hw (by rw [htw]; exact ht)
          rw [hbad] at hL
          subst hL
          refine g_run' T hC true 200 rfl ?_
          rcases hend2 with hz | ⟨x, hx, hwx⟩
          · repeat' first | refine g_go T hC true 400 rfl rfl ?_ | (exfalso; have h2 := of_decide_eq_false h; omega) | (exfalso; have h2 := of_decide_eq_true h; omega) | refine g_cond rfl (fun h => ?_) (fun h => ?_) | refine g_end T hC (by kernel_rfl) ?_ | refine g_splitD (fun h => ?_) (fun h => ?_) | refine g_splitG rfl rfl rfl (fun h => ?_) (fun h => ?_) | refine g_splitP rfl rfl (fun h => ?_) (fun h => ?_) | refine g_outE ?_ | (refine g_slMid hC rfl rfl rfl (by kernel_rfl) (Int.natCast_nonneg _) (by omega) (by omega) rfl rfl ?_) | refine g_call hC (hW2) rfl rfl (LeSs.refl _) rfl rfl rfl ?_ | refine g_outR ?_
            exact g_fin ⟨.inl rfl, id, _, rfl, LeS.tup (.cons (LeS.one (.nil 5)) (.cons (.refl _) (.cons (.refl _) .nil))), trivial, rfl, rfl⟩
          · have hKx := word_ok x.toNat
            rw [show isWord (x.toNat : Int) = false from hwx] at hKx
            have hxl := (List.getElem?_eq_some_iff.1 hx).1
            have hx' : s[(IntKind.i64.wrap ((i : Int) + (k : Int))).toNat]? = some x := by rw [wk]; exact lst_at hx
            repeat' first | refine g_go T hC true 400 rfl rfl ?_ | (exfalso; simp at h; done) | (exfalso; have h2 := of_decide_eq_false h; omega) | (exfalso; have h2 := of_decide_eq_true h; omega) | refine g_cond rfl (fun h => ?_) (fun h => ?_) | refine g_end T hC (by kernel_rfl) ?_ | refine g_splitD (fun h => ?_) (fun h => ?_) | refine g_splitG rfl rfl rfl (fun h => ?_) (fun h => ?_) | refine g_splitP rfl rfl (fun h => ?_) (fun h => ?_) | refine g_idxS T hC rfl rfl rfl hnn hx' rfl rfl ?_ | refine g_call hC (hKx) rfl rfl (LeSs.refl _) rfl rfl rfl ?_ | refine g_outE ?_ | (refine g_slMid hC rfl rfl rfl (by kernel_rfl) (Int.natCast_nonneg _) (by omega) (by omega) rfl rfl ?_) | refine g_call hC (hW2) rfl rfl (LeSs.refl _) rfl rfl rfl ?_ | refine g_outR ?_
            exact g_fin ⟨.inl rfl, id, _, rfl, LeS.tup (.cons (LeS.one (.nil 5)) (.cons (.refl _) (.cons (.refl _) .nil))), trivial, rfl, rfl⟩
        | some t =>
          have hW1 := hW.1 t ht
          have hgo := step_word (ln, cl) out hc hbl h35 hw (t := t) (by rw [htw]; exact ht)
          rw [hlen] at hgo
          rw [hgo] at hL
          have happ : out.map tokR ++ [tokR (tokAt (ln, cl) t)] = (out ++ [tokAt (ln, cl) t]).map tokR := by rw [List.map_append]; rfl
          refine g_run' T hC true 200 rfl ?_
          rcases hend2 with hz | ⟨x, hx, hwx⟩
          · repeat' first | refine g_go T hC true 400 rfl rfl ?_ | (exfalso; have h2 := of_decide_eq_false h; omega) | (exfalso; have h2 := of_decide_eq_true h; omega) | refine g_cond rfl (fun h => ?_) (fun h => ?_) | refine g_end T hC (by kernel_rfl) ?_ | refine g_splitD (fun h => ?_) (fun h => ?_) | refine g_splitG rfl rfl rfl (fun h => ?_) (fun h => ?_) | refine g_splitP rfl rfl (fun h => ?_) (fun h => ?_) | refine g_outE ?_ | (refine g_slMid hC rfl rfl rfl (by kernel_rfl) (Int.natCast_nonneg _) (by omega) (by omega) rfl rfl ?_) | refine g_call hC (hW1) rfl rfl (LeSs.refl _) rfl rfl rfl ?_ | refine g_lit T hC rfl rfl rfl rfl rfl rfl rfl rfl rfl ?_ | (refine g_append T 102 hC (rows := out.map tokR) (rows2 := [tokR (tokAt (ln, cl) t)]) (rows3 := (out ++ [tokAt (ln, cl) t]).map tokR) (bytes := 48) rfl rfl rfl rfl (SrcS.sl (T.es_ok _ _ rfl)) happ rfl rfl rfl (by kernel_rfl) (by rw [hol, List.length_singleton]; omega) (by rw [hol, List.length_singleton]; omega) rfl rfl rfl ?_)
            refine g_loop (fun z : Nat × Int => z.1 ≤ k ∧ z.2 = cl + z.1) (fun z => ([(0, Sr s), (3, .one (.bx 1003 0)), (5, .one (.ar 102)), (6, .one (.bx 1006 0)), (7, I i), (9, I (k : Nat)), (13, I z.1)], [(1003, some (Res.box [.p (ki 0), .p (ki 0)])), (1006, some (Res.box [.p (ki ln), .p (ki (z.2))])), (102, some (Res.arr 5 ((out ++ [tokAt (ln, cl) t]).map tokR)))])) (fun z => k - z.1) hC
              (0, cl) ⟨by simp only; omega, by simp⟩ id ⟨rfl, ⟨rfl, rfl, rfl, rfl, rfl, rfl, rfl, trivial⟩, ⟨rfl, rfl, rfl, trivial⟩, rfl, fun _ _ => rfl⟩ ?_
            rintro ⟨j, q⟩ ⟨hj, hq⟩
            simp only at hj hq
            refine g_run' T hC true 200 rfl ?_
            refine g_cond rfl (fun hh => ?_) (fun hh => ?_)
            · have hjk : j < k := by have := of_decide_eq_true hh; simp only at this; omega
              clear hh
              obtain ⟨x, hx, hx10⟩ := hnl j hjk
              have w4 := w3 j (by omega)
              have hnn : 0 ≤ IntKind.i64.wrap ((i : Int) + (j : Int)) := by rw [w4]; exact Int.natCast_nonneg _
              have hx' : s[(IntKind.i64.wrap ((i : Int) + (j : Int))).toNat]? = some x := by rw [w4]; exact lst_at hx
              have hM := move_ok (ln, q) x ⟨hln.1, by simp only; omega⟩ ⟨by simp only; omega, by simp only; omega⟩
              rw [mv_no hx10] at hM
              repeat' first | refine g_go T hC true 400 rfl rfl ?_ | refine g_cond rfl (fun h => ?_) (fun h => ?_) | refine g_end T hC (by kernel_rfl) ?_ | refine g_splitD (fun h => ?_) (fun h => ?_) | refine g_splitG rfl rfl rfl (fun h => ?_) (fun h => ?_) | refine g_splitP rfl rfl (fun h => ?_) (fun h => ?_) | refine g_idxS T hC rfl rfl rfl hnn hx' rfl rfl ?_ | refine g_call hC (hM) rfl rfl (LeSs.refl _) rfl rfl rfl ?_
              dsimp only
              rw [wrapS (by omega)]
              exact g_round (j + 1, q + 1) ⟨by simp only; omega, by simp only; omega⟩ id (by simp only; omega) ⟨rfl, ⟨rfl, rfl, rfl, rfl, rfl, rfl, rfl, trivial⟩, ⟨rfl, rfl, rfl, trivial⟩, rfl, fun _ _ => rfl⟩
            · have hjk : j = k := by have := of_decide_eq_false hh; simp only at this; omega
              clear hh
              subst hq
              subst hjk
              repeat' first | refine g_go T hC true 400 rfl rfl ?_ | refine g_cond rfl (fun h => ?_) (fun h => ?_) | refine g_end T hC (by kernel_rfl) ?_ | refine g_splitD (fun h => ?_) (fun h => ?_) | refine g_splitG rfl rfl rfl (fun h => ?_) (fun h => ?_) | refine g_splitP rfl rfl (fun h => ?_) (fun h => ?_) | refine g_outE ?_ | refine g_outR ?_
              dsimp only
              rw [w3 _ (by omega)]
              exact g_round (i + j, (ln, cl + ((j : Nat) : Int)), out ++ [tokAt (ln, cl) t]) ⟨by simp only; omega, ⟨by simp only; omega, by simp only; omega⟩, ⟨by simp only; omega, by simp only; omega⟩, by simp only [List.length_append, List.length_singleton]; omega, hL⟩ (mvU 101 102) (by simp only; omega) ⟨rfl, ⟨rfl, rfl, rfl, rfl, rfl, trivial⟩, ⟨rfl, rfl, rfl, trivial⟩, rfl, fun i hi => mvU_low (by omega) hi⟩
          · have hKx := word_ok x.toNat
            rw [show isWord (x.toNat : Int) = false from hwx] at hKx
            have hxl := (List.getElem?_eq_some_iff.1 hx).1
            have hx' : s[(IntKind.i64.wrap ((i : Int) + (k : Int))).toNat]? = some x := by rw [wk]; exact lst_at hx
            repeat' first | refine g_go T hC true 400 rfl rfl ?_ | (exfalso; simp at h; done) | (exfalso; have h2 := of_decide_eq_false h; omega) | (exfalso; have h2 := of_decide_eq_true h; omega) | refine g_cond rfl (fun h => ?_) (fun h => ?_) | refine g_end T hC (by kernel_rfl) ?_ | refine g_splitD (fun h => ?_) (fun h => ?_) | refine g_splitG rfl rfl rfl (fun h => ?_) (fun h => ?_) | refine g_splitP rfl rfl (fun h => ?_) (fun h => ?_) | refine g_idxS T hC rfl rfl rfl hnn hx' rfl rfl ?_ | refine g_call hC (hKx) rfl rfl (LeSs.refl _) rfl rfl rfl ?_ | refine g_outE ?_ | (refine g_slMid hC rfl rfl rfl (by kernel_rfl) (Int.natCast_nonneg _) (by omega) (by omega) rfl rfl ?_) | refine g_call hC (hW1) rfl rfl (LeSs.refl _) rfl rfl rfl ?_ | refine g_lit T hC rfl rfl rfl rfl rfl rfl rfl rfl rfl ?_ | (refine g_append T 102 hC (rows := out.map tokR) (rows2 := [tokR (tokAt (ln, cl) t)]) (rows3 := (out ++ [tokAt (ln, cl) t]).map tokR) (bytes := 48) rfl rfl rfl rfl (SrcS.sl (T.es_ok _ _ rfl)) happ rfl rfl rfl (by kernel_rfl) (by rw [hol, List.length_singleton]; omega) (by rw [hol, List.length_singleton]; omega) rfl rfl rfl ?_)
            refine g_loop (fun z : Nat × Int => z.1 ≤ k ∧ z.2 = cl + z.1) (fun z => ([(0, Sr s), (3, .one (.bx 1003 0)), (5, .one (.ar 102)), (6, .one (.bx 1006 0)), (7, I i), (9, I (k : Nat)), (13, I z.1)], [(1003, some (Res.box [.p (ki 0), .p (ki 0)])), (1006, some (Res.box [.p (ki ln), .p (ki (z.2))])), (102, some (Res.arr 5 ((out ++ [tokAt (ln, cl) t]).map tokR)))])) (fun z => k - z.1) hC
              (0, cl) ⟨by simp only; omega, by simp⟩ id ⟨rfl, ⟨rfl, rfl, rfl, rfl, rfl, rfl, rfl, trivial⟩, ⟨rfl, rfl, rfl, trivial⟩, rfl, fun _ _ => rfl⟩ ?_
            rintro ⟨j, q⟩ ⟨hj, hq⟩
            simp only at hj hq
            refine g_run' T hC true 200 rfl ?_
            refine g_cond rfl (fun hh => ?_) (fun hh => ?_)
            · have hjk : j < k := by have := of_decide_eq_true hh; simp only at this; omega
              clear hh
              obtain ⟨x, hx, hx10⟩ := hnl j hjk
              have w4 := w3 j (by omega)
              have hnn : 0 ≤ IntKind.i64.wrap ((i : Int) + (j : Int)) := by rw [w4]; exact Int.natCast_nonneg _
              have hx' : s[(IntKind.i64.wrap ((i : Int) + (j : Int))).toNat]? = some x := by rw [w4]; exact lst_at hx
              have hM := move_ok (ln, q) x ⟨hln.1, by simp only; omega⟩ ⟨by simp only; omega, by simp only; omega⟩
              rw [mv_no hx10] at hM
              repeat' first | refine g_go T hC true 400 rfl rfl ?_ | refine g_cond rfl (fun h => ?_) (fun h => ?_) | refine g_end T hC (by kernel_rfl) ?_ | refine g_splitD (fun h => ?_) (fun h => ?_) | refine g_splitG rfl rfl rfl (fun h => ?_) (fun h => ?_) | refine g_splitP rfl rfl (fun h => ?_) (fun h => ?_) | refine g_idxS T hC rfl rfl rfl hnn hx' rfl rfl ?_ | refine g_call hC (hM) rfl rfl (LeSs.refl _) rfl rfl rfl ?_
              dsimp only
              rw [wrapS (by omega)]
              exact g_round (j + 1, q + 1) ⟨by simp only; omega, by simp only; omega⟩ id (by simp only; omega) ⟨rfl, ⟨rfl, rfl, rfl, rfl, rfl, rfl, rfl, trivial⟩, ⟨rfl, rfl, rfl, trivial⟩, rfl, fun _ _ => rfl⟩
            · have hjk : j = k := by have := of_decide_eq_false hh; simp only at this; omega
              clear hh
              subst hq
              subst hjk
              repeat' first | refine g_go T hC true 400 rfl rfl ?_ | refine g_cond rfl (fun h => ?_) (fun h => ?_) | refine g_end T hC (by kernel_rfl) ?_ | refine g_splitD (fun h => ?_) (fun h => ?_) | refine g_splitG rfl rfl rfl (fun h => ?_) (fun h => ?_) | refine g_splitP rfl rfl (fun h => ?_) (fun h => ?_) | refine g_outE ?_ | refine g_outR ?_
              dsimp only
              rw [w3 _ (by omega)]
              exact g_round (i + j, (ln, cl + ((j : Nat) : Int)), out ++ [tokAt (ln, cl) t]) ⟨by simp only; omega, ⟨by simp only; omega, by simp only; omega⟩, ⟨by simp only; omega, by simp only; omega⟩, by simp only [List.length_append, List.length_singleton]; omega, hL⟩ (mvU 101 102) (by simp only; omega) ⟨rfl, ⟨rfl, rfl, rfl, rfl, rfl, trivial⟩, ⟨rfl, rfl, rfl, trivial⟩, rfl, fun i hi => mvU_low (by omega) hi⟩
    | false =>
      rw [show isWord (c.toNat : Int) = false from hw] at hcw
      repeat' first | refine g_go T hC true 400 rfl rfl ?_ | (exfalso; simp at h; done) | (exfalso; have h2 := of_decide_eq_false h; omega) | (exfalso; have h2 := of_decide_eq_true h; omega) | refine g_cond rfl (fun h => ?_) (fun h => ?_) | refine g_end T hC (by kernel_rfl) ?_ | refine g_splitD (fun h => ?_) (fun h => ?_) | refine g_splitG rfl rfl rfl (fun h => ?_) (fun h => ?_) | refine g_splitP rfl rfl (fun h => ?_) (fun h => ?_) | refine g_idxS T hC rfl rfl rfl (Int.natCast_nonneg _) (lst_at hc) rfl rfl ?_ | refine g_call hC (hcw) rfl rfl (LeSs.refl _) rfl rfl rfl ?_
      dsimp only
      have hsx : lst (s.extract ((i : Nat) : Int).toNat s.size) = (lst s).drop i := by rw [Int.toNat_natCast, lst_extract, List.take_of_length_le (by rw [List.length_drop]; omega)]
      have hS := rSymbol_ok (s.extract ((i : Nat) : Int).toNat s.size)
      rw [hsx] at hS
      cases hy : symL ((lst s).drop i) with
      | none =>
        rw [hy] at hS
        have hbad := sym_bad (ln, cl) out hc hbl h35 hw hy
        rw [hbad] at hL
        subst hL
        repeat' first | refine g_go T hC true 400 rfl rfl ?_ | (exfalso; exact absurd h (by decide)) | refine g_cond rfl (fun h => ?_) (fun h => ?_) | refine g_end T hC (by kernel_rfl) ?_ | refine g_splitD (fun h => ?_) (fun h => ?_) | refine g_splitG rfl rfl rfl (fun h => ?_) (fun h => ?_) | refine g_splitP rfl rfl (fun h => ?_) (fun h => ?_) | (refine g_slFrom hC rfl rfl (by kernel_rfl) (Int.natCast_nonneg _) (by omega) rfl rfl ?_) | refine g_call hC (hS) rfl rfl (LeSs.refl _) rfl rfl rfl ?_ | refine g_outR ?_
        exact g_fin ⟨.inl rfl, id, _, rfl, LeS.tup (.cons (LeS.one (.nil 5)) (.cons (.refl _) (.cons (.refl _) .nil))), trivial, rfl, rfl⟩
      | some y =>
        rw [hy] at hS
        have hys := sym_of hy
        have hyz := syms_size y hys.1
        have hyl := isPrefix_len hys.2
        rw [lst_len, List.length_drop] at hyl
        have hyne : y ≠ ⟨#[]⟩ := fun e => by subst e; exact absurd hyz.1 (by decide)
        have hgo := step_sym (ln, cl) out hc hbl h35 hw hy
        rw [hgo] at hL
        have hnl := nl_of (l := lst s) (i := i) (k := y.size) (by omega) (fun b hb => by
          have e : ((lst s).drop i).take y.size = lst y := by
            rw [← lst_len]; exact (List.prefix_iff_eq_take.1 (List.isPrefixOf_iff_prefix.1 hys.2)).symm
          rw [e] at hb
          exact syms_line y hys.1 b hb)
        have happ : out.map tokR ++ [tokR (tokAt (ln, cl) (4, y, 0))] = (out ++ [tokAt (ln, cl) (4, y, 0)]).map tokR := by rw [List.map_append]; rfl
        repeat' first | refine g_go T hC true 400 rfl rfl ?_ | (exfalso; exact hyne (of_decide_eq_true h)) | refine g_cond rfl (fun h => ?_) (fun h => ?_) | refine g_end T hC (by kernel_rfl) ?_ | refine g_splitD (fun h => ?_) (fun h => ?_) | refine g_splitG rfl rfl rfl (fun h => ?_) (fun h => ?_) | refine g_splitP rfl rfl (fun h => ?_) (fun h => ?_) | (refine g_slFrom hC rfl rfl (by kernel_rfl) (Int.natCast_nonneg _) (by omega) rfl rfl ?_) | refine g_call hC (hS) rfl rfl (LeSs.refl _) rfl rfl rfl ?_ | refine g_lit T hC rfl rfl rfl rfl rfl rfl rfl rfl rfl ?_ | (refine g_append T 102 hC (rows := out.map tokR) (rows2 := [tokR (tokAt (ln, cl) (4, y, 0))]) (rows3 := (out ++ [tokAt (ln, cl) (4, y, 0)]).map tokR) (bytes := 48) rfl rfl rfl rfl (SrcS.sl (T.es_ok _ _ rfl)) happ rfl rfl rfl (by kernel_rfl) (by rw [hol, List.length_singleton]; omega) (by rw [hol, List.length_singleton]; omega) rfl rfl rfl ?_)
        refine g_loop (fun z : Nat × Int => z.1 ≤ y.size ∧ z.2 = cl + z.1) (fun z => ([(0, Sr s), (3, .one (.bx 1003 0)), (5, .one (.ar 102)), (6, .one (.bx 1006 0)), (7, I i), (9, I (y.size : Nat)), (13, I z.1)], [(1003, some (Res.box [.p (ki 0), .p (ki 0)])), (1006, some (Res.box [.p (ki ln), .p (ki (z.2))])), (102, some (Res.arr 5 ((out ++ [tokAt (ln, cl) (4, y, 0)]).map tokR)))])) (fun z => y.size - z.1) hC
          (0, cl) ⟨by simp only; omega, by simp⟩ id ⟨rfl, ⟨rfl, rfl, rfl, rfl, rfl, rfl, rfl, trivial⟩, ⟨rfl, rfl, rfl, trivial⟩, rfl, fun _ _ => rfl⟩ ?_
        rintro ⟨j, q⟩ ⟨hj, hq⟩
        simp only at hj hq
        refine g_run' T hC true 200 rfl ?_
        refine g_cond rfl (fun hh => ?_) (fun hh => ?_)
        · have hjk : j < y.size := by have := of_decide_eq_true hh; simp only at this; omega
          clear hh
          obtain ⟨x, hx, hx10⟩ := hnl j hjk
          have w4 := w3 j (by omega)
          have hnn : 0 ≤ IntKind.i64.wrap ((i : Int) + (j : Int)) := by rw [w4]; exact Int.natCast_nonneg _
          have hx' : s[(IntKind.i64.wrap ((i : Int) + (j : Int))).toNat]? = some x := by rw [w4]; exact lst_at hx
          have hM := move_ok (ln, q) x ⟨hln.1, by simp only; omega⟩ ⟨by simp only; omega, by simp only; omega⟩
          rw [mv_no hx10] at hM
          repeat' first | refine g_go T hC true 400 rfl rfl ?_ | refine g_cond rfl (fun h => ?_) (fun h => ?_) | refine g_end T hC (by kernel_rfl) ?_ | refine g_splitD (fun h => ?_) (fun h => ?_) | refine g_splitG rfl rfl rfl (fun h => ?_) (fun h => ?_) | refine g_splitP rfl rfl (fun h => ?_) (fun h => ?_) | refine g_idxS T hC rfl rfl rfl hnn hx' rfl rfl ?_ | refine g_call hC (hM) rfl rfl (LeSs.refl _) rfl rfl rfl ?_
          dsimp only
          rw [wrapS (by omega)]
          exact g_round (j + 1, q + 1) ⟨by simp only; omega, by simp only; omega⟩ id (by simp only; omega) ⟨rfl, ⟨rfl, rfl, rfl, rfl, rfl, rfl, rfl, trivial⟩, ⟨rfl, rfl, rfl, trivial⟩, rfl, fun _ _ => rfl⟩
        · have hjk : j = y.size := by have := of_decide_eq_false hh; simp only at this; omega
          clear hh
          subst hq
          subst hjk
          repeat' first | refine g_go T hC true 400 rfl rfl ?_ | refine g_cond rfl (fun h => ?_) (fun h => ?_) | refine g_end T hC (by kernel_rfl) ?_ | refine g_splitD (fun h => ?_) (fun h => ?_) | refine g_splitG rfl rfl rfl (fun h => ?_) (fun h => ?_) | refine g_splitP rfl rfl (fun h => ?_) (fun h => ?_) | refine g_outE ?_ | refine g_outR ?_
          dsimp only
          rw [w3 _ (by omega)]
          exact g_round (i + y.size, (ln, cl + ((y.size : Nat) : Int)), out ++ [tokAt (ln, cl) (4, y, 0)]) ⟨by simp only; omega, ⟨by simp only; omega, by simp only; omega⟩, ⟨by simp only; omega, by simp only; omega⟩, by simp only [List.length_append, List.length_singleton]; omega, hL⟩ (mvU 101 102) (by simp only; omega) ⟨rfl, ⟨rfl, rfl, rfl, rfl, rfl, trivial⟩, ⟨rfl, rfl, rfl, trivial⟩, rfl, fun i hi => mvU_low (by omega) hi⟩
end Hw.Pa
namespace Hw.Pa
open Go Go.Proofs Go.Shelf Hw.M

def tokSc (t : Tok) : List Sc := [.i .i64 t.k, .s t.t, .i .i64 t.n, .i .i64 t.ln, .i .i64 t.cl]
def aw1 : Str := (⟨#[120, 46, 108, 101, 102, 116, 60, 61, 51, 32, 35, 32, 110, 111]⟩ : ByteArray)
def aw2 : Str := (⟨#[97, 32, 61, 32, 48, 49]⟩ : ByteArray)
def awT : List Tok := [⟨1, (⟨#[120]⟩ : ByteArray), 0, 1, 1⟩, ⟨4, (⟨#[46]⟩ : ByteArray), 0, 1, 2⟩, ⟨1, (⟨#[108, 101, 102, 116]⟩ : ByteArray), 0, 1, 3⟩, ⟨4, (⟨#[60, 61]⟩ : ByteArray), 0, 1, 7⟩, ⟨2, (⟨#[]⟩ : ByteArray), 3, 1, 9⟩, ⟨5, (⟨#[]⟩ : ByteArray), 0, 1, 15⟩]
end Hw.Pa
namespace Hw.Pa
open Go Go.Proofs Go.Shelf Hw.M

def symIn (s : Str) : Bool := syms.any fun x => decide (x = s)
def validF (t : Tok) : Bool := if t.k = 1 then isName t.t && decide (t.n = 0) else if t.k = 3 then isKeyword t.t && decide (t.n = 0) else if t.k = 4 then symIn t.t && decide (t.n = 0) else if t.k = 2 then decide (t.t = (⟨#[]⟩ : ByteArray)) && (decide (0 ≤ t.n) && decide (t.n ≤ 1099511627776)) else if t.k = 5 then decide (t.t = (⟨#[]⟩ : ByteArray)) && decide (t.n = 0) else false
theorem symIn_iff (s : Str) : symIn s = true ↔ s ∈ syms := by
  unfold symIn; rw [List.any_eq_true]
  exact ⟨fun ⟨x, h1, h2⟩ => by have := of_decide_eq_true h2; subst this; exact h1, fun h => ⟨s, h, decide_eq_true rfl⟩⟩
end Hw.Pa
namespace Hw.Pa
open Go Go.Proofs Go.Shelf Hw.M

def ltP (a b : Int × Int) : Prop := a.1 < b.1 ∨ a.1 = b.1 ∧ a.2 < b.2
theorem ltP.trans {a b c : Int × Int} (h : ltP a b) (h2 : ltP b c) : ltP a c := by unfold ltP at *; omega
theorem ltP_mv (p : Int × Int) (c : UInt8) (_hp : 1 ≤ p.2) : ltP p (mv p c) := by
  unfold mv ltP; split
  · left; simp only; omega
  · right; refine ⟨rfl, ?_⟩; simp only; omega
theorem mv_pos {p : Int × Int} (c : UInt8) (h : 1 ≤ p.1 ∧ 1 ≤ p.2) : 1 ≤ (mv p c).1 ∧ 1 ≤ (mv p c).2 := by
  unfold mv; split
  · simp only; omega
  · simp only; omega
theorem mvs_pos : ∀ (l : By) {p : Int × Int}, (1 ≤ p.1 ∧ 1 ≤ p.2) → 1 ≤ (l.foldl mv p).1 ∧ 1 ≤ (l.foldl mv p).2
  | [], _, h => h
  | c :: l, _, h => mvs_pos l (mv_pos c h)
theorem ltP_mvs : ∀ (l : By) {p : Int × Int}, (1 ≤ p.1 ∧ 1 ≤ p.2) → l ≠ [] → ltP p (l.foldl mv p)
  | [], _, _, h => absurd rfl h
  | [c], p, h, _ => ltP_mv p c h.2
  | c :: d :: l, p, h, _ => (ltP_mv p c h.2).trans (ltP_mvs (d :: l) (mv_pos c h) (by simp))
def posT (t : Tok) : Int × Int := (t.ln, t.cl)
structure InvT (out : List Tok) (p : Int × Int) : Prop where
  pos : 1 ≤ p.1 ∧ 1 ≤ p.2
  each : ∀ t ∈ out, validF t = true ∧ t.k ≠ 5 ∧ 1 ≤ t.ln ∧ 1 ≤ t.cl ∧ ltP (posT t) p
  asc : ∀ (i : Nat) x y, out[i]? = some x → out[i + 1]? = some y → ltP (posT x) (posT y)
theorem InvT.move {out : List Tok} {p q : Int × Int} (h : InvT out p) (hq : 1 ≤ q.1 ∧ 1 ≤ q.2) (hl : ltP p q) : InvT out q :=
  ⟨hq, fun t ht => let ⟨a, b, c, d, e⟩ := h.each t ht; ⟨a, b, c, d, e.trans hl⟩, h.asc⟩
theorem InvT.add {out : List Tok} {p q : Int × Int} (h : InvT out p) (hq : 1 ≤ q.1 ∧ 1 ≤ q.2) (hl : ltP p q) {t : Tok} (hv : validF t = true) (h5 : t.k ≠ 5) (ht : posT t = p) : InvT (out ++ [t]) q := by
  refine ⟨hq, fun u hu => ?_, fun i x y hx hy => ?_⟩
  · rcases List.mem_append.1 hu with hu | hu
    · exact (h.move hq hl).each u hu
    · obtain rfl := List.mem_singleton.1 hu
      have e1 : u.ln = p.1 := congrArg Prod.fst ht
      have e2 : u.cl = p.2 := congrArg Prod.snd ht
      exact ⟨hv, h5, by rw [e1]; exact h.pos.1, by rw [e2]; exact h.pos.2, by rw [ht]; exact hl⟩
  · have hlen := (List.getElem?_eq_some_iff.1 hy).1
    simp only [List.length_append, List.length_singleton] at hlen
    rw [List.getElem?_append_left (by omega)] at hx
    rcases Nat.lt_or_ge (i + 1) out.length with h1 | h1
    · rw [List.getElem?_append_left h1] at hy
      exact h.asc i x y hx hy
    · rw [List.getElem?_append_right h1, show i + 1 - out.length = 0 by omega] at hy
      simp only [List.getElem?_cons_zero, Option.some.injEq] at hy
      subst hy
      rw [ht]
      exact (h.each x (List.mem_of_getElem? hx)).2.2.2.2
theorem clsT_valid {w : By} {t : Int × Str × Int} (h : clsT w = some t) (p : Int × Int) : validF (tokAt p t) = true ∧ (tokAt p t).k ≠ 5 := by
  unfold clsT at h
  split at h
  · rename_i hk
    simp only [Option.some.injEq] at h
    subst h
    refine ⟨?_, by show (3 : Int) ≠ 5; decide⟩
    unfold validF tokAt
    simp [hk]
  · split at h
    · rename_i hk
      simp only [Option.some.injEq] at h
      subst h
      refine ⟨?_, by show (1 : Int) ≠ 5; decide⟩
      unfold validF tokAt
      simp [hk]
    · split at h
      · rename_i hn
        simp only [Option.some.injEq] at h
        subst h
        refine ⟨?_, by show (2 : Int) ≠ 5; decide⟩
        unfold numOk at hn
        simp only [Bool.and_eq_true, decide_eq_true_eq] at hn
        have h0 := numV_ge hn.1.2
        unfold validF tokAt
        simp only
        simp [h0, hn.2]
      · cases h
theorem tk_valid {l : By} {n : Nat} {t : Int × Str × Int} (h : tk l = some (n, some t)) (p : Int × Int) : validF (tokAt p t) = true ∧ (tokAt p t).k ≠ 5 := by
  cases l with
  | nil => cases h
  | cons c r =>
    simp only [tk] at h
    split at h
    · simp at h
    · split at h
      · simp at h
      · split at h
        · rw [Option.map_eq_some_iff] at h
          obtain ⟨u, hu, h⟩ := h
          simp only [Prod.mk.injEq, Option.some.injEq] at h
          rw [← h.2]
          exact clsT_valid hu p
        · rw [Option.map_eq_some_iff] at h
          obtain ⟨y, hy, h⟩ := h
          simp only [Prod.mk.injEq, Option.some.injEq] at h
          rw [← h.2]
          refine ⟨?_, by show (4 : Int) ≠ 5; decide⟩
          have := (symIn_iff y).2 (sym_of hy).1
          unfold validF tokAt
          simp [this]
theorem lx_inv : ∀ (f : Nat) (l : By) (p : Int × Int) (out : List Tok), l.length < f → InvT out p →
    (∃ o q, lx f l p out = (o ++ [⟨5, (⟨#[]⟩ : ByteArray), 0, q.1, q.2⟩], (0, 0), 0) ∧ InvT o q ∧ o.length ≤ out.length + l.length) ∨ ∃ q, lx f l p out = ([], q, 7)
  | 0, l, _, _, h, _ => absurd h (Nat.not_lt_zero _)
  | f + 1, [], p, out, _, h => .inl ⟨out, p, rfl, h, by simp⟩
  | f + 1, c :: r, p, out, hf, h => by
    simp only [lx]
    cases e : tk (c :: r) with
    | none => exact .inr ⟨p, rfl⟩
    | some x =>
      obtain ⟨n, o⟩ := x
      have hp := tk_pos e
      simp only [List.length_cons] at hf hp
      have hd : ((c :: r).drop n).length = r.length + 1 - n := by rw [List.length_drop, List.length_cons]
      have hne : (c :: r).take n ≠ [] := fun e => by have := congrArg List.length e; simp at this; omega
      have hq := mvs_pos ((c :: r).take n) h.pos
      have hl := ltP_mvs ((c :: r).take n) h.pos hne
      simp only
      cases o with
      | none =>
        rw [show out ++ ((none : Option (Int × Str × Int)).map (tokAt p)).toList = out by simp]
        rcases lx_inv f ((c :: r).drop n) (((c :: r).take n).foldl mv p) out (by omega) (h.move hq hl) with ⟨o', q, e1, e2, e3⟩ | h2
        · exact .inl ⟨o', q, e1, e2, by simp only [List.length_cons]; omega⟩
        · exact .inr h2
      | some t =>
        have hv := tk_valid e p
        rw [show out ++ ((some t).map (tokAt p)).toList = out ++ [tokAt p t] by simp]
        rcases lx_inv f ((c :: r).drop n) (((c :: r).take n).foldl mv p) (out ++ [tokAt p t]) (by omega) (h.add hq hl hv.1 hv.2 rfl) with ⟨o', q, e1, e2, e3⟩ | h2
        · refine .inl ⟨o', q, e1, e2, ?_⟩
          simp only [List.length_append, List.length_cons, List.length_nil] at e3 ⊢; omega
        · exact .inr h2
theorem tokens_cases (s : Str) (hs : s.size ≤ 65536) : (∃ o q, tokensS s = (o ++ [⟨5, (⟨#[]⟩ : ByteArray), 0, q.1, q.2⟩], (0, 0), 0) ∧ InvT o q ∧ o.length ≤ s.size) ∨ ∃ q, tokensS s = ([], q, 7) := by
  unfold tokensS
  rw [if_neg (by omega)]
  rcases lx_inv ((lst s).length + 1) (lst s) (1, 1) [] (Nat.lt_succ_self _) ⟨⟨by decide, by decide⟩, (fun t ht => by cases ht), (fun i x y hx => by cases hx)⟩ with ⟨o, q, e1, e2, e3⟩ | h
  · exact .inl ⟨o, q, e1, e2, by rw [lst_len] at e3; simpa using e3⟩
  · exact .inr h
theorem valid_num {t : Tok} (h : validF t = true) : 0 ≤ t.n ∧ t.n ≤ 1099511627776 := by
  unfold validF at h
  repeat' (split at h)
  all_goals first
    | (simp only [Bool.and_eq_true, decide_eq_true_eq] at h; omega)
    | cases h
theorem tok_good {o : List Tok} {q : Int × Int} (h : InvT o q) (hl : o.length ≤ 65536) : GoodL (o ++ [⟨5, (⟨#[]⟩ : ByteArray), 0, q.1, q.2⟩]) := by
  refine ⟨by rw [List.length_append, List.length_singleton]; omega, ⟨_, by rw [List.length_append, List.length_singleton, Nat.add_sub_cancel, List.getElem?_append_right (Nat.le_refl _), Nat.sub_self]; rfl, rfl⟩, fun t ht => ?_⟩
  rcases List.mem_append.1 ht with h1 | h1
  · exact valid_num (h.each t h1).1
  · obtain rfl := List.mem_singleton.1 h1
    exact ⟨Int.le_refl _, by show (0 : Int) ≤ 1099511627776; decide⟩
theorem tokens_good (s : Str) : (∃ l, tokensS s = (l, (0, 0), 0) ∧ GoodL l ∧ l.length ≤ s.size + 1) ∨ ∃ q e, tokensS s = ([], q, e) ∧ (e = 7 ∨ e = 4) := by
  by_cases hs : s.size ≤ 65536
  · rcases tokens_cases s hs with ⟨o, q, h1, h2, h3⟩ | ⟨q, h1⟩
    · exact .inl ⟨_, h1, tok_good h2 (by omega), by rw [List.length_append, List.length_singleton]; omega⟩
    · exact .inr ⟨q, 7, h1, .inl rfl⟩
  · exact .inr ⟨(0, 0), 4, by unfold tokensS; rw [if_pos (by omega)], .inr rfl⟩
end Hw.Pa
namespace Hw.Pa
open Go Go.Proofs Hw.M

abbrev posS (p : Int × Int) : S := aggS [ki p.1, ki p.2]
def topT (l : List Tok) : Ex × (Int × Int) × Int := match exprA l (10 * l.length + 13) 0 0 with
  | .ok x j => match l[j]? with
    | some t => if t.k = 5 then if exprOk x = true then (x, (0, 0), 0) else (E0, (0, 0), 4) else (E0, (t.ln, t.cl), 7)
    | none => (E0, (0, 0), 0)
  | .no j => match l[j]? with
    | some t => (E0, (t.ln, t.cl), if t.k = 5 then 8 else 7)
    | none => (E0, (0, 0), 0)
  | .out => (E0, (0, 0), 0)
def exprTop (s : Str) : Ex × (Int × Int) × Int := if (tokensS s).2.2 = 0 then topT (tokensS s).1 else (E0, (tokensS s).2.1, (tokensS s).2.2)
section
variable {l : List Tok} (hl : GoodL l)
include hl
theorem pend_ok {i : Nat} {t : Tok} (ht : l[i]? = some t) (b : Bool) : FnOK Tryz.prog 29 [rdV] [(0, rdR l i b)] (.tup [posS (if b = false ∧ t.k = 5 then (0, 0) else (t.ln, t.cl)), I (if t.k = 5 then if b then 8 else 0 else 7)]) [(0, rdR l i b)] := by
  have hll := hl.len
  have hi := (List.getElem?_eq_some_iff.1 ht).1
  obtain ⟨tk, ts, tn, tl, tc⟩ := t
  simp only
  by_cases hk : tk = 5
  · subst hk
    cases b with
    | true =>
      refine fn_ok T Tryz.func29 (by kernel_rfl) rfl rfl rfl rfl fun C hC => ?_
      repeat' first | refine g_go T hC true 400 rfl rfl ?_ | (exfalso; simp at h; done) | refine g_cond rfl (fun h => ?_) (fun h => ?_) | refine g_end T hC (by kernel_rfl) ?_ | refine g_splitD (fun h => ?_) (fun h => ?_) | refine g_splitG rfl rfl rfl (fun h => ?_) (fun h => ?_) | refine g_splitP rfl rfl (fun h => ?_) (fun h => ?_) | refine g_idx T hC rfl rfl rfl (Int.natCast_nonneg _) (map_at ht) rfl rfl ?_ | refine g_retl T (.inl rfl) rfl ?_
      exact g_fin ⟨.inl rfl, id, _, rfl, .refl _, ⟨rfl, trivial⟩, rfl, rfl⟩
    | false =>
      refine fn_ok T Tryz.func29 (by kernel_rfl) rfl rfl rfl rfl fun C hC => ?_
      repeat' first | refine g_go T hC true 400 rfl rfl ?_ | (exfalso; simp at h; done) | refine g_cond rfl (fun h => ?_) (fun h => ?_) | refine g_end T hC (by kernel_rfl) ?_ | refine g_splitD (fun h => ?_) (fun h => ?_) | refine g_splitG rfl rfl rfl (fun h => ?_) (fun h => ?_) | refine g_splitP rfl rfl (fun h => ?_) (fun h => ?_) | refine g_idx T hC rfl rfl rfl (Int.natCast_nonneg _) (map_at ht) rfl rfl ?_ | refine g_retl T (.inl rfl) rfl ?_
      exact g_fin ⟨.inl rfl, id, _, rfl, .refl _, ⟨rfl, trivial⟩, rfl, rfl⟩
  · simp only [hk, and_false, if_false]
    cases b with
    | true =>
      refine fn_ok T Tryz.func29 (by kernel_rfl) rfl rfl rfl rfl fun C hC => ?_
      repeat' first | refine g_go T hC true 400 rfl rfl ?_ | (exfalso; exact absurd (of_decide_eq_true h) hk) | refine g_cond rfl (fun h => ?_) (fun h => ?_) | refine g_end T hC (by kernel_rfl) ?_ | refine g_splitD (fun h => ?_) (fun h => ?_) | refine g_splitG rfl rfl rfl (fun h => ?_) (fun h => ?_) | refine g_splitP rfl rfl (fun h => ?_) (fun h => ?_) | refine g_idx T hC rfl rfl rfl (Int.natCast_nonneg _) (map_at ht) rfl rfl ?_ | refine g_retl T (.inl rfl) rfl ?_
      exact g_fin ⟨.inl rfl, id, _, rfl, .refl _, ⟨rfl, trivial⟩, rfl, rfl⟩
    | false =>
      refine fn_ok T Tryz.func29 (by kernel_rfl) rfl rfl rfl rfl fun C hC => ?_
      repeat' first | refine g_go T hC true 400 rfl rfl ?_ | (exfalso; exact absurd (of_decide_eq_true h) hk) | refine g_cond rfl (fun h => ?_) (fun h => ?_) | refine g_end T hC (by kernel_rfl) ?_ | refine g_splitD (fun h => ?_) (fun h => ?_) | refine g_splitG rfl rfl rfl (fun h => ?_) (fun h => ?_) | refine g_splitP rfl rfl (fun h => ?_) (fun h => ?_) | refine g_idx T hC rfl rfl rfl (Int.natCast_nonneg _) (map_at ht) rfl rfl ?_ | refine g_retl T (.inl rfl) rfl ?_
      exact g_fin ⟨.inl rfl, id, _, rfl, .refl _, ⟨rfl, trivial⟩, rfl, rfl⟩
end
theorem le3b {p q e : Int} : LeS (.tup [.agg [.p (ki 0), .p (ki 0), .p (ks (⟨#[]⟩ : ByteArray)), .p (.k (.slice none 0 0))], posS (p, q), I e]) (.tup [enE E0, posS (p, q), I e]) := .tup (.cons le_e0 (.cons (.refl _) (.cons (.refl _) .nil)))
theorem parserExpr_ok (s : Str) (hs : s.size ≤ 1000000) : FnOK Tryz.prog 13 [Sr s] [] (.tup [enE (exprTop s).1, posS (exprTop s).2.1, I (exprTop s).2.2]) [] := by
  have hT := lexTokens_ok s hs
  unfold exprTop
  rcases tokens_good s with ⟨l, he, hl, _⟩ | ⟨⟨q1, q2⟩, e, he, h74⟩
  · rw [he] at hT ⊢
    simp only [if_true] at hT ⊢
    have h0 : 0 < l.length := by
      obtain ⟨t, ht, _⟩ := hl.fin
      have := (List.getElem?_eq_some_iff.1 ht).1
      omega
    unfold topT
    have hout := (expr_fuel (l := l) (10 * l.length + 13)).1 0 0 (by decide) (by omega)
    have hJ := (er_expr (l := l) (10 * l.length + 13)).1 0 0
    cases hx : exprJ l (10 * l.length + 13) 0 0 with
    | none => rw [hx] at hJ; exact absurd hJ.symm hout
    | some q =>
      obtain ⟨x, j, b⟩ := q
      obtain ⟨hj, hE⟩ := pwhole_ok hl (ex_all hl _) 0 h0 _ _ _ hx
      obtain ⟨t, ht⟩ := exists_at hj
      have hEnd := pend_ok hl ht b
      rw [hx] at hJ
      cases b with
      | true =>
        have hA : exprA l (10 * l.length + 13) 0 0 = .no j := hJ.symm
        rw [hA]
        simp only [ht]
        simp only [reduceCtorEq, false_and, if_false, if_true] at hEnd
        by_cases h5 : t.k = 5
        · simp only [h5, if_true] at hEnd ⊢
          refine fn_ok T Tryz.func13 (by kernel_rfl) rfl rfl rfl rfl fun C hC => ?_
          repeat' first | refine g_go T hC true 400 rfl rfl ?_ | (exfalso; simp at h; done) | refine g_cond rfl (fun h => ?_) (fun h => ?_) | refine g_end T hC (by kernel_rfl) ?_ | refine g_splitD (fun h => ?_) (fun h => ?_) | refine g_call hC (hT) rfl rfl (LeSs.refl _) rfl rfl rfl ?_ | refine g_callR hC (hE) (nm [1025]) rfl rfl (LeSs.refl _) rfl rfl rfl rfl rfl rfl rfl rfl ?_ | refine g_callR hC (hEnd) (nm [1025]) rfl rfl (LeSs.refl _) rfl rfl rfl rfl rfl rfl rfl rfl ?_ | refine g_retl T (.inl rfl) rfl ?_
          exact g_fin ⟨.inl rfl, id, _, rfl, le3b, trivial, rfl, rfl⟩
        · simp only [h5, if_false] at hEnd ⊢
          refine fn_ok T Tryz.func13 (by kernel_rfl) rfl rfl rfl rfl fun C hC => ?_
          repeat' first | refine g_go T hC true 400 rfl rfl ?_ | (exfalso; simp at h; done) | refine g_cond rfl (fun h => ?_) (fun h => ?_) | refine g_end T hC (by kernel_rfl) ?_ | refine g_splitD (fun h => ?_) (fun h => ?_) | refine g_call hC (hT) rfl rfl (LeSs.refl _) rfl rfl rfl ?_ | refine g_callR hC (hE) (nm [1025]) rfl rfl (LeSs.refl _) rfl rfl rfl rfl rfl rfl rfl rfl ?_ | refine g_callR hC (hEnd) (nm [1025]) rfl rfl (LeSs.refl _) rfl rfl rfl rfl rfl rfl rfl rfl ?_ | refine g_retl T (.inl rfl) rfl ?_
          exact g_fin ⟨.inl rfl, id, _, rfl, le3b, trivial, rfl, rfl⟩
      | false =>
        have hA : exprA l (10 * l.length + 13) 0 0 = .ok x j := hJ.symm
        rw [hA]
        simp only [ht]
        have hV := validExpr_ok x
        by_cases h5 : t.k = 5
        · simp only [h5, and_self, if_true, Bool.false_eq_true, if_false] at hEnd ⊢
          by_cases hv : exprOk x = true
          · rw [if_pos hv]
            rw [hv] at hV
            refine fn_ok T Tryz.func13 (by kernel_rfl) rfl rfl rfl rfl fun C hC => ?_
            repeat' first | refine g_go T hC true 400 rfl rfl ?_ | (exfalso; simp at h; done) | refine g_cond rfl (fun h => ?_) (fun h => ?_) | refine g_end T hC (by kernel_rfl) ?_ | refine g_splitD (fun h => ?_) (fun h => ?_) | refine g_call hC (hT) rfl rfl (LeSs.refl _) rfl rfl rfl ?_ | refine g_callR hC (hE) (nm [1025]) rfl rfl (LeSs.refl _) rfl rfl rfl rfl rfl rfl rfl rfl ?_ | refine g_callR hC (hEnd) (nm [1025]) rfl rfl (LeSs.refl _) rfl rfl rfl rfl rfl rfl rfl rfl ?_ | refine g_call hC (hV) rfl rfl (LeSs.refl _) rfl rfl rfl ?_ | refine g_retl T (.inl rfl) rfl ?_
            exact g_fin ⟨.inl rfl, id, _, rfl, .refl _, trivial, rfl, rfl⟩
          · rw [if_neg hv]
            rw [Bool.not_eq_true] at hv
            rw [hv] at hV
            refine fn_ok T Tryz.func13 (by kernel_rfl) rfl rfl rfl rfl fun C hC => ?_
            repeat' first | refine g_go T hC true 400 rfl rfl ?_ | (exfalso; simp at h; done) | refine g_cond rfl (fun h => ?_) (fun h => ?_) | refine g_end T hC (by kernel_rfl) ?_ | refine g_splitD (fun h => ?_) (fun h => ?_) | refine g_call hC (hT) rfl rfl (LeSs.refl _) rfl rfl rfl ?_ | refine g_callR hC (hE) (nm [1025]) rfl rfl (LeSs.refl _) rfl rfl rfl rfl rfl rfl rfl rfl ?_ | refine g_callR hC (hEnd) (nm [1025]) rfl rfl (LeSs.refl _) rfl rfl rfl rfl rfl rfl rfl rfl ?_ | refine g_call hC (hV) rfl rfl (LeSs.refl _) rfl rfl rfl ?_ | refine g_retl T (.inl rfl) rfl ?_
            exact g_fin ⟨.inl rfl, id, _, rfl, le3b, trivial, rfl, rfl⟩
        · simp only [h5, and_false, if_false] at hEnd ⊢
          refine fn_ok T Tryz.func13 (by kernel_rfl) rfl rfl rfl rfl fun C hC => ?_
          repeat' first | refine g_go T hC true 400 rfl rfl ?_ | (exfalso; simp at h; done) | refine g_cond rfl (fun h => ?_) (fun h => ?_) | refine g_end T hC (by kernel_rfl) ?_ | refine g_splitD (fun h => ?_) (fun h => ?_) | refine g_call hC (hT) rfl rfl (LeSs.refl _) rfl rfl rfl ?_ | refine g_callR hC (hE) (nm [1025]) rfl rfl (LeSs.refl _) rfl rfl rfl rfl rfl rfl rfl rfl ?_ | refine g_callR hC (hEnd) (nm [1025]) rfl rfl (LeSs.refl _) rfl rfl rfl rfl rfl rfl rfl rfl ?_ | refine g_retl T (.inl rfl) rfl ?_
          exact g_fin ⟨.inl rfl, id, _, rfl, le3b, trivial, rfl, rfl⟩
  · rw [he] at hT ⊢
    simp only at hT ⊢
    have h0 : ¬ e = 0 := by omega
    rw [if_neg h0]
    refine fn_ok T Tryz.func13 (by kernel_rfl) rfl rfl rfl rfl fun C hC => ?_
    repeat' first | refine g_go T hC true 400 rfl rfl ?_ | (exfalso; exact absurd (by simpa using h) h0) | refine g_cond rfl (fun h => ?_) (fun h => ?_) | refine g_end T hC (by kernel_rfl) ?_ | refine g_splitD (fun h => ?_) (fun h => ?_) | refine g_call hC (hT) rfl rfl (LeSs.refl _) rfl rfl rfl ?_ | refine g_retl T (.inl rfl) rfl ?_
    exact g_fin ⟨.inl rfl, id, _, rfl, le3b, trivial, rfl, rfl⟩
end Hw.Pa
namespace Hw.Pa
open Go Go.Proofs Hw.M

theorem rwrong_ok (t : Tok) : FnOK Tryz.prog 33 [aggS (tokR t)] [] (.tup [posS (t.ln, t.cl), I (if t.k = 5 then 8 else 7)]) [] := by
  obtain ⟨tk, ts, tn, tl, tc⟩ := t
  simp only
  by_cases hk : tk = 5
  · subst hk
    refine fn_ok T Tryz.func33 (by kernel_rfl) rfl rfl rfl rfl fun C hC => ?_
    repeat' first | refine g_go T hC true 400 rfl rfl ?_ | (exfalso; simp at h; done) | refine g_cond rfl (fun h => ?_) (fun h => ?_) | refine g_retl T (.inl rfl) rfl ?_
    exact g_fin ⟨.inl rfl, id, _, rfl, .refl _, trivial, rfl, rfl⟩
  · rw [if_neg hk]
    refine fn_ok T Tryz.func33 (by kernel_rfl) rfl rfl rfl rfl fun C hC => ?_
    repeat' first | refine g_go T hC true 400 rfl rfl ?_ | (exfalso; exact absurd (of_decide_eq_true h) hk) | refine g_cond rfl (fun h => ?_) (fun h => ?_) | refine g_retl T (.inl rfl) rfl ?_
    exact g_fin ⟨.inl rfl, id, _, rfl, .refl _, trivial, rfl, rfl⟩
end Hw.Pa
namespace Hw.Pa
open Go Go.Proofs Hw.M

def F5 (x : Ex) : Prop := x.op = 5 → ∃ y, x.l = [y]
theorem F5.of {op n : Int} {s : Str} {l : List Ex} (h : op ≠ 5) : F5 (.mk op n s l) := fun e => absurd e h
theorem F5.one {op n : Int} {s : Str} {y : Ex} : F5 (.mk op n s [y]) := fun _ => ⟨y, rfl⟩
theorem opA_big {l : List Tok} {i n : Nat} {op : Int} (h : opA l i n = some op) : 9 ≤ op := by
  unfold opA at h
  rw [Option.map_eq_some_iff] at h
  obtain ⟨a, h1, rfl⟩ := h
  have hm := List.mem_of_find?_eq_some h1
  have : ∀ n, ∀ a ∈ opsA n, 9 ≤ a.2 := by
    intro n
    by_cases h : n < 6
    · have : n = 0 ∨ n = 1 ∨ n = 2 ∨ n = 3 ∨ n = 4 ∨ n = 5 := by omega
      rcases this with rfl | rfl | rfl | rfl | rfl | rfl <;> decide
    · have : opsA n = [] := by unfold opsA; split <;> first | omega | rfl
      rw [this]; simp
  exact this n a hm
section
variable {l : List Tok}
theorem five : ∀ f : Nat, (∀ n i x j, exprA l f n i = .ok x j → F5 x) ∧ (∀ n y i x j, F5 y → moreA l f n y i = .ok x j → F5 x) ∧ (∀ i x j, postA l f i = .ok x j → F5 x) ∧ (∀ y i x j, F5 y → dotsA l f y i = .ok x j → F5 x) ∧ (∀ i x j, primA l f i = .ok x j → F5 x) := by
  intro f
  induction f with
  | zero =>
    refine ⟨fun n i x j h => ?_, fun n y i x j _ h => ?_, fun i x j h => ?_, fun y i x j _ h => ?_, fun i x j h => ?_⟩
    all_goals simp only [exprA, moreA, postA, dotsA, primA, reduceCtorEq] at h
  | succ f ih =>
    obtain ⟨iE, iM, iP, iD, iR⟩ := ih
    refine ⟨fun n i x j h => ?_, fun n y i x j hy h => ?_, fun i x j h => ?_, fun y i x j hy h => ?_, fun i x j h => ?_⟩
    · unfold exprA at h
      split at h
      · split at h
        · obtain ⟨y, k, h1, h⟩ := bind_ok h
          cases h; exact .one
        · exact iE _ _ _ _ h
      · split at h
        · split at h
          · obtain ⟨y, k, h1, h⟩ := bind_ok h
            cases h; exact .one
          · exact iP _ _ _ h
        · obtain ⟨y, k, h1, h⟩ := bind_ok h
          exact iM _ _ _ _ _ (iE _ _ _ _ h1) h
    · unfold moreA at h
      split at h
      · cases h; exact hy
      · rename_i op ho
        have hb := opA_big ho
        obtain ⟨z, k, h1, h⟩ := bind_ok h
        split at h
        · cases h; exact .of (by omega)
        · exact iM _ _ _ _ _ (.of (by omega)) h
    · unfold postA at h
      obtain ⟨y, k, h1, h⟩ := bind_ok h
      exact iD _ _ _ _ (iR _ _ _ h1) h
    · unfold dotsA at h
      split at h
      · obtain ⟨s, k, h1, h⟩ := bind_ok h
        exact iD _ _ _ _ .one h
      · cases h; exact hy
    · unfold primA at h
      cases hl : l[i]? with
      | none => rw [hl] at h; cases h
      | some t =>
      rw [hl] at h
      simp only at h
      rcases ite_ok h with ⟨_, h⟩ | ⟨_, h⟩
      · cases h; exact .of (by decide)
      rcases ite_ok h with ⟨_, h⟩ | ⟨_, h⟩
      · rcases ite_ok h with ⟨_, h⟩ | ⟨_, h⟩
        · obtain ⟨a, k, h1, h⟩ := bind_ok h; cases h; exact .of (by decide)
        · cases h; exact .of (by decide)
      rcases ite_ok h with ⟨_, h⟩ | ⟨_, h⟩
      · cases h; exact .of (by decide)
      rcases ite_ok h with ⟨_, h⟩ | ⟨_, h⟩
      · cases h; exact .of (by decide)
      rcases ite_ok h with ⟨_, h⟩ | ⟨_, h⟩
      · cases h; exact .of (by decide)
      rcases ite_ok h with ⟨_, h⟩ | ⟨_, h⟩
      · cases h; exact .of (by decide)
      rcases ite_ok h with ⟨_, h⟩ | ⟨_, h⟩
      · obtain ⟨a, k, h1, h⟩ := bind_ok h; cases h; exact .of (by decide)
      rcases ite_ok h with ⟨_, h⟩ | ⟨_, h⟩
      · obtain ⟨a, k, h1, h⟩ := bind_ok h; cases h; exact .of (by decide)
      rcases ite_ok h with ⟨_, h⟩ | ⟨_, h⟩
      · obtain ⟨a, k, h1, h⟩ := bind_ok h; cases h; exact .of (by decide)
      rcases ite_ok h with ⟨_, h⟩ | ⟨_, h⟩
      · obtain ⟨a, k, h1, h⟩ := bind_ok h; cases h; exact .of (by decide)
      rcases ite_ok h with ⟨_, h⟩ | ⟨_, h⟩
      · obtain ⟨a, k, h1, h⟩ := bind_ok h; cases h; exact .of (by decide)
      rcases ite_ok h with ⟨_, h⟩ | ⟨_, h⟩
      · obtain ⟨a, k, h1, h⟩ := bind_ok h; obtain ⟨u, k2, h2, h⟩ := bind_ok h; cases h; exact iE _ _ _ _ h1
      · cases h
theorem post_five {f i : Nat} {x : Ex} {j : Nat} (h : postJ l f i = some (x, j, false)) : F5 x := by
  have := ok_er h
  rw [(er_expr f).2.2.1] at this
  exact (five f).2.2.1 _ _ _ this
end
end Hw.Pa
namespace Hw.Pa
open Go Go.Proofs Hw.M

section
variable {l : List Tok} (hl : GoodL l)
include hl
set_option maxHeartbeats 2000000 in
theorem pstmt_post (f i : Nat) (hi : i < l.length) (h1 : ¬ isA l i (⟨#[105, 102]⟩ : ByteArray) = true) (h2 : ¬ isA l i (⟨#[119, 104, 105, 108, 101]⟩ : ByteArray) = true) (h3 : ¬ isA l i (⟨#[114, 101, 116, 117, 114, 110]⟩ : ByteArray) = true) {xf : Sm} {jf : Nat} {bf : Bool}
    (hR : PJ.go (postJ l f i) (fun x i =>
      if isA l i (⟨#[61]⟩ : ByteArray) = true ∧ x.op = 4 ∧ x.s ≠ (⟨#[116, 104, 105, 115]⟩ : ByteArray) then PJ.go (exprJ l f 0 (i + 1)) (fun y i => PJ.go (oneJ l (⟨#[59]⟩ : ByteArray) i) (fun _ i => .ok (.mk 1 x.s [y] [] []) i) (fun _ => .mk 1 x.s [y] [] [])) (fun y => .mk 1 x.s [y] [] [])
      else if isA l i (⟨#[61]⟩ : ByteArray) = true ∧ x.op = 5 then PJ.go (exprJ l f 0 (i + 1)) (fun y i => PJ.go (oneJ l (⟨#[59]⟩ : ByteArray) i) (fun _ i => .ok (.mk 2 x.s (x.l.take 1 ++ [y]) [] []) i) (fun _ => .mk 2 x.s (x.l.take 1 ++ [y]) [] [])) (fun y => .mk 2 x.s (x.l.take 1 ++ [y]) [] [])
      else if x.op = 7 then PJ.go (oneJ l (⟨#[59]⟩ : ByteArray) i) (fun _ i => .ok (.mk 6 (⟨#[]⟩ : ByteArray) [x] [] []) i) (fun _ => .mk 6 (⟨#[]⟩ : ByteArray) [x] [] [])
      else .no (.mk 6 (⟨#[]⟩ : ByteArray) [x] [] []) i) (fun x => .mk 6 (⟨#[]⟩ : ByteArray) [x] [] []) = some (xf, jf, bf)) :
    FnOK Tryz.prog 143 [rdV] [(0, rdR l i false)] (aggS (stmtC xf)) [(0, rdR l jf bf)] := by
  have hll := hl.len
  have hX := ex_all hl f
  obtain ⟨x, k, b, hx, hg, hb⟩ := go_key hR
  obtain ⟨hk, hP⟩ := hX.post i hi _ _ _ hx
  cases b with
  | true =>
    obtain ⟨rfl, rfl, rfl⟩ := hb rfl
    obtain ⟨op, n, s, L⟩ := x
    refine fn_ok T Tryz.func143 (by kernel_rfl) rfl rfl rfl rfl fun C hC => ?_
    repeat' first | refine g_go T hC true 400 rfl rfl ?_ | (exfalso; simp at h; done) | refine g_cond rfl (fun h => ?_) (fun h => ?_) | refine g_end T hC (by kernel_rfl) ?_ | refine g_splitD (fun h => ?_) (fun h => ?_) | refine g_splitG rfl rfl rfl (fun h => ?_) (fun h => ?_) | refine g_splitP rfl rfl (fun h => ?_) (fun h => ?_) | refine g_callR hC ((pskip_n hl hi (by assumption))) (nm [0]) rfl rfl (LeSs.refl _) rfl rfl rfl rfl rfl rfl rfl rfl ?_ | refine g_callR hC (hP) (nm [0]) rfl rfl (LeSs.refl _) rfl rfl rfl rfl rfl rfl rfl rfl ?_ | refine g_lit T hC (rows := [exprR (.mk op n s L)]) rfl rfl rfl (by simp only [exprR_eq]; rfl) rfl rfl rfl rfl rfl ?_ | refine g_callR hC ((pskip_bad hl _ hk _)) (nm [0]) rfl rfl (LeSs.refl _) rfl rfl rfl rfl rfl rfl rfl rfl ?_ | refine g_callR hC ((ptake_bad hl _ hk _)) (nm [0]) rfl rfl (LeSs.refl _) rfl rfl rfl rfl rfl rfl rfl rfl ?_ | refine g_retl T (.inl rfl) rfl ?_
    all_goals (exact g_fin ⟨.inl rfl, id, _, rfl, .agg (.cons (.refl _) (.cons (.refl _) (.cons (.refl _) (.cons (.nil 5) (.cons (.nil 5) .nil))))), ⟨rfl, trivial⟩, rfl, rfl⟩)
  | false =>
    have h5 := post_five hx
    have hd := hg rfl
    clear hg hb hR hx
    obtain ⟨op, n, s, L⟩ := x
    simp only [Ex.op, Ex.s, Ex.l] at hd
    simp only [F5, Ex.op, Ex.l] at h5
    by_cases h4 : op = 4
    · subst h4
      simp only [true_and, reduceCtorEq, and_false, if_false, show ¬ ((4 : Int) = 5) by decide, show ¬ ((4 : Int) = 7) by decide] at hd
      by_cases ht : s = (⟨#[116, 104, 105, 115]⟩ : ByteArray)
      · simp only [ht, ne_eq, not_true_eq_false, and_false, if_false] at hd
        subst ht
        have hd' : xf = .mk 6 (⟨#[]⟩ : ByteArray) [.mk 4 n (⟨#[116, 104, 105, 115]⟩ : ByteArray) L] [] [] ∧ jf = k ∧ bf = true := by cases hd; exact ⟨rfl, rfl, rfl⟩
        obtain ⟨rfl, rfl, rfl⟩ := hd'
        refine fn_ok T Tryz.func143 (by kernel_rfl) rfl rfl rfl rfl fun C hC => ?_
        repeat' first | refine g_go T hC true 400 rfl rfl ?_ | (exfalso; simp [Ex.op, Ex.s] at h; done) | refine g_cond rfl (fun h => ?_) (fun h => ?_) | refine g_end T hC (by kernel_rfl) ?_ | refine g_splitD (fun h => ?_) (fun h => ?_) | refine g_splitG rfl rfl rfl (fun h => ?_) (fun h => ?_) | refine g_splitP rfl rfl (fun h => ?_) (fun h => ?_) | refine g_callR hC ((pskip_n hl hi (by assumption))) (nm [0]) rfl rfl (LeSs.refl _) rfl rfl rfl rfl rfl rfl rfl rfl ?_ | refine g_callR hC (hP) (nm [0]) rfl rfl (LeSs.refl _) rfl rfl rfl rfl rfl rfl rfl rfl ?_ | refine g_lit T hC (rows := [exprR (.mk 4 n (⟨#[116, 104, 105, 115]⟩ : ByteArray) L)]) rfl rfl rfl (by simp only [exprR_eq]; rfl) rfl rfl rfl rfl rfl ?_ | refine g_callR hC ((pskip_n hl hk (by assumption))) (nm [0]) rfl rfl (LeSs.refl _) rfl rfl rfl rfl rfl rfl rfl rfl ?_ | refine g_callR hC ((ptake_bad hl _ hk _)) (nm [0]) rfl rfl (LeSs.refl _) rfl rfl rfl rfl rfl rfl rfl rfl ?_ | refine g_retl T (.inl rfl) rfl ?_
        all_goals (exact g_fin ⟨.inl rfl, id, _, rfl, .agg (.cons (.refl _) (.cons (.refl _) (.cons (.refl _) (.cons (.nil 5) (.cons (.nil 5) .nil))))), ⟨rfl, trivial⟩, rfl, rfl⟩)
      · by_cases hs : isA l k (⟨#[61]⟩ : ByteArray) = true
        · rw [if_pos ⟨hs, ht⟩] at hd
          obtain ⟨y, k1, b1, hy, hg1, hb1⟩ := go_key hd
          obtain ⟨hk1, hE⟩ := pwhole_ok hl hX _ (isA_next hl hs) _ _ _ hy
          cases b1 with
          | true =>
            obtain ⟨rfl, rfl, rfl⟩ := hb1 rfl
            refine fn_ok T Tryz.func143 (by kernel_rfl) rfl rfl rfl rfl fun C hC => ?_
            repeat' first | refine g_go T hC true 400 rfl rfl ?_ | (exfalso; simp [Ex.op, Ex.s, ht] at h; done) | refine g_cond rfl (fun h => ?_) (fun h => ?_) | refine g_end T hC (by kernel_rfl) ?_ | refine g_splitD (fun h => ?_) (fun h => ?_) | refine g_splitG rfl rfl rfl (fun h => ?_) (fun h => ?_) | refine g_splitP rfl rfl (fun h => ?_) (fun h => ?_) | refine g_callR hC ((pskip_n hl hi (by assumption))) (nm [0]) rfl rfl (LeSs.refl _) rfl rfl rfl rfl rfl rfl rfl rfl ?_ | refine g_callR hC (hP) (nm [0]) rfl rfl (LeSs.refl _) rfl rfl rfl rfl rfl rfl rfl rfl ?_ | refine g_lit T hC (rows := [exprR (.mk 4 n s L)]) rfl rfl rfl (by simp only [exprR_eq]; rfl) rfl rfl rfl rfl rfl ?_ | refine g_callR hC ((pskip_y hl hs)) (nm [0]) rfl rfl (LeSs.refl _) rfl rfl rfl rfl rfl rfl rfl rfl ?_ | refine g_callR hC (hE) (nm [0]) rfl rfl (LeSs.refl _) rfl rfl rfl rfl rfl rfl rfl rfl ?_ | refine g_lit T hC (rows := [exprR y]) rfl rfl rfl (by simp only [exprR_eq]; rfl) rfl rfl rfl rfl rfl ?_ | refine g_callR hC ((ptake_bad hl _ hk1 _)) (nm [0]) rfl rfl (LeSs.refl _) rfl rfl rfl rfl rfl rfl rfl rfl ?_ | refine g_retl T (.inl rfl) rfl ?_
            exact g_fin ⟨.inl rfl, id, _, rfl, .agg (.cons (.refl _) (.cons (.refl _) (.cons (.refl _) (.cons (.nil 5) (.cons (.nil 5) .nil))))), ⟨rfl, trivial⟩, rfl, rfl⟩
          | false =>
            obtain ⟨u, k2, b2, h4, h6, h7⟩ := go_key (hg1 rfl)
            obtain ⟨_, hT⟩ := ptake_ok hl _ hk1 _ _ _ _ h4
            have hfin : xf = .mk 1 s [y] [] [] ∧ jf = k2 ∧ bf = b2 := by
              cases b2 with
              | false => have e := h6 rfl; cases e; exact ⟨rfl, rfl, rfl⟩
              | true => exact h7 rfl
            obtain ⟨rfl, rfl, rfl⟩ := hfin
            refine fn_ok T Tryz.func143 (by kernel_rfl) rfl rfl rfl rfl fun C hC => ?_
            repeat' first | refine g_go T hC true 400 rfl rfl ?_ | (exfalso; simp [Ex.op, Ex.s, ht] at h; done) | refine g_cond rfl (fun h => ?_) (fun h => ?_) | refine g_end T hC (by kernel_rfl) ?_ | refine g_splitD (fun h => ?_) (fun h => ?_) | refine g_splitG rfl rfl rfl (fun h => ?_) (fun h => ?_) | refine g_splitP rfl rfl (fun h => ?_) (fun h => ?_) | refine g_callR hC ((pskip_n hl hi (by assumption))) (nm [0]) rfl rfl (LeSs.refl _) rfl rfl rfl rfl rfl rfl rfl rfl ?_ | refine g_callR hC (hP) (nm [0]) rfl rfl (LeSs.refl _) rfl rfl rfl rfl rfl rfl rfl rfl ?_ | refine g_lit T hC (rows := [exprR (.mk 4 n s L)]) rfl rfl rfl (by simp only [exprR_eq]; rfl) rfl rfl rfl rfl rfl ?_ | refine g_callR hC ((pskip_y hl hs)) (nm [0]) rfl rfl (LeSs.refl _) rfl rfl rfl rfl rfl rfl rfl rfl ?_ | refine g_callR hC (hE) (nm [0]) rfl rfl (LeSs.refl _) rfl rfl rfl rfl rfl rfl rfl rfl ?_ | refine g_lit T hC (rows := [exprR y]) rfl rfl rfl (by simp only [exprR_eq]; rfl) rfl rfl rfl rfl rfl ?_ | refine g_callR hC (hT) (nm [0]) rfl rfl (LeSs.refl _) rfl rfl rfl rfl rfl rfl rfl rfl ?_ | refine g_retl T (.inl rfl) rfl ?_
            exact g_fin ⟨.inl rfl, id, _, rfl, .agg (.cons (.refl _) (.cons (.refl _) (.cons (.refl _) (.cons (.nil 5) (.cons (.nil 5) .nil))))), ⟨rfl, trivial⟩, rfl, rfl⟩
        · simp only [hs, false_and, if_false] at hd
          have hd' : xf = .mk 6 (⟨#[]⟩ : ByteArray) [.mk 4 n s L] [] [] ∧ jf = k ∧ bf = true := by cases hd; exact ⟨rfl, rfl, rfl⟩
          obtain ⟨rfl, rfl, rfl⟩ := hd'
          refine fn_ok T Tryz.func143 (by kernel_rfl) rfl rfl rfl rfl fun C hC => ?_
          repeat' first | refine g_go T hC true 400 rfl rfl ?_ | (exfalso; simp [Ex.op, Ex.s, ht] at h; done) | refine g_cond rfl (fun h => ?_) (fun h => ?_) | refine g_end T hC (by kernel_rfl) ?_ | refine g_splitD (fun h => ?_) (fun h => ?_) | refine g_splitG rfl rfl rfl (fun h => ?_) (fun h => ?_) | refine g_splitP rfl rfl (fun h => ?_) (fun h => ?_) | refine g_callR hC ((pskip_n hl hi (by assumption))) (nm [0]) rfl rfl (LeSs.refl _) rfl rfl rfl rfl rfl rfl rfl rfl ?_ | refine g_callR hC (hP) (nm [0]) rfl rfl (LeSs.refl _) rfl rfl rfl rfl rfl rfl rfl rfl ?_ | refine g_lit T hC (rows := [exprR (.mk 4 n s L)]) rfl rfl rfl (by simp only [exprR_eq]; rfl) rfl rfl rfl rfl rfl ?_ | refine g_callR hC ((pskip_n hl hk (by assumption))) (nm [0]) rfl rfl (LeSs.refl _) rfl rfl rfl rfl rfl rfl rfl rfl ?_ | refine g_callR hC ((ptake_bad hl _ hk _)) (nm [0]) rfl rfl (LeSs.refl _) rfl rfl rfl rfl rfl rfl rfl rfl ?_ | refine g_retl T (.inl rfl) rfl ?_
          all_goals (exact g_fin ⟨.inl rfl, id, _, rfl, .agg (.cons (.refl _) (.cons (.refl _) (.cons (.refl _) (.cons (.nil 5) (.cons (.nil 5) .nil))))), ⟨rfl, trivial⟩, rfl, rfl⟩)
    simp only [h4, false_and, and_false, if_false] at hd
    by_cases h55 : op = 5
    · subst h55
      obtain ⟨y0, rfl⟩ := h5 rfl
      simp only [and_true, show ¬ ((5 : Int) = 7) by decide, if_false] at hd
      by_cases hs : isA l k (⟨#[61]⟩ : ByteArray) = true
      · rw [if_pos hs] at hd
        obtain ⟨y, k1, b1, hy, hg1, hb1⟩ := go_key hd
        obtain ⟨hk1, hE⟩ := pwhole_ok hl hX _ (isA_next hl hs) _ _ _ hy
        cases b1 with
        | true =>
          obtain ⟨rfl, rfl, rfl⟩ := hb1 rfl
          refine fn_ok T Tryz.func143 (by kernel_rfl) rfl rfl rfl rfl fun C hC => ?_
          repeat' first | refine g_go T hC true 400 rfl rfl ?_ | (exfalso; simp [Ex.op, Ex.s] at h; done) | refine g_cond rfl (fun h => ?_) (fun h => ?_) | refine g_end T hC (by kernel_rfl) ?_ | refine g_splitD (fun h => ?_) (fun h => ?_) | refine g_splitG rfl rfl rfl (fun h => ?_) (fun h => ?_) | refine g_splitP rfl rfl (fun h => ?_) (fun h => ?_) | refine g_callR hC ((pskip_n hl hi (by assumption))) (nm [0]) rfl rfl (LeSs.refl _) rfl rfl rfl rfl rfl rfl rfl rfl ?_ | refine g_callR hC (hP) (nm [0]) rfl rfl (LeSs.refl _) rfl rfl rfl rfl rfl rfl rfl rfl ?_ | refine g_lit T hC (rows := [exprR (.mk 5 n s [y0])]) rfl rfl rfl (by simp only [exprR_eq]; rfl) rfl rfl rfl rfl rfl ?_ | refine g_callR hC ((pskip_y hl hs)) (nm [0]) rfl rfl (LeSs.refl _) rfl rfl rfl rfl rfl rfl rfl rfl ?_ | refine g_idx T hC (row := exprC y0) rfl rfl rfl (Int.le_refl _) (map_atE (l := [y0]) (i := 0) rfl) rfl rfl ?_ | refine g_callR hC (hE) (nm [0]) rfl rfl (LeSs.refl _) rfl rfl rfl rfl rfl rfl rfl rfl ?_ | refine g_lit T hC (rows := [exprR y0, exprR y]) rfl rfl rfl (by simp only [exprR_eq]; rfl) rfl rfl rfl rfl rfl ?_ | refine g_callR hC ((ptake_bad hl _ hk1 _)) (nm [0]) rfl rfl (LeSs.refl _) rfl rfl rfl rfl rfl rfl rfl rfl ?_ | refine g_retl T (.inl rfl) rfl ?_
          exact g_fin ⟨.inl rfl, id, _, rfl, .agg (.cons (.refl _) (.cons (.refl _) (.cons (.refl _) (.cons (.nil 5) (.cons (.nil 5) .nil))))), ⟨rfl, trivial⟩, rfl, rfl⟩
        | false =>
          obtain ⟨u, k2, b2, h4, h6, h7⟩ := go_key (hg1 rfl)
          obtain ⟨_, hT⟩ := ptake_ok hl _ hk1 _ _ _ _ h4
          have hfin : xf = .mk 2 s [y0, y] [] [] ∧ jf = k2 ∧ bf = b2 := by
            cases b2 with
            | false => have e := h6 rfl; cases e; exact ⟨rfl, rfl, rfl⟩
            | true => exact h7 rfl
          obtain ⟨rfl, rfl, rfl⟩ := hfin
          refine fn_ok T Tryz.func143 (by kernel_rfl) rfl rfl rfl rfl fun C hC => ?_
          repeat' first | refine g_go T hC true 400 rfl rfl ?_ | (exfalso; simp [Ex.op, Ex.s] at h; done) | refine g_cond rfl (fun h => ?_) (fun h => ?_) | refine g_end T hC (by kernel_rfl) ?_ | refine g_splitD (fun h => ?_) (fun h => ?_) | refine g_splitG rfl rfl rfl (fun h => ?_) (fun h => ?_) | refine g_splitP rfl rfl (fun h => ?_) (fun h => ?_) | refine g_callR hC ((pskip_n hl hi (by assumption))) (nm [0]) rfl rfl (LeSs.refl _) rfl rfl rfl rfl rfl rfl rfl rfl ?_ | refine g_callR hC (hP) (nm [0]) rfl rfl (LeSs.refl _) rfl rfl rfl rfl rfl rfl rfl rfl ?_ | refine g_lit T hC (rows := [exprR (.mk 5 n s [y0])]) rfl rfl rfl (by simp only [exprR_eq]; rfl) rfl rfl rfl rfl rfl ?_ | refine g_callR hC ((pskip_y hl hs)) (nm [0]) rfl rfl (LeSs.refl _) rfl rfl rfl rfl rfl rfl rfl rfl ?_ | refine g_idx T hC (row := exprC y0) rfl rfl rfl (Int.le_refl _) (map_atE (l := [y0]) (i := 0) rfl) rfl rfl ?_ | refine g_callR hC (hE) (nm [0]) rfl rfl (LeSs.refl _) rfl rfl rfl rfl rfl rfl rfl rfl ?_ | refine g_lit T hC (rows := [exprR y0, exprR y]) rfl rfl rfl (by simp only [exprR_eq]; rfl) rfl rfl rfl rfl rfl ?_ | refine g_callR hC (hT) (nm [0]) rfl rfl (LeSs.refl _) rfl rfl rfl rfl rfl rfl rfl rfl ?_ | refine g_retl T (.inl rfl) rfl ?_
          exact g_fin ⟨.inl rfl, id, _, rfl, .agg (.cons (.refl _) (.cons (.refl _) (.cons (.refl _) (.cons (.nil 5) (.cons (.nil 5) .nil))))), ⟨rfl, trivial⟩, rfl, rfl⟩
      · rw [if_neg hs] at hd
        have hd' : xf = .mk 6 (⟨#[]⟩ : ByteArray) [.mk 5 n s [y0]] [] [] ∧ jf = k ∧ bf = true := by cases hd; exact ⟨rfl, rfl, rfl⟩
        obtain ⟨rfl, rfl, rfl⟩ := hd'
        refine fn_ok T Tryz.func143 (by kernel_rfl) rfl rfl rfl rfl fun C hC => ?_
        repeat' first | refine g_go T hC true 400 rfl rfl ?_ | (exfalso; simp [Ex.op, Ex.s] at h; done) | refine g_cond rfl (fun h => ?_) (fun h => ?_) | refine g_end T hC (by kernel_rfl) ?_ | refine g_splitD (fun h => ?_) (fun h => ?_) | refine g_splitG rfl rfl rfl (fun h => ?_) (fun h => ?_) | refine g_splitP rfl rfl (fun h => ?_) (fun h => ?_) | refine g_callR hC ((pskip_n hl hi (by assumption))) (nm [0]) rfl rfl (LeSs.refl _) rfl rfl rfl rfl rfl rfl rfl rfl ?_ | refine g_callR hC (hP) (nm [0]) rfl rfl (LeSs.refl _) rfl rfl rfl rfl rfl rfl rfl rfl ?_ | refine g_lit T hC (rows := [exprR (.mk 5 n s [y0])]) rfl rfl rfl (by simp only [exprR_eq]; rfl) rfl rfl rfl rfl rfl ?_ | refine g_callR hC ((pskip_n hl hk (by assumption))) (nm [0]) rfl rfl (LeSs.refl _) rfl rfl rfl rfl rfl rfl rfl rfl ?_ | refine g_callR hC ((ptake_bad hl _ hk _)) (nm [0]) rfl rfl (LeSs.refl _) rfl rfl rfl rfl rfl rfl rfl rfl ?_ | refine g_retl T (.inl rfl) rfl ?_
        all_goals (exact g_fin ⟨.inl rfl, id, _, rfl, .agg (.cons (.refl _) (.cons (.refl _) (.cons (.refl _) (.cons (.nil 5) (.cons (.nil 5) .nil))))), ⟨rfl, trivial⟩, rfl, rfl⟩)
    simp only [h55, and_false, if_false] at hd
    by_cases h7 : op = 7
    · subst h7
      simp only [eq_self, if_true] at hd
      obtain ⟨u, k2, b2, h4', h6, h7⟩ := go_key hd
      obtain ⟨_, hT⟩ := ptake_ok hl _ hk _ _ _ _ h4'
      have hfin : xf = .mk 6 (⟨#[]⟩ : ByteArray) [.mk 7 n s L] [] [] ∧ jf = k2 ∧ bf = b2 := by
        cases b2 with
        | false => have e := h6 rfl; cases e; exact ⟨rfl, rfl, rfl⟩
        | true => exact h7 rfl
      obtain ⟨rfl, rfl, rfl⟩ := hfin
      refine fn_ok T Tryz.func143 (by kernel_rfl) rfl rfl rfl rfl fun C hC => ?_
      repeat' first | refine g_go T hC true 400 rfl rfl ?_ | (exfalso; simp [Ex.op, Ex.s] at h; done) | refine g_cond rfl (fun h => ?_) (fun h => ?_) | refine g_end T hC (by kernel_rfl) ?_ | refine g_splitD (fun h => ?_) (fun h => ?_) | refine g_splitG rfl rfl rfl (fun h => ?_) (fun h => ?_) | refine g_splitP rfl rfl (fun h => ?_) (fun h => ?_) | refine g_callR hC ((pskip_n hl hi (by assumption))) (nm [0]) rfl rfl (LeSs.refl _) rfl rfl rfl rfl rfl rfl rfl rfl ?_ | refine g_callR hC (hP) (nm [0]) rfl rfl (LeSs.refl _) rfl rfl rfl rfl rfl rfl rfl rfl ?_ | refine g_lit T hC (rows := [exprR (.mk 7 n s L)]) rfl rfl rfl (by simp only [exprR_eq]; rfl) rfl rfl rfl rfl rfl ?_ | refine g_callR hC (hT) (nm [0]) rfl rfl (LeSs.refl _) rfl rfl rfl rfl rfl rfl rfl rfl ?_ | refine g_retl T (.inl rfl) rfl ?_
      exact g_fin ⟨.inl rfl, id, _, rfl, .agg (.cons (.refl _) (.cons (.refl _) (.cons (.refl _) (.cons (.nil 5) (.cons (.nil 5) .nil))))), ⟨rfl, trivial⟩, rfl, rfl⟩
    simp only [h7, if_false] at hd
    have hd' : xf = .mk 6 (⟨#[]⟩ : ByteArray) [.mk op n s L] [] [] ∧ jf = k ∧ bf = true := by cases hd; exact ⟨rfl, rfl, rfl⟩
    obtain ⟨rfl, rfl, rfl⟩ := hd'
    refine fn_ok T Tryz.func143 (by kernel_rfl) rfl rfl rfl rfl fun C hC => ?_
    repeat' first | refine g_go T hC true 400 rfl rfl ?_ | (exfalso; simp [Ex.op, Ex.s, h4, h55, h7] at h; done) | refine g_cond rfl (fun h => ?_) (fun h => ?_) | refine g_end T hC (by kernel_rfl) ?_ | refine g_splitD (fun h => ?_) (fun h => ?_) | refine g_splitG rfl rfl rfl (fun h => ?_) (fun h => ?_) | refine g_splitP rfl rfl (fun h => ?_) (fun h => ?_) | refine g_callR hC ((pskip_n hl hi (by assumption))) (nm [0]) rfl rfl (LeSs.refl _) rfl rfl rfl rfl rfl rfl rfl rfl ?_ | refine g_callR hC (hP) (nm [0]) rfl rfl (LeSs.refl _) rfl rfl rfl rfl rfl rfl rfl rfl ?_ | refine g_lit T hC (rows := [exprR (.mk op n s L)]) rfl rfl rfl (by simp only [exprR_eq]; rfl) rfl rfl rfl rfl rfl ?_ | refine g_callR hC ((pskip_n hl hk (by assumption))) (nm [0]) rfl rfl (LeSs.refl _) rfl rfl rfl rfl rfl rfl rfl rfl ?_ | refine g_callR hC ((ptake_bad hl _ hk _)) (nm [0]) rfl rfl (LeSs.refl _) rfl rfl rfl rfl rfl rfl rfl rfl ?_ | refine g_retl T (.inl rfl) rfl ?_
    all_goals (exact g_fin ⟨.inl rfl, id, _, rfl, .agg (.cons (.refl _) (.cons (.refl _) (.cons (.refl _) (.cons (.nil 5) (.cons (.nil 5) .nil))))), ⟨rfl, trivial⟩, rfl, rfl⟩)
end
end Hw.Pa
namespace Hw.Pa
open Go Go.Proofs Hw.M

theorem stmtJ_fwd {l : List Tok} {f i : Nat} {x : Sm} {j : Nat} (h : stmtJ l f i = some (x, j, false)) : i < j := by
  have := ok_er h
  rw [(er_stmt f).2.2] at this
  exact ((stmt_fwd f).2.2 _ _ _ this).1
structure SX (l : List Tok) (f : Nat) : Prop where
  stmts : ∀ i, i < l.length → RJ l 101 [rdV] (fun a => pS (stmtsP a)) i (stmtsJ l f i [])
  block : ∀ i, i < l.length → RJ l 166 [rdV] (fun a => pS (stmtsP a)) i (blockJ l f i)
  stmt : ∀ i, i < l.length → RJ l 143 [rdV] (fun s => aggS (stmtC s)) i (stmtJ l f i)
section
variable {l : List Tok} (hl : GoodL l)
include hl
theorem pblock_step (f : Nat) (ih : ∀ g, g ≤ f → SX l g) (i : Nat) (hi : i < l.length) : RJ l 166 [rdV] (fun a => pS (stmtsP a)) i (blockJ l (f + 1) i) := by
  intro xf jf bf hR
  have hjf := (stmt_rg hl (f + 1)).2.1 i hi _ _ _ hR
  refine ⟨hjf, ?_⟩
  simp only [blockJ] at hR
  obtain ⟨u, k, b, h1, h2, h3⟩ := go_key hR
  obtain ⟨hk, hT⟩ := ptake_ok hl i hi _ _ _ _ h1
  cases b with
  | true =>
    obtain ⟨rfl, rfl, rfl⟩ := h3 rfl
    refine fn_ok T Tryz.func166 (by kernel_rfl) rfl rfl rfl rfl fun C hC => ?_
    repeat' first | refine g_go T hC true 400 rfl rfl ?_ | refine g_cond rfl (fun h => ?_) (fun h => ?_) | refine g_callR hC (hT) (nm [0]) rfl rfl (LeSs.refl _) rfl rfl rfl rfl rfl rfl rfl rfl ?_ | refine g_callR hC ((pstmts_bad hl _ hk)) (nm [0]) rfl rfl (LeSs.refl _) rfl rfl rfl rfl rfl rfl rfl rfl ?_ | refine g_retl T (.inl rfl) rfl ?_
    exact g_fin ⟨.inl rfl, id, _, rfl, .refl _, ⟨rfl, trivial⟩, rfl, rfl⟩
  | false =>
    obtain ⟨_, hS⟩ := (ih f (Nat.le_refl _)).stmts k hk _ _ _ (h2 rfl)
    refine fn_ok T Tryz.func166 (by kernel_rfl) rfl rfl rfl rfl fun C hC => ?_
    repeat' first | refine g_go T hC true 400 rfl rfl ?_ | refine g_cond rfl (fun h => ?_) (fun h => ?_) | refine g_callR hC (hT) (nm [0]) rfl rfl (LeSs.refl _) rfl rfl rfl rfl rfl rfl rfl rfl ?_ | refine g_callR hC (hS) (nm [0]) rfl rfl (LeSs.refl _) rfl rfl rfl rfl rfl rfl rfl rfl ?_ | refine g_retl T (.inl rfl) rfl ?_
    exact g_fin ⟨.inl rfl, id, _, rfl, .refl _, ⟨rfl, trivial⟩, rfl, rfl⟩
theorem pstmts_step (f : Nat) (ih : ∀ g, g ≤ f → SX l g) (i : Nat) (hi : i < l.length) : RJ l 101 [rdV] (fun a => pS (stmtsP a)) i (stmtsJ l (f + 1) i []) := by
  intro af jf bf hR
  have hjf := (stmt_rg hl (f + 1)).1 i [] hi _ _ _ hR
  refine ⟨hjf, ?_⟩
  have hll := hl.len
  refine fn_ok T Tryz.func101 (by kernel_rfl) rfl rfl rfl rfl fun C hC => ?_
  repeat' first | refine g_go T hC true 400 rfl rfl ?_ | refine g_cond rfl (fun h => ?_) (fun h => ?_) | refine g_splitG rfl rfl rfl (fun h => ?_) (fun h => ?_) | refine g_splitP rfl rfl (fun h => ?_) (fun h => ?_)
  refine g_adopt hC rfl 101 5 rfl [(3, .one (.ar 101))] ⟨⟨_, rfl, AdS.nil⟩, trivial⟩ [] trivial ?_
  refine g_loop (fun q : List Sm × Nat × Bool × Nat => q.2.1 < l.length ∧ q.2.2.2 ≤ f + 1 ∧ q.1.length ≤ 100001 ∧ (q.2.2.1 = false → q.1.length ≤ q.2.1 ∧ stmtsJ l q.2.2.2 q.2.1 q.1 = some (af, jf, bf)) ∧ (q.2.2.1 = true → af = q.1 ∧ jf = q.2.1 ∧ bf = true))
    (fun q => ([(0, rdV), (3, .one (.ar 101))], [(0, some (rdR l q.2.1 q.2.2.1)), (101, some (Res.arr 5 (q.1.map stmtR)))])) (fun q => if q.2.2.1 then 0 else q.2.2.2 + 1) hC
    ([], i, false, f + 1) ⟨hi, Nat.le_refl _, Nat.zero_le _, fun _ => ⟨Nat.zero_le _, hR⟩, fun h => by cases h⟩ id ⟨rfl, ⟨rfl, rfl, trivial⟩, ⟨rfl, rfl, trivial⟩, rfl, fun _ _ => rfl⟩ ?_
  clear hi hR
  rintro ⟨acc, k, b1, g⟩ ⟨hk, hgf, hlen, hg, hb⟩
  simp only at hk hgf hlen hg hb
  cases b1 with
  | true =>
    obtain ⟨rfl, rfl, rfl⟩ := hb rfl
    repeat' first | refine g_go T hC true 400 rfl rfl ?_ | (exfalso; simp at h; done) | refine g_cond rfl (fun h => ?_) (fun h => ?_) | refine g_splitG rfl rfl rfl (fun h => ?_) (fun h => ?_) | refine g_splitP rfl rfl (fun h => ?_) (fun h => ?_) | refine g_outE ?_ | refine g_callR hC ((ptake_bad hl _ hk _)) (nm [0]) rfl rfl (LeSs.refl _) rfl rfl rfl rfl rfl rfl rfl rfl ?_ | refine g_retl T (.inl rfl) rfl ?_
    refine g_freeze rfl (id := 101) (e := 5) (rows := af.map stmtR) rfl [(2, pS (stmtsP af))] ⟨⟨_, rfl, FrS.ar⟩, trivial⟩ [] trivial ?_
    exact g_fin ⟨.inl rfl, id, _, rfl, .refl _, ⟨rfl, trivial⟩, rfl, rfl⟩
  | false =>
    obtain ⟨hak, hd⟩ := hg rfl
    clear hg hb
    cases g with
    | zero => simp only [stmtsJ] at hd; cases hd
    | succ g =>
      simp only [stmtsJ] at hd
      have hal : (acc.map stmtR).length = acc.length := List.length_map _
      by_cases hs : isA l k ⟨#[125]⟩ = true
      · rw [if_pos hs] at hd
        cases hd
        repeat' first | refine g_go T hC true 400 rfl rfl ?_ | (exfalso; simp at h; done) | refine g_cond rfl (fun h => ?_) (fun h => ?_) | refine g_splitG rfl rfl rfl (fun h => ?_) (fun h => ?_) | refine g_splitP rfl rfl (fun h => ?_) (fun h => ?_) | refine g_callR hC ((pis_y hl hs)) (nm [0]) rfl rfl (LeSs.refl _) rfl rfl rfl rfl rfl rfl rfl rfl ?_ | refine g_outE ?_ | refine g_callR hC ((ptake_y hl hs)) (nm [0]) rfl rfl (LeSs.refl _) rfl rfl rfl rfl rfl rfl rfl rfl ?_ | refine g_retl T (.inl rfl) rfl ?_
        refine g_freeze rfl (id := 101) (e := 5) (rows := af.map stmtR) rfl [(2, pS (stmtsP af))] ⟨⟨_, rfl, FrS.ar⟩, trivial⟩ [] trivial ?_
        exact g_fin ⟨.inl rfl, id, _, rfl, .refl _, ⟨rfl, trivial⟩, rfl, rfl⟩
      · rw [if_neg hs] at hd
        obtain ⟨y, k2, b2, h4, h5, h6⟩ := go_key hd
        obtain ⟨hk2, hE⟩ := (ih g (by omega)).stmt k hk _ _ _ h4
        have hal' : (acc ++ [y]).length = acc.length + 1 := by simp
        repeat' first | refine g_go T hC true 400 rfl rfl ?_ | (exfalso; simp at h; done) | refine g_cond rfl (fun h => ?_) (fun h => ?_) | refine g_splitG rfl rfl rfl (fun h => ?_) (fun h => ?_) | refine g_splitP rfl rfl (fun h => ?_) (fun h => ?_) | refine g_callR hC ((pis_n hl hk hs)) (nm [0]) rfl rfl (LeSs.refl _) rfl rfl rfl rfl rfl rfl rfl rfl ?_ | refine g_callR hC (hE) (nm [0]) rfl rfl (LeSs.refl _) rfl rfl rfl rfl rfl rfl rfl rfl ?_ | refine g_lit T hC (rows := [stmtR y]) rfl rfl rfl (by simp only [stmtR_eq]; rfl) rfl rfl rfl rfl rfl ?_ | (refine g_append T 102 hC (rows := acc.map stmtR) (rows2 := [stmtR y]) (rows3 := (acc ++ [y]).map stmtR) (bytes := 96) rfl rfl rfl rfl (SrcS.sl (T.es_ok _ _ rfl)) (by rw [List.map_append]; rfl) rfl rfl rfl (by kernel_rfl) (by rw [hal, List.length_singleton]; omega) (by rw [hal, List.length_singleton]; omega) rfl rfl rfl ?_)
        exact g_round (acc ++ [y], k2, b2, g) ⟨hk2, by simp only; omega, by simp only; omega, fun e => by subst e; exact ⟨by have := stmtJ_fwd h4; simp only; omega, h5 rfl⟩, h6⟩ (mvP 101 102) (by cases b2 <;> simp) ⟨rfl, ⟨rfl, rfl, trivial⟩, ⟨rfl, rfl, trivial⟩, rfl, fun i hi => mvP_low (by omega) hi⟩
set_option maxHeartbeats 2000000 in
theorem pstmt_step (f : Nat) (ih : ∀ g, g ≤ f → SX l g) (i : Nat) (hi : i < l.length) : RJ l 143 [rdV] (fun s => aggS (stmtC s)) i (stmtJ l (f + 1) i) := by
  intro xf jf bf hR
  have hjf := (stmt_rg hl (f + 1)).2.2 i hi _ _ _ hR
  refine ⟨hjf, ?_⟩
  have hll := hl.len
  have hS := ih f (Nat.le_refl _)
  have hX := ex_all hl f
  simp only [stmtJ] at hR
  by_cases h1 : isA l i (⟨#[105, 102]⟩ : ByteArray) = true
  · rw [if_pos h1] at hR
    have hi1 := isA_next hl h1
    obtain ⟨x, k, b, hx, hg, hb⟩ := go_key hR
    obtain ⟨hk, hE⟩ := pwhole_ok hl hX _ hi1 _ _ _ hx
    cases b with
    | true =>
      obtain ⟨rfl, rfl, rfl⟩ := hb rfl
      refine fn_ok T Tryz.func143 (by kernel_rfl) rfl rfl rfl rfl fun C hC => ?_
      repeat' first | refine g_go T hC true 400 rfl rfl ?_ | refine g_cond rfl (fun h => ?_) (fun h => ?_) | refine g_end T hC (by kernel_rfl) ?_ | refine g_splitD (fun h => ?_) (fun h => ?_) | refine g_splitG rfl rfl rfl (fun h => ?_) (fun h => ?_) | refine g_splitP rfl rfl (fun h => ?_) (fun h => ?_) | refine g_callR hC ((pskip_y hl h1)) (nm [0]) rfl rfl (LeSs.refl _) rfl rfl rfl rfl rfl rfl rfl rfl ?_ | refine g_callR hC (hE) (nm [0]) rfl rfl (LeSs.refl _) rfl rfl rfl rfl rfl rfl rfl rfl ?_ | refine g_lit T hC (rows := [exprR x]) rfl rfl rfl (by simp only [exprR_eq]; rfl) rfl rfl rfl rfl rfl ?_ | refine g_callR hC ((pblock_bad hl _ hk)) (nm [0]) rfl rfl (LeSs.refl _) rfl rfl rfl rfl rfl rfl rfl rfl ?_ | refine g_callR hC ((pskip_bad hl _ hk _)) (nm [0]) rfl rfl (LeSs.refl _) rfl rfl rfl rfl rfl rfl rfl rfl ?_ | refine g_retl T (.inl rfl) rfl ?_
      exact g_fin ⟨.inl rfl, id, _, rfl, .agg (.cons (.refl _) (.cons (.refl _) (.cons (.refl _) (.cons (.refl _) (.cons (.nil 5) .nil))))), ⟨rfl, trivial⟩, rfl, rfl⟩
    | false =>
      obtain ⟨a, k2, b2, ha, hg2, hb2⟩ := go_key (hg rfl)
      obtain ⟨hk2, hB⟩ := hS.block k hk _ _ _ ha
      cases b2 with
      | true =>
        obtain ⟨rfl, rfl, rfl⟩ := hb2 rfl
        refine fn_ok T Tryz.func143 (by kernel_rfl) rfl rfl rfl rfl fun C hC => ?_
        repeat' first | refine g_go T hC true 400 rfl rfl ?_ | refine g_cond rfl (fun h => ?_) (fun h => ?_) | refine g_end T hC (by kernel_rfl) ?_ | refine g_splitD (fun h => ?_) (fun h => ?_) | refine g_splitG rfl rfl rfl (fun h => ?_) (fun h => ?_) | refine g_splitP rfl rfl (fun h => ?_) (fun h => ?_) | refine g_callR hC ((pskip_y hl h1)) (nm [0]) rfl rfl (LeSs.refl _) rfl rfl rfl rfl rfl rfl rfl rfl ?_ | refine g_callR hC (hE) (nm [0]) rfl rfl (LeSs.refl _) rfl rfl rfl rfl rfl rfl rfl rfl ?_ | refine g_lit T hC (rows := [exprR x]) rfl rfl rfl (by simp only [exprR_eq]; rfl) rfl rfl rfl rfl rfl ?_ | refine g_callR hC (hB) (nm [0]) rfl rfl (LeSs.refl _) rfl rfl rfl rfl rfl rfl rfl rfl ?_ | refine g_callR hC ((pskip_bad hl _ hk2 _)) (nm [0]) rfl rfl (LeSs.refl _) rfl rfl rfl rfl rfl rfl rfl rfl ?_ | refine g_retl T (.inl rfl) rfl ?_
        exact g_fin ⟨.inl rfl, id, _, rfl, .agg (.cons (.refl _) (.cons (.refl _) (.cons (.refl _) (.cons (.refl _) (.cons (.nil 5) .nil))))), ⟨rfl, trivial⟩, rfl, rfl⟩
      | false =>
        have hd := hg2 rfl
        by_cases hs : isA l k2 (⟨#[101, 108, 115, 101]⟩ : ByteArray) = true
        · rw [if_pos hs] at hd
          obtain ⟨c, hc, rfl⟩ := go_map hd
          obtain ⟨_, hB2⟩ := hS.block _ (isA_next hl hs) _ _ _ hc
          refine fn_ok T Tryz.func143 (by kernel_rfl) rfl rfl rfl rfl fun C hC => ?_
          repeat' first | refine g_go T hC true 400 rfl rfl ?_ | refine g_cond rfl (fun h => ?_) (fun h => ?_) | refine g_end T hC (by kernel_rfl) ?_ | refine g_splitD (fun h => ?_) (fun h => ?_) | refine g_splitG rfl rfl rfl (fun h => ?_) (fun h => ?_) | refine g_splitP rfl rfl (fun h => ?_) (fun h => ?_) | refine g_callR hC ((pskip_y hl h1)) (nm [0]) rfl rfl (LeSs.refl _) rfl rfl rfl rfl rfl rfl rfl rfl ?_ | refine g_callR hC (hE) (nm [0]) rfl rfl (LeSs.refl _) rfl rfl rfl rfl rfl rfl rfl rfl ?_ | refine g_lit T hC (rows := [exprR x]) rfl rfl rfl (by simp only [exprR_eq]; rfl) rfl rfl rfl rfl rfl ?_ | refine g_callR hC (hB) (nm [0]) rfl rfl (LeSs.refl _) rfl rfl rfl rfl rfl rfl rfl rfl ?_ | refine g_callR hC ((pskip_y hl hs)) (nm [0]) rfl rfl (LeSs.refl _) rfl rfl rfl rfl rfl rfl rfl rfl ?_ | refine g_callR hC (hB2) (nm [0]) rfl rfl (LeSs.refl _) rfl rfl rfl rfl rfl rfl rfl rfl ?_ | refine g_retl T (.inl rfl) rfl ?_
          exact g_fin ⟨.inl rfl, id, _, rfl, .agg (.cons (.refl _) (.cons (.refl _) (.cons (.refl _) (.cons (.refl _) (.cons (.refl _) .nil))))), ⟨rfl, trivial⟩, rfl, rfl⟩
        · rw [if_neg hs] at hd
          cases hd
          refine fn_ok T Tryz.func143 (by kernel_rfl) rfl rfl rfl rfl fun C hC => ?_
          repeat' first | refine g_go T hC true 400 rfl rfl ?_ | refine g_cond rfl (fun h => ?_) (fun h => ?_) | refine g_end T hC (by kernel_rfl) ?_ | refine g_splitD (fun h => ?_) (fun h => ?_) | refine g_splitG rfl rfl rfl (fun h => ?_) (fun h => ?_) | refine g_splitP rfl rfl (fun h => ?_) (fun h => ?_) | refine g_callR hC ((pskip_y hl h1)) (nm [0]) rfl rfl (LeSs.refl _) rfl rfl rfl rfl rfl rfl rfl rfl ?_ | refine g_callR hC (hE) (nm [0]) rfl rfl (LeSs.refl _) rfl rfl rfl rfl rfl rfl rfl rfl ?_ | refine g_lit T hC (rows := [exprR x]) rfl rfl rfl (by simp only [exprR_eq]; rfl) rfl rfl rfl rfl rfl ?_ | refine g_callR hC (hB) (nm [0]) rfl rfl (LeSs.refl _) rfl rfl rfl rfl rfl rfl rfl rfl ?_ | refine g_callR hC ((pskip_n hl hk2 hs)) (nm [0]) rfl rfl (LeSs.refl _) rfl rfl rfl rfl rfl rfl rfl rfl ?_ | refine g_retl T (.inl rfl) rfl ?_
          exact g_fin ⟨.inl rfl, id, _, rfl, .agg (.cons (.refl _) (.cons (.refl _) (.cons (.refl _) (.cons (.refl _) (.cons (.nil 5) .nil))))), ⟨rfl, trivial⟩, rfl, rfl⟩
  rw [if_neg h1] at hR
  by_cases h2 : isA l i (⟨#[119, 104, 105, 108, 101]⟩ : ByteArray) = true
  · rw [if_pos h2] at hR
    have hi1 := isA_next hl h2
    obtain ⟨x, k, b, hx, hg, hb⟩ := go_key hR
    obtain ⟨hk, hE⟩ := pwhole_ok hl hX _ hi1 _ _ _ hx
    cases b with
    | true =>
      obtain ⟨rfl, rfl, rfl⟩ := hb rfl
      refine fn_ok T Tryz.func143 (by kernel_rfl) rfl rfl rfl rfl fun C hC => ?_
      repeat' first | refine g_go T hC true 400 rfl rfl ?_ | refine g_cond rfl (fun h => ?_) (fun h => ?_) | refine g_end T hC (by kernel_rfl) ?_ | refine g_splitD (fun h => ?_) (fun h => ?_) | refine g_splitG rfl rfl rfl (fun h => ?_) (fun h => ?_) | refine g_splitP rfl rfl (fun h => ?_) (fun h => ?_) | refine g_callR hC ((pskip_n hl hi (by assumption))) (nm [0]) rfl rfl (LeSs.refl _) rfl rfl rfl rfl rfl rfl rfl rfl ?_ | refine g_callR hC ((pskip_y hl h2)) (nm [0]) rfl rfl (LeSs.refl _) rfl rfl rfl rfl rfl rfl rfl rfl ?_ | refine g_callR hC (hE) (nm [0]) rfl rfl (LeSs.refl _) rfl rfl rfl rfl rfl rfl rfl rfl ?_ | refine g_lit T hC (rows := [exprR x]) rfl rfl rfl (by simp only [exprR_eq]; rfl) rfl rfl rfl rfl rfl ?_ | refine g_callR hC ((pblock_bad hl _ hk)) (nm [0]) rfl rfl (LeSs.refl _) rfl rfl rfl rfl rfl rfl rfl rfl ?_ | refine g_retl T (.inl rfl) rfl ?_
      exact g_fin ⟨.inl rfl, id, _, rfl, .agg (.cons (.refl _) (.cons (.refl _) (.cons (.refl _) (.cons (.refl _) (.cons (.nil 5) .nil))))), ⟨rfl, trivial⟩, rfl, rfl⟩
    | false =>
      obtain ⟨a, ha, rfl⟩ := go_map (hg rfl)
      obtain ⟨_, hB⟩ := hS.block k hk _ _ _ ha
      refine fn_ok T Tryz.func143 (by kernel_rfl) rfl rfl rfl rfl fun C hC => ?_
      repeat' first | refine g_go T hC true 400 rfl rfl ?_ | refine g_cond rfl (fun h => ?_) (fun h => ?_) | refine g_end T hC (by kernel_rfl) ?_ | refine g_splitD (fun h => ?_) (fun h => ?_) | refine g_splitG rfl rfl rfl (fun h => ?_) (fun h => ?_) | refine g_splitP rfl rfl (fun h => ?_) (fun h => ?_) | refine g_callR hC ((pskip_n hl hi (by assumption))) (nm [0]) rfl rfl (LeSs.refl _) rfl rfl rfl rfl rfl rfl rfl rfl ?_ | refine g_callR hC ((pskip_y hl h2)) (nm [0]) rfl rfl (LeSs.refl _) rfl rfl rfl rfl rfl rfl rfl rfl ?_ | refine g_callR hC (hE) (nm [0]) rfl rfl (LeSs.refl _) rfl rfl rfl rfl rfl rfl rfl rfl ?_ | refine g_lit T hC (rows := [exprR x]) rfl rfl rfl (by simp only [exprR_eq]; rfl) rfl rfl rfl rfl rfl ?_ | refine g_callR hC (hB) (nm [0]) rfl rfl (LeSs.refl _) rfl rfl rfl rfl rfl rfl rfl rfl ?_ | refine g_retl T (.inl rfl) rfl ?_
      exact g_fin ⟨.inl rfl, id, _, rfl, .agg (.cons (.refl _) (.cons (.refl _) (.cons (.refl _) (.cons (.refl _) (.cons (.nil 5) .nil))))), ⟨rfl, trivial⟩, rfl, rfl⟩
  rw [if_neg h2] at hR
  by_cases h3 : isA l i (⟨#[114, 101, 116, 117, 114, 110]⟩ : ByteArray) = true
  · rw [if_pos h3] at hR
    have hi1 := isA_next hl h3
    by_cases hs : isA l (i + 1) (⟨#[59]⟩ : ByteArray) = true
    · rw [if_pos hs] at hR
      cases hR
      refine fn_ok T Tryz.func143 (by kernel_rfl) rfl rfl rfl rfl fun C hC => ?_
      repeat' first | refine g_go T hC true 400 rfl rfl ?_ | (exfalso; simp at h; done) | refine g_cond rfl (fun h => ?_) (fun h => ?_) | refine g_end T hC (by kernel_rfl) ?_ | refine g_splitD (fun h => ?_) (fun h => ?_) | refine g_splitG rfl rfl rfl (fun h => ?_) (fun h => ?_) | refine g_splitP rfl rfl (fun h => ?_) (fun h => ?_) | refine g_callR hC ((pskip_n hl hi (by assumption))) (nm [0]) rfl rfl (LeSs.refl _) rfl rfl rfl rfl rfl rfl rfl rfl ?_ | refine g_callR hC ((pskip_y hl h3)) (nm [0]) rfl rfl (LeSs.refl _) rfl rfl rfl rfl rfl rfl rfl rfl ?_ | refine g_callR hC ((pis_y hl hs)) (nm [0]) rfl rfl (LeSs.refl _) rfl rfl rfl rfl rfl rfl rfl rfl ?_ | refine g_callR hC ((ptake_y hl hs)) (nm [0]) rfl rfl (LeSs.refl _) rfl rfl rfl rfl rfl rfl rfl rfl ?_ | refine g_retl T (.inl rfl) rfl ?_
      exact g_fin ⟨.inl rfl, id, _, rfl, .agg (.cons (.refl _) (.cons (.refl _) (.cons (.nil 4) (.cons (.nil 5) (.cons (.nil 5) .nil))))), ⟨rfl, trivial⟩, rfl, rfl⟩
    · rw [if_neg hs] at hR
      obtain ⟨x, k, b, hx, hg, hb⟩ := go_key hR
      obtain ⟨hk, hE⟩ := pwhole_ok hl hX _ hi1 _ _ _ hx
      cases b with
      | true =>
        obtain ⟨rfl, rfl, rfl⟩ := hb rfl
        refine fn_ok T Tryz.func143 (by kernel_rfl) rfl rfl rfl rfl fun C hC => ?_
        repeat' first | refine g_go T hC true 400 rfl rfl ?_ | (exfalso; simp at h; done) | refine g_cond rfl (fun h => ?_) (fun h => ?_) | refine g_end T hC (by kernel_rfl) ?_ | refine g_splitD (fun h => ?_) (fun h => ?_) | refine g_splitG rfl rfl rfl (fun h => ?_) (fun h => ?_) | refine g_splitP rfl rfl (fun h => ?_) (fun h => ?_) | refine g_callR hC ((pskip_n hl hi (by assumption))) (nm [0]) rfl rfl (LeSs.refl _) rfl rfl rfl rfl rfl rfl rfl rfl ?_ | refine g_callR hC ((pskip_y hl h3)) (nm [0]) rfl rfl (LeSs.refl _) rfl rfl rfl rfl rfl rfl rfl rfl ?_ | refine g_callR hC ((pis_n hl hi1 hs)) (nm [0]) rfl rfl (LeSs.refl _) rfl rfl rfl rfl rfl rfl rfl rfl ?_ | refine g_callR hC (hE) (nm [0]) rfl rfl (LeSs.refl _) rfl rfl rfl rfl rfl rfl rfl rfl ?_ | refine g_lit T hC (rows := [exprR x]) rfl rfl rfl (by simp only [exprR_eq]; rfl) rfl rfl rfl rfl rfl ?_ | refine g_callR hC ((ptake_bad hl _ hk _)) (nm [0]) rfl rfl (LeSs.refl _) rfl rfl rfl rfl rfl rfl rfl rfl ?_ | refine g_retl T (.inl rfl) rfl ?_
        exact g_fin ⟨.inl rfl, id, _, rfl, .agg (.cons (.refl _) (.cons (.refl _) (.cons (.refl _) (.cons (.nil 5) (.cons (.nil 5) .nil))))), ⟨rfl, trivial⟩, rfl, rfl⟩
      | false =>
        obtain ⟨u, k2, b2, h4, h5, h6⟩ := go_key (hg rfl)
        obtain ⟨_, hT⟩ := ptake_ok hl _ hk _ _ _ _ h4
        have hfin : xf = .mk 5 (⟨#[]⟩ : ByteArray) [x] [] [] ∧ jf = k2 ∧ bf = b2 := by
          cases b2 with
          | false => have e := h5 rfl; cases e; exact ⟨rfl, rfl, rfl⟩
          | true => exact h6 rfl
        obtain ⟨rfl, rfl, rfl⟩ := hfin
        refine fn_ok T Tryz.func143 (by kernel_rfl) rfl rfl rfl rfl fun C hC => ?_
        repeat' first | refine g_go T hC true 400 rfl rfl ?_ | (exfalso; simp at h; done) | refine g_cond rfl (fun h => ?_) (fun h => ?_) | refine g_end T hC (by kernel_rfl) ?_ | refine g_splitD (fun h => ?_) (fun h => ?_) | refine g_splitG rfl rfl rfl (fun h => ?_) (fun h => ?_) | refine g_splitP rfl rfl (fun h => ?_) (fun h => ?_) | refine g_callR hC ((pskip_n hl hi (by assumption))) (nm [0]) rfl rfl (LeSs.refl _) rfl rfl rfl rfl rfl rfl rfl rfl ?_ | refine g_callR hC ((pskip_y hl h3)) (nm [0]) rfl rfl (LeSs.refl _) rfl rfl rfl rfl rfl rfl rfl rfl ?_ | refine g_callR hC ((pis_n hl hi1 hs)) (nm [0]) rfl rfl (LeSs.refl _) rfl rfl rfl rfl rfl rfl rfl rfl ?_ | refine g_callR hC (hE) (nm [0]) rfl rfl (LeSs.refl _) rfl rfl rfl rfl rfl rfl rfl rfl ?_ | refine g_lit T hC (rows := [exprR x]) rfl rfl rfl (by simp only [exprR_eq]; rfl) rfl rfl rfl rfl rfl ?_ | refine g_callR hC (hT) (nm [0]) rfl rfl (LeSs.refl _) rfl rfl rfl rfl rfl rfl rfl rfl ?_ | refine g_retl T (.inl rfl) rfl ?_
        exact g_fin ⟨.inl rfl, id, _, rfl, .agg (.cons (.refl _) (.cons (.refl _) (.cons (.refl _) (.cons (.nil 5) (.cons (.nil 5) .nil))))), ⟨rfl, trivial⟩, rfl, rfl⟩
  rw [if_neg h3] at hR
  exact pstmt_post hl f i hi h1 h2 h3 hR
theorem sx_all : ∀ f : Nat, SX l f := by
  intro f
  induction f using Nat.strongRecOn with
  | _ f ih =>
    cases f with
    | zero => exact ⟨(fun _ _ _ _ _ h => by simp only [stmtsJ] at h; cases h), (fun _ _ _ _ _ h => by simp only [blockJ] at h; cases h), (fun _ _ _ _ _ h => by simp only [stmtJ] at h; cases h)⟩
    | succ f =>
      have ih' : ∀ g, g ≤ f → SX l g := fun g hg => ih g (by omega)
      exact ⟨fun i hi => pstmts_step hl f ih' i hi, fun i hi => pblock_step hl f ih' i hi, fun i hi => pstmt_step hl f ih' i hi⟩
end
end Hw.Pa
namespace Hw.Pa
open Go Go.Proofs Hw.M

theorem fieldJ_fwd {l : List Tok} {i : Nat} {x : Fld} {j : Nat} (h : fieldJ l i = some (x, j, false)) : i < j := by
  have := ok_er h
  rw [er_field] at this
  exact field_fwd this
abbrev F0 : Fld := ⟨(⟨#[]⟩ : ByteArray), (⟨#[]⟩ : ByteArray)⟩
section
variable {l : List Tok} (hl : GoodL l)
include hl
theorem plistF_ok (sep fin : Str) (f i : Nat) (hi : i < l.length) : RJ l 63 [rdV, Sr sep, Sr fin, .one (.cl 64 [.bx 0 0] [])] (fun a => pS (fieldsP a)) i (listJ l F0 sep fin (fieldJ l) f i []) := by
  intro af jf bf hR
  have hjf := list_rg hl F0 sep fin (fieldJ l) (fun _ h => .field hl h) f i [] hi _ _ _ hR
  refine ⟨hjf, ?_⟩
  have hll := hl.len
  refine fn_ok T Tryz.func63 (by kernel_rfl) rfl rfl rfl rfl fun C hC => ?_
  repeat' first | refine g_go T hC true 400 rfl rfl ?_ | refine g_cond rfl (fun h => ?_) (fun h => ?_) | refine g_splitG rfl rfl rfl (fun h => ?_) (fun h => ?_) | refine g_splitP rfl rfl (fun h => ?_) (fun h => ?_)
  refine g_adopt hC rfl 101 2 rfl [(9, .one (.ar 101))] ⟨⟨_, rfl, AdS.nil⟩, trivial⟩ [] trivial ?_
  refine g_loop (fun q : List Fld × Nat × Bool × Nat => q.2.1 < l.length ∧ q.2.2.2 ≤ f ∧ q.1.length ≤ 100001 ∧ (q.2.2.1 = false → q.1.length ≤ q.2.1 ∧ listJ l F0 sep fin (fieldJ l) q.2.2.2 q.2.1 q.1 = some (af, jf, bf)) ∧ (q.2.2.1 = true → af = q.1 ∧ jf = q.2.1 ∧ bf = true))
    (fun q => ([(0, rdV), (1, Sr sep), (2, Sr fin), (3, .one (.cl 64 [.bx 0 0] [])), (9, .one (.ar 101))], [(0, some (rdR l q.2.1 q.2.2.1)), (101, some (Res.arr 2 (q.1.map fieldR)))])) (fun q => if q.2.2.1 then 0 else q.2.2.2 + 1) hC
    ([], i, false, f) ⟨hi, Nat.le_refl _, Nat.zero_le _, fun _ => ⟨Nat.zero_le _, hR⟩, fun h => by cases h⟩ id ⟨rfl, ⟨rfl, rfl, rfl, rfl, rfl, trivial⟩, ⟨rfl, rfl, trivial⟩, rfl, fun _ _ => rfl⟩ ?_
  clear hi hR
  rintro ⟨acc, k, b1, g⟩ ⟨hk, hgf, hlen, hg, hb⟩
  simp only at hk hgf hlen hg hb
  cases b1 with
  | true =>
    obtain ⟨rfl, rfl, rfl⟩ := hb rfl
    repeat' first | refine g_go T hC true 400 rfl rfl ?_ | refine g_cond rfl (fun h => ?_) (fun h => ?_) | refine g_splitG rfl rfl rfl (fun h => ?_) (fun h => ?_) | refine g_splitP rfl rfl (fun h => ?_) (fun h => ?_) | refine g_callR hC ((ptake_bad hl _ hk _)) (nm [0]) rfl rfl (LeSs.refl _) rfl rfl rfl rfl rfl rfl rfl rfl ?_ | refine g_outE ?_ | refine g_retl T (.inl rfl) rfl ?_
    refine g_freeze rfl (id := 101) (e := 2) (rows := af.map fieldR) rfl [(8, pS (fieldsP af))] ⟨⟨_, rfl, FrS.ar⟩, trivial⟩ [] trivial ?_
    exact g_fin ⟨.inl rfl, id, _, rfl, .refl _, ⟨rfl, trivial⟩, rfl, rfl⟩
  | false =>
    obtain ⟨hak, hd⟩ := hg rfl
    clear hg hb
    cases g with
    | zero => simp only [listJ] at hd; cases hd
    | succ g =>
      simp only [listJ] at hd
      have hal : (acc.map fieldR).length = acc.length := List.length_map _
      by_cases hs : isA l k fin = true
      · rw [if_pos hs] at hd
        cases hd
        repeat' first | refine g_go T hC true 400 rfl rfl ?_ | refine g_cond rfl (fun h => ?_) (fun h => ?_) | refine g_splitG rfl rfl rfl (fun h => ?_) (fun h => ?_) | refine g_splitP rfl rfl (fun h => ?_) (fun h => ?_) | refine g_callR hC ((pis_y hl hs)) (nm [0]) rfl rfl (LeSs.refl _) rfl rfl rfl rfl rfl rfl rfl rfl ?_ | refine g_outE ?_ | refine g_callR hC ((ptake_y hl hs)) (nm [0]) rfl rfl (LeSs.refl _) rfl rfl rfl rfl rfl rfl rfl rfl ?_ | refine g_retl T (.inl rfl) rfl ?_
        refine g_freeze rfl (id := 101) (e := 2) (rows := af.map fieldR) rfl [(8, pS (fieldsP af))] ⟨⟨_, rfl, FrS.ar⟩, trivial⟩ [] trivial ?_
        exact g_fin ⟨.inl rfl, id, _, rfl, .refl _, ⟨rfl, trivial⟩, rfl, rfl⟩
      · rw [if_neg hs] at hd
        obtain ⟨u, k1, b1, h1, h2, h3⟩ := go_key hd
        rcases sep_rj hl h1 with ⟨h0, rfl, rfl⟩ | ⟨h0, hsep, rfl, rfl⟩ | ⟨h0, hsep, rfl, rfl⟩
        · obtain ⟨y, k2, b2, h4, h5, h6⟩ := go_key (h2 rfl)
          obtain ⟨hk2, hE⟩ := pfield_ok hl _ hk _ _ _ h4
          have hal' : (acc ++ [y]).length = acc.length + 1 := by simp
          repeat' first | refine g_go T hC true 400 rfl rfl ?_ | (exfalso; have h' := of_decide_eq_true h; rw [hal] at h'; omega) | refine g_cond rfl (fun h => ?_) (fun h => ?_) | refine g_splitG rfl rfl rfl (fun h => ?_) (fun h => ?_) | refine g_splitP rfl rfl (fun h => ?_) (fun h => ?_) | refine g_callR hC ((pis_n hl hk hs)) (nm [0]) rfl rfl (LeSs.refl _) rfl rfl rfl rfl rfl rfl rfl rfl ?_ | refine g_callR hC (hE) (nm [0]) rfl rfl (LeSs.refl _) rfl rfl rfl rfl rfl rfl rfl rfl ?_ | refine g_lit T hC (rows := [fieldR y]) rfl rfl rfl rfl rfl rfl rfl rfl rfl ?_ | (refine g_append T 102 hC (rows := acc.map fieldR) (rows2 := [fieldR y]) (rows3 := (acc ++ [y]).map fieldR) (bytes := 32) rfl rfl rfl rfl (SrcS.sl (T.es_ok _ _ rfl)) (by rw [List.map_append]; rfl) rfl rfl rfl (by kernel_rfl) (by rw [hal, List.length_singleton]; omega) (by rw [hal, List.length_singleton]; omega) rfl rfl rfl ?_)
          exact g_round (acc ++ [y], k2, b2, g) ⟨hk2, by simp only; omega, by simp only; omega, fun e => by subst e; exact ⟨by have := fieldJ_fwd h4; simp only; omega, h5 rfl⟩, h6⟩ (mvP 101 102) (by cases b2 <;> simp) ⟨rfl, ⟨rfl, rfl, rfl, rfl, rfl, trivial⟩, ⟨rfl, rfl, trivial⟩, rfl, fun i hi => mvP_low (by omega) hi⟩
        · obtain ⟨y, k2, b2, h4, h5, h6⟩ := go_key (h2 rfl)
          obtain ⟨hk2, hE⟩ := pfield_ok hl _ (isA_next hl hsep) _ _ _ h4
          have hal' : (acc ++ [y]).length = acc.length + 1 := by simp
          repeat' first | refine g_go T hC true 400 rfl rfl ?_ | (exfalso; have h' := of_decide_eq_false h; rw [hal] at h'; omega) | refine g_cond rfl (fun h => ?_) (fun h => ?_) | refine g_splitG rfl rfl rfl (fun h => ?_) (fun h => ?_) | refine g_splitP rfl rfl (fun h => ?_) (fun h => ?_) | refine g_callR hC ((pis_n hl hk hs)) (nm [0]) rfl rfl (LeSs.refl _) rfl rfl rfl rfl rfl rfl rfl rfl ?_ | refine g_callR hC ((ptake_y hl hsep)) (nm [0]) rfl rfl (LeSs.refl _) rfl rfl rfl rfl rfl rfl rfl rfl ?_ | refine g_callR hC (hE) (nm [0]) rfl rfl (LeSs.refl _) rfl rfl rfl rfl rfl rfl rfl rfl ?_ | refine g_lit T hC (rows := [fieldR y]) rfl rfl rfl rfl rfl rfl rfl rfl rfl ?_ | (refine g_append T 102 hC (rows := acc.map fieldR) (rows2 := [fieldR y]) (rows3 := (acc ++ [y]).map fieldR) (bytes := 32) rfl rfl rfl rfl (SrcS.sl (T.es_ok _ _ rfl)) (by rw [List.map_append]; rfl) rfl rfl rfl (by kernel_rfl) (by rw [hal, List.length_singleton]; omega) (by rw [hal, List.length_singleton]; omega) rfl rfl rfl ?_)
          exact g_round (acc ++ [y], k2, b2, g) ⟨hk2, by simp only; omega, by simp only; omega, fun e => by subst e; exact ⟨by have := fieldJ_fwd h4; simp only; omega, h5 rfl⟩, h6⟩ (mvP 101 102) (by cases b2 <;> simp) ⟨rfl, ⟨rfl, rfl, rfl, rfl, rfl, trivial⟩, ⟨rfl, rfl, trivial⟩, rfl, fun i hi => mvP_low (by omega) hi⟩
        · have h3 := h3 rfl
          have hal' : (acc ++ [F0]).length = acc.length + 1 := by simp
          repeat' first | refine g_go T hC true 400 rfl rfl ?_ | (exfalso; have h' := of_decide_eq_false h; rw [hal] at h'; omega) | refine g_cond rfl (fun h => ?_) (fun h => ?_) | refine g_splitG rfl rfl rfl (fun h => ?_) (fun h => ?_) | refine g_splitP rfl rfl (fun h => ?_) (fun h => ?_) | refine g_callR hC ((pis_n hl hk hs)) (nm [0]) rfl rfl (LeSs.refl _) rfl rfl rfl rfl rfl rfl rfl rfl ?_ | refine g_callR hC ((ptake_n hl hk hsep)) (nm [0]) rfl rfl (LeSs.refl _) rfl rfl rfl rfl rfl rfl rfl rfl ?_ | refine g_callR hC ((pfield_bad hl _ hk)) (nm [0]) rfl rfl (LeSs.refl _) rfl rfl rfl rfl rfl rfl rfl rfl ?_ | refine g_lit T hC (rows := [fieldR F0]) rfl rfl rfl rfl rfl rfl rfl rfl rfl ?_ | (refine g_append T 102 hC (rows := acc.map fieldR) (rows2 := [fieldR F0]) (rows3 := (acc ++ [F0]).map fieldR) (bytes := 32) rfl rfl rfl rfl (SrcS.sl (T.es_ok _ _ rfl)) (by rw [List.map_append]; rfl) rfl rfl rfl (by kernel_rfl) (by rw [hal, List.length_singleton]; omega) (by rw [hal, List.length_singleton]; omega) rfl rfl rfl ?_)
          exact g_round (acc ++ [F0], k1, true, g) ⟨hk, by simp only; omega, by simp only; omega, (fun e => by cases e), fun _ => h3⟩ (mvP 101 102) (by simp) ⟨rfl, ⟨rfl, rfl, rfl, rfl, rfl, trivial⟩, ⟨rfl, rfl, trivial⟩, rfl, fun i hi => mvP_low (by omega) hi⟩
end
end Hw.Pa
namespace Hw.Pa
open Go Go.Proofs Hw.M

def tJ {α : Type} (b : Bool) (z : α) (k : Nat) (r : PJ α) : PJ α := match b with
  | true => some (z, k, true)
  | false => r
def RT {α : Type} (l : List Tok) (f : FuncId) (args : List S) (enc : α → S) (k : Nat) (b : Bool) (z : α) (r : PJ α) : Prop :=
  ∀ x j c, tJ b z k r = some (x, j, c) → j < l.length ∧ FnOK Tryz.prog f args [(0, rdR l k b)] (enc x) [(0, rdR l j c)]
theorem RT.of {α : Type} {l : List Tok} {f : FuncId} {args : List S} {enc : α → S} {k : Nat} {z : α} {r : PJ α} (hk : k < l.length) (h : RJ l f args enc k r) (hb : FnOK Tryz.prog f args [(0, rdR l k true)] (enc z) [(0, rdR l k true)]) (b : Bool) : RT l f args enc k b z r := by
  intro x j c e
  cases b with
  | true => cases e; exact ⟨hk, hb⟩
  | false => exact h _ _ _ e
theorem tgo {α β : Type} {b : Bool} {w : β} {k : Nat} {r : PJ α} {f : α → Nat → PJ β} {g : α → β} {x : β} {j : Nat} {c : Bool} (h : tJ b w k (PJ.go r f g) = some (x, j, c)) (z : α) (hw : w = g z) :
    ∃ y k2 b2, tJ b z k r = some (y, k2, b2) ∧ tJ b2 (g y) k2 (f y k2) = some (x, j, c) := by
  subst hw
  cases b with
  | true => exact ⟨z, k, true, rfl, h⟩
  | false =>
    rcases r with _ | ⟨y, k2, b2⟩
    · cases h
    · refine ⟨y, k2, b2, rfl, ?_⟩
      cases b2 with
      | true => exact h
      | false => exact h
theorem tfin {α : Type} {b : Bool} {v x : α} {k j : Nat} {c : Bool} (h : tJ b v k (PJ.ok v k) = some (x, j, c)) : x = v ∧ j = k ∧ c = b := by
  cases b <;> (cases h; exact ⟨rfl, rfl, rfl⟩)
section
variable {l : List Tok} (hl : GoodL l)
include hl
theorem one_rj {i : Nat} (hi : i < l.length) (s : Str) : RJ l 26 [rdV, Sr s] (fun _ => .tup []) i (oneJ l s i) := fun _ _ _ e => ptake_ok hl i hi _ _ _ _ e
theorem one_rt {i : Nat} (hi : i < l.length) (b : Bool) (s : Str) : RT l 26 [rdV, Sr s] (fun _ => .tup []) i b () (oneJ l s i) := .of hi (one_rj hl hi s) (ptake_bad hl i hi s) b
theorem name_rt {i : Nat} (hi : i < l.length) (b : Bool) : RT l 27 [rdV] Sr i b (⟨#[]⟩ : ByteArray) (nameJ l i) := .of hi (fun x j b e => pname_ok hl i hi x j b e) (pname_bad hl i hi) b
theorem int_rt {i : Nat} (hi : i < l.length) (b : Bool) : RT l 102 [rdV] (fun n => I n) i b 0 (intJ l i) := .of hi (fun x j b e => pint_ok hl i hi x j b e) (pint_bad hl i hi) b
theorem typ_rt {i : Nat} (hi : i < l.length) (b : Bool) : RT l 100 [rdV] Sr i b (⟨#[]⟩ : ByteArray) (typJ l i) := .of hi (ptyp_ok hl i hi) (ptyp_bad hl i hi) b
theorem field_rt {i : Nat} (hi : i < l.length) (b : Bool) : RT l 64 [rdV] (fun f => aggS (fieldR f)) i b F0 (fieldJ l i) := .of hi (pfield_ok hl i hi) (pfield_bad hl i hi) b
theorem listF_rt {i : Nat} (hi : i < l.length) (b : Bool) (sep fin : Str) (f : Nat) : RT l 63 [rdV, Sr sep, Sr fin, .one (.cl 64 [.bx 0 0] [])] (fun a => pS (fieldsP a)) i b [] (listJ l F0 sep fin (fieldJ l) f i []) := .of hi (plistF_ok hl sep fin f i hi) (plistF_bad hl i hi sep fin) b
theorem stmts_rt {i : Nat} (hi : i < l.length) (b : Bool) (f : Nat) : RT l 101 [rdV] (fun a => pS (stmtsP a)) i b [] (stmtsJ l f i []) := .of hi ((sx_all hl f).stmts i hi) (pstmts_bad hl i hi) b
theorem whole_rt {i : Nat} (hi : i < l.length) (b : Bool) (f : Nat) : RT l 45 [rdV] enE i b E0 (exprJ l f 0 i) := .of hi (pwhole_ok hl (ex_all hl f) i hi) (pwhole_bad hl i hi) b
def isB (l : List Tok) (b : Bool) (i : Nat) (s : Str) : Bool := !b && isA l i s
theorem is_rt {i : Nat} (hi : i < l.length) (b : Bool) (s : Str) : FnOK Tryz.prog 68 [rdV, Sr s] [(0, rdR l i b)] (Bo (isB l b i s)) [(0, rdR l i b)] := by
  cases b with
  | true => exact pis_bad hl i hi s
  | false => exact fnSub (pis_ok hl i hi s) (.bq (by simp [isB]))
theorem skip_rt {i : Nat} (hi : i < l.length) (b : Bool) (s : Str) : FnOK Tryz.prog 62 [rdV, Sr s] [(0, rdR l i b)] (Bo (isB l b i s)) [(0, rdR l (if isB l b i s = true then i + 1 else i) b)] := by
  cases b with
  | true => exact pskip_bad hl i hi s
  | false =>
    by_cases h : isA l i s = true
    · have e : isB l false i s = true := by simp [isB, h]
      rw [e, if_pos rfl]; exact pskip_y hl h
    · have e : isB l false i s = false := by simpa [isB] using h
      rw [e, if_neg (by simp)]; exact pskip_n hl hi h
theorem pformula_ok (f i : Nat) (hi : i < l.length) : RJ l 67 [rdV] enE i (formulaJ l f i) := by
  intro xf jf bf hR
  obtain ⟨_, k1, b1, e1, hR⟩ := tgo (b := false) (w := E0) (k := i) hR () rfl
  obtain ⟨hk1, h1⟩ := one_rt hl hi false _ _ _ _ e1
  obtain ⟨hk2, h2⟩ := whole_rt hl hk1 b1 f _ _ _ hR
  refine ⟨hk2, ?_⟩
  refine fn_ok T Tryz.func67 (by kernel_rfl) rfl rfl rfl rfl fun C hC => ?_
  repeat' first | refine g_go T hC true 400 rfl rfl ?_ | refine g_cond rfl (fun h => ?_) (fun h => ?_) | refine g_callR hC (h1) (nm [0]) rfl rfl (LeSs.refl _) rfl rfl rfl rfl rfl rfl rfl rfl ?_ | refine g_callR hC (h2) (nm [0]) rfl rfl (LeSs.refl _) rfl rfl rfl rfl rfl rfl rfl rfl ?_ | refine g_retl T (.inl rfl) rfl ?_
  exact g_fin ⟨.inl rfl, id, _, rfl, .refl _, ⟨rfl, trivial⟩, rfl, rfl⟩
theorem formula_rt {i : Nat} (hi : i < l.length) (b : Bool) (f : Nat) : RT l 67 [rdV] enE i b E0 (formulaJ l f i) := .of hi (pformula_ok hl f i hi) (pformula_bad hl i hi) b
end
end Hw.Pa
namespace Hw.Pa
open Go Go.Proofs Hw.M

theorem oneJ_le {l : List Tok} {s : Str} {i j : Nat} {u : Unit} {b : Bool} (h : oneJ l s i = some (u, j, b)) : i ≤ j := by
  unfold oneJ at h
  split at h
  · cases h; omega
  · cases h; exact Nat.le_refl _
theorem nameJ_le {l : List Tok} {s : Str} {i j : Nat} {b : Bool} (h : nameJ l i = some (s, j, b)) : i ≤ j := by
  unfold nameJ at h
  repeat' (split at h)
  all_goals (cases h; omega)
theorem typJ_le {l : List Tok} {s : Str} {i j : Nat} {b : Bool} (h : typJ l i = some (s, j, b)) : i ≤ j := by
  unfold typJ at h
  split at h
  · cases h; omega
  · split at h
    · cases h; omega
    · exact nameJ_le h
theorem tJ_le {α : Type} {b : Bool} {z x : α} {k j : Nat} {r : PJ α} {c : Bool} (h : tJ b z k r = some (x, j, c)) (hr : r = some (x, j, c) → k ≤ j) : k ≤ j := by
  cases b with
  | true => cases h; exact Nat.le_refl _
  | false => exact hr h
theorem fieldJ_le {l : List Tok} {x : Fld} {i j : Nat} {b : Bool} (h : fieldJ l i = some (x, j, b)) : i ≤ j := by
  obtain ⟨n, k, b1, e1, h⟩ := tgo (b := false) (w := F0) (k := i) h (⟨#[]⟩ : ByteArray) rfl
  obtain ⟨t, k2, b2, e2, h⟩ := tgo h (⟨#[]⟩ : ByteArray) rfl
  obtain ⟨_, rfl, _⟩ := tfin h
  exact Nat.le_trans (nameJ_le e1) (tJ_le e2 typJ_le)
section
variable {l : List Tok} (hl : GoodL l)
include hl
set_option maxHeartbeats 1000000 in
theorem pproc_ok (f i : Nat) (hi : i < l.length) : RJ l 65 [rdV] (fun p => aggS (procR p)) i (procJ l f i) := by
  intro xf jf bf hR
  have hll := hl.len
  obtain ⟨n, k1, b1, e1, hR⟩ := tgo (b := false) (w := ⟨(⟨#[]⟩ : ByteArray), [], (⟨#[]⟩ : ByteArray), [], []⟩) (k := i) hR (⟨#[]⟩ : ByteArray) rfl
  obtain ⟨hk1, h1⟩ := name_rt hl hi false _ _ _ e1
  obtain ⟨_, k2, b2, e2, hR⟩ := tgo hR () rfl
  obtain ⟨hk2, h2⟩ := one_rt hl hk1 b1 _ _ _ _ e2
  obtain ⟨ps, k3, b3, e3, hR⟩ := tgo hR [] rfl
  obtain ⟨hk3, h3⟩ := listF_rt hl hk2 b2 _ _ f _ _ _ e3
  obtain ⟨r, k4, b4, e4, hR⟩ := tgo hR (⟨#[]⟩ : ByteArray) rfl
  obtain ⟨_, k5, b5, e5, hR⟩ := tgo hR () rfl
  obtain ⟨ls, k6, b6, e6, hR⟩ := tgo hR [] rfl
  obtain ⟨bd, k7, b7, e7, hR⟩ := tgo hR [] rfl
  obtain ⟨rfl, rfl, rfl⟩ := tfin hR
  clear hR
  have hk6 : k6 < l.length := by
    have hk4 : k4 < l.length := by
      cases b3 with
      | true => cases e4; exact hk3
      | false =>
        simp only [tJ] at e4
        split at e4
        · cases e4; exact hk3
        · exact (RG.typ hl hk3) _ _ _ e4
    have hk5 : k5 < l.length := (one_rt hl hk4 b4 _ _ _ _ e5).1
    cases b5 with
    | true => cases e6; exact hk5
    | false => exact locs_rg hl f _ _ hk5 _ _ _ e6
  obtain ⟨hk7, h7⟩ := stmts_rt hl hk6 b6 f _ _ _ e7
  refine ⟨hk7, ?_⟩
  have hI := is_rt hl hk3 b3 ⟨#[123]⟩
  by_cases hc : isB l b3 k3 ⟨#[123]⟩ = true
  · rw [hc] at hI
    have hb3 : b3 = false ∧ isA l k3 ⟨#[123]⟩ = true := by unfold isB at hc; simpa using hc
    obtain ⟨rfl, hs⟩ := hb3
    simp only [tJ] at e4
    rw [if_pos hs] at e4
    cases e4
    obtain ⟨hk5, h5⟩ := one_rt hl hk3 false _ _ _ _ e5
    refine fn_ok T Tryz.func65 (by kernel_rfl) rfl rfl rfl rfl fun C hC => ?_
    repeat' first | refine g_go T hC true 400 rfl rfl ?_ | (exfalso; simp at h; done) | refine g_cond rfl (fun h => ?_) (fun h => ?_) | refine g_end T hC (by kernel_rfl) ?_ | refine g_splitD (fun h => ?_) (fun h => ?_) | refine g_callR hC (h1) (nm [0]) rfl rfl (LeSs.refl _) rfl rfl rfl rfl rfl rfl rfl rfl ?_ | refine g_callR hC (h2) (nm [0]) rfl rfl (LeSs.refl _) rfl rfl rfl rfl rfl rfl rfl rfl ?_ | refine g_mkF hC rfl rfl rfl rfl rfl rfl ?_ | refine g_callR hC (h3) (nm [0]) rfl rfl (LeSs.refl _) rfl rfl rfl rfl rfl rfl rfl rfl ?_ | refine g_callR hC (hI) (nm [0]) rfl rfl (LeSs.refl _) rfl rfl rfl rfl rfl rfl rfl rfl ?_ | refine g_callR hC (h5) (nm [0]) rfl rfl (LeSs.refl _) rfl rfl rfl rfl rfl rfl rfl rfl ?_
    refine g_adopt hC rfl 101 2 rfl [] trivial [(1003, [.p (ks n), .p (fieldsP ps), .p (ks (⟨#[]⟩ : ByteArray)), .ar 101, .p (.k (.slice none 0 0))])] ⟨⟨_, rfl, by decide, .cons (.refl _) (.cons (.refl _) (.cons (.refl _) (.cons .nil (.cons (.refl _) .nil))))⟩, trivial⟩ ?_
    refine g_loop (fun q : List Fld × Nat × Bool × Nat => q.2.1 < l.length ∧ q.1.length ≤ q.2.1 ∧ tJ q.2.2.1 q.1 q.2.1 (locsJ l q.2.2.2 q.2.1 q.1) = some (ls, k6, b6))
      (fun q => ([(0, rdV), (2, .one (.bx 1002 0)), (3, .one (.bx 1003 0))], [(0, some (rdR l q.2.1 q.2.2.1)), (1002, some (Res.box (zV [ZK.str, ZK.slice, ZK.str, ZK.slice, ZK.slice]))), (1003, some (Res.box [.p (ks n), .p (fieldsP ps), .p (ks (⟨#[]⟩ : ByteArray)), .ar 101, .p (.k (.slice none 0 0))])), (101, some (Res.arr 2 (q.1.map fieldR)))])) (fun q => q.2.2.2) hC
      ([], k5, b5, f) ⟨hk5, Nat.zero_le _, e6⟩ id ⟨rfl, ⟨rfl, rfl, rfl, trivial⟩, ⟨rfl, rfl, rfl, rfl, trivial⟩, rfl, fun _ _ => rfl⟩ ?_
    clear e1 e2 e3 e5 e6 h1 h2 h3 h5 hI hk5
    rintro ⟨acc, k, b, g⟩ ⟨hk, hak, hd⟩
    simp only at hk hak hd
    have hal : (acc.map fieldR).length = acc.length := List.length_map _
    by_cases hlo : isB l b k (⟨#[108, 111, 99, 97, 108]⟩ : ByteArray) = true
    · have hb : b = false ∧ isA l k (⟨#[108, 111, 99, 97, 108]⟩ : ByteArray) = true := by unfold isB at hlo; simpa using hlo
      obtain ⟨rfl, hs⟩ := hb
      cases g with
      | zero => simp only [tJ, locsJ] at hd; cases hd
      | succ g =>
        simp only [tJ, locsJ] at hd
        rw [if_pos hs] at hd
        obtain ⟨x, j2, c2, a1, hd⟩ := tgo (b := false) (w := acc ++ [F0]) (k := k + 1) hd F0 rfl
        obtain ⟨hj2, hF⟩ := field_rt hl (isA_next hl hs) false _ _ _ a1
        obtain ⟨_, j3, c3, a2, hd⟩ := tgo hd () rfl
        obtain ⟨hj3, hT⟩ := one_rt hl hj2 c2 _ _ _ _ a2
        have m1 : k + 1 ≤ j2 := tJ_le a1 fieldJ_le
        have m2 : j2 ≤ j3 := tJ_le a2 oneJ_le
        have hal' : (acc ++ [x]).length = acc.length + 1 := by simp
        repeat' first | refine g_go T hC true 400 rfl rfl ?_ | (exfalso; simp at h; done) | refine g_cond rfl (fun h => ?_) (fun h => ?_) | refine g_end T hC (by kernel_rfl) ?_ | refine g_splitD (fun h => ?_) (fun h => ?_) | refine g_callR hC ((pskip_y hl hs)) (nm [0]) rfl rfl (LeSs.refl _) rfl rfl rfl rfl rfl rfl rfl rfl ?_ | refine g_callR hC (hF) (nm [0]) rfl rfl (LeSs.refl _) rfl rfl rfl rfl rfl rfl rfl rfl ?_ | refine g_lit T hC (rows := [fieldR x]) rfl rfl rfl rfl rfl rfl rfl rfl rfl ?_ | (refine g_append T 102 hC (rows := acc.map fieldR) (rows2 := [fieldR x]) (rows3 := (acc ++ [x]).map fieldR) (bytes := 32) rfl rfl rfl rfl (SrcS.sl (T.es_ok _ _ rfl)) (by rw [List.map_append]; rfl) rfl rfl rfl (by kernel_rfl) (by rw [hal, List.length_singleton]; omega) (by rw [hal, List.length_singleton]; omega) rfl rfl rfl ?_) | refine g_callR hC (hT) (nm [0]) rfl rfl (LeSs.refl _) rfl rfl rfl rfl rfl rfl rfl rfl ?_
        exact g_round (acc ++ [x], j3, c3, g) ⟨hj3, by simp only; omega, hd⟩ (mvP 101 102) (Nat.lt_succ_self _) ⟨rfl, ⟨rfl, rfl, rfl, trivial⟩, ⟨rfl, rfl, rfl, rfl, trivial⟩, rfl, fun i hi => mvP_low (by omega) hi⟩
    · have hS := skip_rt hl hk b (⟨#[108, 111, 99, 97, 108]⟩ : ByteArray)
      rw [if_neg hlo] at hS
      rw [Bool.not_eq_true] at hlo
      rw [hlo] at hS
      have hfin : ls = acc ∧ k6 = k ∧ b6 = b := by
        cases b with
        | true => cases hd; exact ⟨rfl, rfl, rfl⟩
        | false =>
          have hs : ¬ isA l k (⟨#[108, 111, 99, 97, 108]⟩ : ByteArray) = true := by unfold isB at hlo; simpa using hlo
          cases g with
          | zero => simp only [tJ, locsJ] at hd; cases hd
          | succ g => simp only [tJ, locsJ] at hd; rw [if_neg hs] at hd; cases hd; exact ⟨rfl, rfl, rfl⟩
      obtain ⟨rfl, rfl, rfl⟩ := hfin
      repeat' first | refine g_go T hC true 400 rfl rfl ?_ | (exfalso; simp at h; done) | refine g_cond rfl (fun h => ?_) (fun h => ?_) | refine g_end T hC (by kernel_rfl) ?_ | refine g_splitD (fun h => ?_) (fun h => ?_) | refine g_callR hC (hS) (nm [0]) rfl rfl (LeSs.refl _) rfl rfl rfl rfl rfl rfl rfl rfl ?_ | refine g_outE ?_
      refine g_freeze rfl (id := 101) (e := 2) (rows := ls.map fieldR) rfl [] trivial [(1003, [.p (ks n), .p (fieldsP ps), .p (ks (⟨#[]⟩ : ByteArray)), .p (fieldsP ls), .p (.k (.slice none 0 0))])] ⟨⟨_, rfl, by decide, .cons (.refl _) (.cons (.refl _) (.cons (.refl _) (.cons .ar (.cons (.refl _) .nil))))⟩, trivial⟩ ?_
      repeat' first | refine g_go T hC true 400 rfl rfl ?_ | refine g_cond rfl (fun h => ?_) (fun h => ?_) | refine g_end T hC (by kernel_rfl) ?_ | refine g_splitD (fun h => ?_) (fun h => ?_) | refine g_callR hC (h7) (nm [0]) rfl rfl (LeSs.refl _) rfl rfl rfl rfl rfl rfl rfl rfl ?_ | refine g_retl T (.inl rfl) rfl ?_
      exact g_fin ⟨.inl rfl, id, _, rfl, .refl _, ⟨rfl, trivial⟩, rfl, rfl⟩
  · rw [Bool.not_eq_true] at hc
    rw [hc] at hI
    have e4' : tJ b3 (⟨#[]⟩ : ByteArray) k3 (typJ l k3) = some (r, k4, b4) := by
      cases b3 with
      | true => exact e4
      | false =>
        have hs : ¬ isA l k3 ⟨#[123]⟩ = true := by unfold isB at hc; simpa using hc
        simp only [tJ] at e4 ⊢
        rw [if_neg hs] at e4
        exact e4
    obtain ⟨hk4, h4⟩ := typ_rt hl hk3 b3 _ _ _ e4'
    obtain ⟨hk5, h5⟩ := one_rt hl hk4 b4 _ _ _ _ e5
    refine fn_ok T Tryz.func65 (by kernel_rfl) rfl rfl rfl rfl fun C hC => ?_
    repeat' first | refine g_go T hC true 400 rfl rfl ?_ | (exfalso; simp at h; done) | refine g_cond rfl (fun h => ?_) (fun h => ?_) | refine g_end T hC (by kernel_rfl) ?_ | refine g_splitD (fun h => ?_) (fun h => ?_) | refine g_callR hC (h1) (nm [0]) rfl rfl (LeSs.refl _) rfl rfl rfl rfl rfl rfl rfl rfl ?_ | refine g_callR hC (h2) (nm [0]) rfl rfl (LeSs.refl _) rfl rfl rfl rfl rfl rfl rfl rfl ?_ | refine g_mkF hC rfl rfl rfl rfl rfl rfl ?_ | refine g_callR hC (h3) (nm [0]) rfl rfl (LeSs.refl _) rfl rfl rfl rfl rfl rfl rfl rfl ?_ | refine g_callR hC (hI) (nm [0]) rfl rfl (LeSs.refl _) rfl rfl rfl rfl rfl rfl rfl rfl ?_ | refine g_callR hC (h4) (nm [0]) rfl rfl (LeSs.refl _) rfl rfl rfl rfl rfl rfl rfl rfl ?_ | refine g_callR hC (h5) (nm [0]) rfl rfl (LeSs.refl _) rfl rfl rfl rfl rfl rfl rfl rfl ?_
    refine g_adopt hC rfl 101 2 rfl [] trivial [(1003, [.p (ks n), .p (fieldsP ps), .p (ks r), .ar 101, .p (.k (.slice none 0 0))])] ⟨⟨_, rfl, by decide, .cons (.refl _) (.cons (.refl _) (.cons (.refl _) (.cons .nil (.cons (.refl _) .nil))))⟩, trivial⟩ ?_
    refine g_loop (fun q : List Fld × Nat × Bool × Nat => q.2.1 < l.length ∧ q.1.length ≤ q.2.1 ∧ tJ q.2.2.1 q.1 q.2.1 (locsJ l q.2.2.2 q.2.1 q.1) = some (ls, k6, b6))
      (fun q => ([(0, rdV), (2, .one (.bx 1002 0)), (3, .one (.bx 1003 0))], [(0, some (rdR l q.2.1 q.2.2.1)), (1002, some (Res.box (zV [ZK.str, ZK.slice, ZK.str, ZK.slice, ZK.slice]))), (1003, some (Res.box [.p (ks n), .p (fieldsP ps), .p (ks r), .ar 101, .p (.k (.slice none 0 0))])), (101, some (Res.arr 2 (q.1.map fieldR)))])) (fun q => q.2.2.2) hC
      ([], k5, b5, f) ⟨hk5, Nat.zero_le _, e6⟩ id ⟨rfl, ⟨rfl, rfl, rfl, trivial⟩, ⟨rfl, rfl, rfl, rfl, trivial⟩, rfl, fun _ _ => rfl⟩ ?_
    clear e1 e2 e3 e5 e6 h1 h2 h3 h5 hI hk5
    rintro ⟨acc, k, b, g⟩ ⟨hk, hak, hd⟩
    simp only at hk hak hd
    have hal : (acc.map fieldR).length = acc.length := List.length_map _
    by_cases hlo : isB l b k (⟨#[108, 111, 99, 97, 108]⟩ : ByteArray) = true
    · have hb : b = false ∧ isA l k (⟨#[108, 111, 99, 97, 108]⟩ : ByteArray) = true := by unfold isB at hlo; simpa using hlo
      obtain ⟨rfl, hs⟩ := hb
      cases g with
      | zero => simp only [tJ, locsJ] at hd; cases hd
      | succ g =>
        simp only [tJ, locsJ] at hd
        rw [if_pos hs] at hd
        obtain ⟨x, j2, c2, a1, hd⟩ := tgo (b := false) (w := acc ++ [F0]) (k := k + 1) hd F0 rfl
        obtain ⟨hj2, hF⟩ := field_rt hl (isA_next hl hs) false _ _ _ a1
        obtain ⟨_, j3, c3, a2, hd⟩ := tgo hd () rfl
        obtain ⟨hj3, hT⟩ := one_rt hl hj2 c2 _ _ _ _ a2
        have m1 : k + 1 ≤ j2 := tJ_le a1 fieldJ_le
        have m2 : j2 ≤ j3 := tJ_le a2 oneJ_le
        have hal' : (acc ++ [x]).length = acc.length + 1 := by simp
        repeat' first | refine g_go T hC true 400 rfl rfl ?_ | (exfalso; simp at h; done) | refine g_cond rfl (fun h => ?_) (fun h => ?_) | refine g_end T hC (by kernel_rfl) ?_ | refine g_splitD (fun h => ?_) (fun h => ?_) | refine g_callR hC ((pskip_y hl hs)) (nm [0]) rfl rfl (LeSs.refl _) rfl rfl rfl rfl rfl rfl rfl rfl ?_ | refine g_callR hC (hF) (nm [0]) rfl rfl (LeSs.refl _) rfl rfl rfl rfl rfl rfl rfl rfl ?_ | refine g_lit T hC (rows := [fieldR x]) rfl rfl rfl rfl rfl rfl rfl rfl rfl ?_ | (refine g_append T 102 hC (rows := acc.map fieldR) (rows2 := [fieldR x]) (rows3 := (acc ++ [x]).map fieldR) (bytes := 32) rfl rfl rfl rfl (SrcS.sl (T.es_ok _ _ rfl)) (by rw [List.map_append]; rfl) rfl rfl rfl (by kernel_rfl) (by rw [hal, List.length_singleton]; omega) (by rw [hal, List.length_singleton]; omega) rfl rfl rfl ?_) | refine g_callR hC (hT) (nm [0]) rfl rfl (LeSs.refl _) rfl rfl rfl rfl rfl rfl rfl rfl ?_
        exact g_round (acc ++ [x], j3, c3, g) ⟨hj3, by simp only; omega, hd⟩ (mvP 101 102) (Nat.lt_succ_self _) ⟨rfl, ⟨rfl, rfl, rfl, trivial⟩, ⟨rfl, rfl, rfl, rfl, trivial⟩, rfl, fun i hi => mvP_low (by omega) hi⟩
    · have hS := skip_rt hl hk b (⟨#[108, 111, 99, 97, 108]⟩ : ByteArray)
      rw [if_neg hlo] at hS
      rw [Bool.not_eq_true] at hlo
      rw [hlo] at hS
      have hfin : ls = acc ∧ k6 = k ∧ b6 = b := by
        cases b with
        | true => cases hd; exact ⟨rfl, rfl, rfl⟩
        | false =>
          have hs : ¬ isA l k (⟨#[108, 111, 99, 97, 108]⟩ : ByteArray) = true := by unfold isB at hlo; simpa using hlo
          cases g with
          | zero => simp only [tJ, locsJ] at hd; cases hd
          | succ g => simp only [tJ, locsJ] at hd; rw [if_neg hs] at hd; cases hd; exact ⟨rfl, rfl, rfl⟩
      obtain ⟨rfl, rfl, rfl⟩ := hfin
      repeat' first | refine g_go T hC true 400 rfl rfl ?_ | (exfalso; simp at h; done) | refine g_cond rfl (fun h => ?_) (fun h => ?_) | refine g_end T hC (by kernel_rfl) ?_ | refine g_splitD (fun h => ?_) (fun h => ?_) | refine g_callR hC (hS) (nm [0]) rfl rfl (LeSs.refl _) rfl rfl rfl rfl rfl rfl rfl rfl ?_ | refine g_outE ?_
      refine g_freeze rfl (id := 101) (e := 2) (rows := ls.map fieldR) rfl [] trivial [(1003, [.p (ks n), .p (fieldsP ps), .p (ks r), .p (fieldsP ls), .p (.k (.slice none 0 0))])] ⟨⟨_, rfl, by decide, .cons (.refl _) (.cons (.refl _) (.cons (.refl _) (.cons .ar (.cons (.refl _) .nil))))⟩, trivial⟩ ?_
      repeat' first | refine g_go T hC true 400 rfl rfl ?_ | refine g_cond rfl (fun h => ?_) (fun h => ?_) | refine g_end T hC (by kernel_rfl) ?_ | refine g_splitD (fun h => ?_) (fun h => ?_) | refine g_callR hC (h7) (nm [0]) rfl rfl (LeSs.refl _) rfl rfl rfl rfl rfl rfl rfl rfl ?_ | refine g_retl T (.inl rfl) rfl ?_
      exact g_fin ⟨.inl rfl, id, _, rfl, .refl _, ⟨rfl, trivial⟩, rfl, rfl⟩
end
end Hw.Pa
namespace Hw.Pa
open Go Go.Proofs Hw.M

section
variable {l : List Tok} (hl : GoodL l)
include hl
theorem intJ_num {i : Nat} {z : Int} {j : Nat} {b : Bool} (h : intJ l i = some (z, j, b)) : 0 ≤ z ∧ z ≤ 1099511627776 ∧ (b = true → z = 0) := by
  unfold intJ at h
  split at h
  · rename_i t ht
    split at h
    · cases h
      have := hl.num t (List.mem_of_getElem? ht)
      exact ⟨this.1, this.2, fun h => by cases h⟩
    · cases h; exact ⟨Int.le_refl _, by decide, fun _ => rfl⟩
  · cases h; exact ⟨Int.le_refl _, by decide, fun _ => rfl⟩
theorem pmeasure_ok (f i : Nat) (hi : i < l.length) : RJ l 66 [rdV] (fun m => aggS (measureR m)) i (measureJ l f i) := by
  intro xf jf bf hR
  have hll := hl.len
  obtain ⟨n, k1, b1, e1, hR⟩ := tgo (b := false) (w := ⟨(⟨#[]⟩ : ByteArray), (⟨#[]⟩ : ByteArray), 0, E0⟩) (k := i) hR (⟨#[]⟩ : ByteArray) rfl
  obtain ⟨hk1, h1⟩ := name_rt hl hi false _ _ _ e1
  obtain ⟨_, k2, b2, e2, hR⟩ := tgo hR () rfl
  obtain ⟨hk2, h2⟩ := one_rt hl hk1 b1 _ _ _ _ e2
  obtain ⟨t, k3, b3, e3, hR⟩ := tgo hR (⟨#[]⟩ : ByteArray) rfl
  obtain ⟨hk3, h3⟩ := name_rt hl hk2 b2 _ _ _ e3
  obtain ⟨_, k4, b4, e4, hR⟩ := tgo hR () rfl
  obtain ⟨hk4, h4⟩ := one_rt hl hk3 b3 _ _ _ _ e4
  obtain ⟨_, k5, b5, e5, hR⟩ := tgo hR () rfl
  obtain ⟨hk5, h5⟩ := one_rt hl hk4 b4 _ _ _ _ e5
  obtain ⟨z, k6, b6, e6, hR⟩ := tgo hR 0 rfl
  have hS := skip_rt hl hk5 b5 (⟨#[45]⟩ : ByteArray)
  generalize hc : isB l b5 k5 (⟨#[45]⟩ : ByteArray) = c at hS
  have hk5' : (if c = true then k5 + 1 else k5) < l.length := by
    split
    · rename_i h; rw [h] at hc; unfold isB at hc; simp only [Bool.and_eq_true] at hc; exact isA_next hl hc.2
    · exact hk5
  have e6' : tJ b5 0 (if c = true then k5 + 1 else k5) (intJ l (if c = true then k5 + 1 else k5)) = some (z, k6, b6) := by
    cases b5 with
    | true =>
      have : c = false := by rw [← hc]; rfl
      subst this
      exact e6
    | false =>
      have : c = isA l k5 (⟨#[45]⟩ : ByteArray) := by rw [← hc]; simp [isB]
      subst this
      exact e6
  obtain ⟨hk6, h6⟩ := int_rt hl hk5' b5 _ _ _ e6'
  have hz : 0 ≤ z ∧ z ≤ 1099511627776 ∧ (b6 = true → z = 0) := by
    cases b5 with
    | true => cases e6'; exact ⟨Int.le_refl _, by decide, fun _ => rfl⟩
    | false => exact intJ_num hl e6'
  obtain ⟨z0, z1, zb⟩ := hz
  have hR' : tJ b6 ⟨n, t, if isA l k5 (⟨#[45]⟩ : ByteArray) = true then -z else z, E0⟩ k6 (PJ.go (formulaJ l f k6) (fun x j => .ok ⟨n, t, if isA l k5 (⟨#[45]⟩ : ByteArray) = true then -z else z, x⟩ j) (fun x => ⟨n, t, if isA l k5 (⟨#[45]⟩ : ByteArray) = true then -z else z, x⟩)) = some (xf, jf, bf) := by
    cases b6 with
    | true =>
      have : (if isA l k5 (⟨#[45]⟩ : ByteArray) = true then -z else z) = 0 := by rw [zb rfl]; split <;> rfl
      rw [this]; exact hR
    | false => exact hR
  clear hR
  obtain ⟨x, k7, b7, e7, hR⟩ := tgo hR' E0 rfl
  obtain ⟨hk7, h7⟩ := formula_rt hl hk6 b6 f _ _ _ e7
  obtain ⟨rfl, rfl, rfl⟩ := tfin hR
  refine ⟨hk7, ?_⟩
  clear hR hR' e1 e2 e3 e4 e5 e6 e7
  have hv : (if isA l k5 (⟨#[45]⟩ : ByteArray) = true then -z else z) = if c = true then -z else z := by
    cases b5 with
    | true =>
      cases e6'
      split <;> split <;> rfl
    | false =>
      have : c = isA l k5 (⟨#[45]⟩ : ByteArray) := by rw [← hc]; simp [isB]
      rw [this]
  rw [hv]
  cases c with
  | true =>
    simp only [if_true] at hS h6 ⊢
    refine fn_ok T Tryz.func66 (by kernel_rfl) rfl rfl rfl rfl fun C hC => ?_
    repeat' first | refine g_go T hC true 400 rfl rfl ?_ | (exfalso; simp at h; done) | refine g_cond rfl (fun h => ?_) (fun h => ?_) | refine g_callR hC (h1) (nm [0]) rfl rfl (LeSs.refl _) rfl rfl rfl rfl rfl rfl rfl rfl ?_ | refine g_callR hC (h2) (nm [0]) rfl rfl (LeSs.refl _) rfl rfl rfl rfl rfl rfl rfl rfl ?_ | refine g_callR hC (h3) (nm [0]) rfl rfl (LeSs.refl _) rfl rfl rfl rfl rfl rfl rfl rfl ?_ | refine g_callR hC (h4) (nm [0]) rfl rfl (LeSs.refl _) rfl rfl rfl rfl rfl rfl rfl rfl ?_ | refine g_callR hC (h5) (nm [0]) rfl rfl (LeSs.refl _) rfl rfl rfl rfl rfl rfl rfl rfl ?_ | refine g_callR hC (hS) (nm [0]) rfl rfl (LeSs.refl _) rfl rfl rfl rfl rfl rfl rfl rfl ?_ | refine g_callR hC (h6) (nm [0]) rfl rfl (LeSs.refl _) rfl rfl rfl rfl rfl rfl rfl rfl ?_ | refine g_callR hC (h7) (nm [0]) rfl rfl (LeSs.refl _) rfl rfl rfl rfl rfl rfl rfl rfl ?_ | refine g_retl T (.inl rfl) rfl ?_
    rw [show IntKind.i64.wrap (-1 * z) = -z by rw [wrap64 (by omega)]; omega]
    exact g_fin ⟨.inl rfl, id, _, rfl, .refl _, ⟨rfl, trivial⟩, rfl, rfl⟩
  | false =>
    simp only [Bool.false_eq_true, if_false] at hS h6 ⊢
    refine fn_ok T Tryz.func66 (by kernel_rfl) rfl rfl rfl rfl fun C hC => ?_
    repeat' first | refine g_go T hC true 400 rfl rfl ?_ | (exfalso; simp at h; done) | refine g_cond rfl (fun h => ?_) (fun h => ?_) | refine g_callR hC (h1) (nm [0]) rfl rfl (LeSs.refl _) rfl rfl rfl rfl rfl rfl rfl rfl ?_ | refine g_callR hC (h2) (nm [0]) rfl rfl (LeSs.refl _) rfl rfl rfl rfl rfl rfl rfl rfl ?_ | refine g_callR hC (h3) (nm [0]) rfl rfl (LeSs.refl _) rfl rfl rfl rfl rfl rfl rfl rfl ?_ | refine g_callR hC (h4) (nm [0]) rfl rfl (LeSs.refl _) rfl rfl rfl rfl rfl rfl rfl rfl ?_ | refine g_callR hC (h5) (nm [0]) rfl rfl (LeSs.refl _) rfl rfl rfl rfl rfl rfl rfl rfl ?_ | refine g_callR hC (hS) (nm [0]) rfl rfl (LeSs.refl _) rfl rfl rfl rfl rfl rfl rfl rfl ?_ | refine g_callR hC (h6) (nm [0]) rfl rfl (LeSs.refl _) rfl rfl rfl rfl rfl rfl rfl rfl ?_ | refine g_callR hC (h7) (nm [0]) rfl rfl (LeSs.refl _) rfl rfl rfl rfl rfl rfl rfl rfl ?_ | refine g_retl T (.inl rfl) rfl ?_
    rw [show IntKind.i64.wrap (1 * z) = z by rw [wrap64 (by omega)]; omega]
    exact g_fin ⟨.inl rfl, id, _, rfl, .refl _, ⟨rfl, trivial⟩, rfl, rfl⟩
end
end Hw.Pa
namespace Hw.Pa
open Go Go.Proofs Hw.M

def dR (a : Nat) (d : Desc) : RL := [(1, .box [.p (ks d.n), .ar a, .ar (a + 1), .ar (a + 2), .ar (a + 3), .ar (a + 4), .ar (a + 5), .ar (a + 6)]), (a, .arr 2 (d.types.map nodeTR)), (a + 1, .arr 2 (d.globals.map fieldR)), (a + 2, .arr 5 (d.procs.map procR)), (a + 3, .arr 7 (d.measures.map measureR)), (a + 4, .arr 6 (d.invs.map invR)), (a + 5, .arr 5 (d.pots.map potR)), (a + 6, .arr 5 (d.bounds.map boundR))]
def cntD (d : Desc) : Nat := d.types.length + d.globals.length + d.procs.length + d.measures.length + d.invs.length + d.pots.length + d.bounds.length
def kwI (l : List Tok) (i : Nat) : Bool := isA l i (⟨#[116, 121, 112, 101]⟩ : ByteArray) || isA l i (⟨#[118, 97, 114]⟩ : ByteArray) || isA l i (⟨#[112, 114, 111, 99]⟩ : ByteArray) || isA l i (⟨#[109, 101, 97, 115, 117, 114, 101]⟩ : ByteArray) || isA l i (⟨#[105, 110, 118, 97, 114, 105, 97, 110, 116]⟩ : ByteArray) || isA l i (⟨#[112, 111, 116, 101, 110, 116, 105, 97, 108]⟩ : ByteArray) || isA l i (⟨#[98, 111, 117, 110, 100]⟩ : ByteArray)
section
variable {l : List Tok} (hl : GoodL l)
include hl
theorem pitem_no (f i : Nat) (d : Desc) (hi : i < l.length) (hk : kwI l i = false) : FnOK Tryz.prog 28 [rdV, .one (.bx 1 0)] ((0, rdR l i false) :: dR 2 d) (Bo false) ((0, rdR l i false) :: dR 2 d) := by
  unfold kwI at hk
  simp only [Bool.or_eq_false_iff] at hk
  obtain ⟨⟨⟨⟨⟨⟨h1, h2⟩, h3⟩, h4⟩, h5⟩, h6⟩, h7⟩ := hk
  rw [← Bool.not_eq_true] at h1 h2 h3 h4 h5 h6 h7
  refine fn_ok T Tryz.func28 (by kernel_rfl) rfl rfl rfl rfl fun C hC => ?_
  repeat' first | refine g_go T hC true 400 rfl rfl ?_ | (exfalso; simp at h; done) | refine g_cond rfl (fun h => ?_) (fun h => ?_) | refine g_end T hC (by kernel_rfl) ?_ | refine g_splitD (fun h => ?_) (fun h => ?_) | refine g_callR hC ((pskip_n hl hi (by assumption))) (nm [0]) rfl rfl (LeSs.refl _) rfl rfl rfl rfl rfl rfl rfl rfl ?_ | refine g_retl T (.inl rfl) rfl ?_
  exact g_fin ⟨.inl rfl, id, _, rfl, .refl _, ⟨rfl, rfl, rfl, rfl, rfl, rfl, rfl, rfl, rfl, trivial⟩, rfl, rfl⟩
set_option maxHeartbeats 1000000 in
theorem pitem_type (f i : Nat) (d : Desc) (hi : i < l.length) (hd : cntD d ≤ 2000000) {xf : Desc} {jf : Nat} {bf : Bool} (hR : itemJ l f i d = some (xf, jf, bf))  (hs : isA l i (⟨#[116, 121, 112, 101]⟩ : ByteArray) = true) : jf < l.length ∧ cntD xf ≤ cntD d + 1 ∧ FnOK Tryz.prog 28 [rdV, .one (.bx 1 0)] ((0, rdR l i false) :: dR 2 d) (Bo true) ((0, rdR l jf bf) :: dR 9 xf) := by
  have hi1 := isA_next hl hs
  unfold cntD at hd
  simp only [itemJ] at hR
  rw [if_pos hs] at hR
  obtain ⟨n, k1, b1, e1, hR⟩ := tgo (b := false) (w := { d with types := d.types ++ [⟨(⟨#[]⟩ : ByteArray), []⟩] }) (k := i + 1) hR (⟨#[]⟩ : ByteArray) rfl
  obtain ⟨hk1, c1⟩ := name_rt hl hi1 false _ _ _ e1
  obtain ⟨_, k2, b2, e2, hR⟩ := tgo hR () rfl
  obtain ⟨hk2, c2⟩ := one_rt hl hk1 b1 _ _ _ _ e2
  obtain ⟨fs, k3, b3, e3, hR⟩ := tgo hR [] rfl
  obtain ⟨hkf, c3⟩ := listF_rt hl hk2 b2 _ _ f _ _ _ e3
  obtain ⟨rfl, rfl, rfl⟩ := tfin hR
  refine ⟨hkf, by simp only [cntD, List.length_append, List.length_singleton]; omega, ?_⟩
  clear hR
  refine fn_ok T Tryz.func28 (by kernel_rfl) rfl rfl rfl rfl fun C hC => ?_
  repeat' first | refine g_go T hC true 400 rfl rfl ?_ | (exfalso; simp at h; done) | refine g_cond rfl (fun h => ?_) (fun h => ?_) | refine g_end T hC (by kernel_rfl) ?_ | refine g_splitD (fun h => ?_) (fun h => ?_) | refine g_callR hC ((pskip_n hl hi (by assumption))) (nm [0]) rfl rfl (LeSs.refl _) rfl rfl rfl rfl rfl rfl rfl rfl ?_ | refine g_callR hC ((pskip_y hl hs)) (nm [0]) rfl rfl (LeSs.refl _) rfl rfl rfl rfl rfl rfl rfl rfl ?_ | refine g_callR hC (c1) (nm [0]) rfl rfl (LeSs.refl _) rfl rfl rfl rfl rfl rfl rfl rfl ?_ | refine g_callR hC (c2) (nm [0]) rfl rfl (LeSs.refl _) rfl rfl rfl rfl rfl rfl rfl rfl ?_ | refine g_mkF hC rfl rfl rfl rfl rfl rfl ?_ | refine g_callR hC (c3) (nm [0]) rfl rfl (LeSs.refl _) rfl rfl rfl rfl rfl rfl rfl rfl ?_ | refine g_lit T hC (rows := [nodeTR (⟨n, fs⟩ : NodeT)]) rfl rfl rfl rfl rfl rfl rfl rfl rfl ?_ | (refine g_append T 102 hC (rows := d.types.map nodeTR) (rows2 := [nodeTR (⟨n, fs⟩ : NodeT)]) (rows3 := (d.types ++ [(⟨n, fs⟩ : NodeT)]).map nodeTR) (bytes := 40) rfl rfl rfl rfl (SrcS.sl (T.es_ok _ _ rfl)) (by rw [List.map_append]; rfl) rfl rfl rfl (by kernel_rfl) (by rw [List.length_map, List.length_singleton]; omega) (by rw [List.length_map, List.length_singleton]; omega) rfl rfl rfl ?_) | refine g_retl T (.inl rfl) rfl ?_
  exact g_fin ⟨.inl rfl, nm [0, 1, 2, 3, 4, 5, 6, 7, 8, 102, 3, 4, 5, 6, 7, 8], _, rfl, .refl _, ⟨rfl, rfl, rfl, rfl, rfl, rfl, rfl, rfl, rfl, trivial⟩, rfl, rfl⟩
set_option maxHeartbeats 1000000 in
theorem pitem_var (f i : Nat) (d : Desc) (hi : i < l.length) (hd : cntD d ≤ 2000000) {xf : Desc} {jf : Nat} {bf : Bool} (hR : itemJ l f i d = some (xf, jf, bf)) (h1 : ¬ isA l i (⟨#[116, 121, 112, 101]⟩ : ByteArray) = true) (hs : isA l i (⟨#[118, 97, 114]⟩ : ByteArray) = true) : jf < l.length ∧ cntD xf ≤ cntD d + 1 ∧ FnOK Tryz.prog 28 [rdV, .one (.bx 1 0)] ((0, rdR l i false) :: dR 2 d) (Bo true) ((0, rdR l jf bf) :: dR 9 xf) := by
  have hi1 := isA_next hl hs
  unfold cntD at hd
  simp only [itemJ] at hR
  rw [if_neg h1] at hR
  rw [if_pos hs] at hR
  obtain ⟨x, k1, b1, e1, hR⟩ := tgo (b := false) (w := { d with globals := d.globals ++ [F0] }) (k := i + 1) hR F0 rfl
  obtain ⟨hkf, c1⟩ := field_rt hl hi1 false _ _ _ e1
  obtain ⟨rfl, rfl, rfl⟩ := tfin hR
  refine ⟨hkf, by simp only [cntD, List.length_append, List.length_singleton]; omega, ?_⟩
  clear hR
  refine fn_ok T Tryz.func28 (by kernel_rfl) rfl rfl rfl rfl fun C hC => ?_
  repeat' first | refine g_go T hC true 400 rfl rfl ?_ | (exfalso; simp at h; done) | refine g_cond rfl (fun h => ?_) (fun h => ?_) | refine g_end T hC (by kernel_rfl) ?_ | refine g_splitD (fun h => ?_) (fun h => ?_) | refine g_callR hC ((pskip_n hl hi (by assumption))) (nm [0]) rfl rfl (LeSs.refl _) rfl rfl rfl rfl rfl rfl rfl rfl ?_ | refine g_callR hC ((pskip_y hl hs)) (nm [0]) rfl rfl (LeSs.refl _) rfl rfl rfl rfl rfl rfl rfl rfl ?_ | refine g_callR hC (c1) (nm [0]) rfl rfl (LeSs.refl _) rfl rfl rfl rfl rfl rfl rfl rfl ?_ | refine g_lit T hC (rows := [fieldR x]) rfl rfl rfl rfl rfl rfl rfl rfl rfl ?_ | (refine g_append T 102 hC (rows := d.globals.map fieldR) (rows2 := [fieldR x]) (rows3 := (d.globals ++ [x]).map fieldR) (bytes := 32) rfl rfl rfl rfl (SrcS.sl (T.es_ok _ _ rfl)) (by rw [List.map_append]; rfl) rfl rfl rfl (by kernel_rfl) (by rw [List.length_map, List.length_singleton]; omega) (by rw [List.length_map, List.length_singleton]; omega) rfl rfl rfl ?_) | refine g_retl T (.inl rfl) rfl ?_
  exact g_fin ⟨.inl rfl, nm [0, 1, 2, 3, 4, 5, 6, 7, 8, 2, 102, 4, 5, 6, 7, 8], _, rfl, .refl _, ⟨rfl, rfl, rfl, rfl, rfl, rfl, rfl, rfl, rfl, trivial⟩, rfl, rfl⟩
set_option maxHeartbeats 1000000 in
theorem pitem_proc (f i : Nat) (d : Desc) (hi : i < l.length) (hd : cntD d ≤ 2000000) {xf : Desc} {jf : Nat} {bf : Bool} (hR : itemJ l f i d = some (xf, jf, bf)) (h1 : ¬ isA l i (⟨#[116, 121, 112, 101]⟩ : ByteArray) = true) (h2 : ¬ isA l i (⟨#[118, 97, 114]⟩ : ByteArray) = true) (hs : isA l i (⟨#[112, 114, 111, 99]⟩ : ByteArray) = true) : jf < l.length ∧ cntD xf ≤ cntD d + 1 ∧ FnOK Tryz.prog 28 [rdV, .one (.bx 1 0)] ((0, rdR l i false) :: dR 2 d) (Bo true) ((0, rdR l jf bf) :: dR 9 xf) := by
  have hi1 := isA_next hl hs
  unfold cntD at hd
  simp only [itemJ] at hR
  rw [if_neg h1] at hR
  rw [if_neg h2] at hR
  rw [if_pos hs] at hR
  obtain ⟨x, k1, b1, e1, hR⟩ := tgo (b := false) (w := { d with procs := d.procs ++ [⟨(⟨#[]⟩ : ByteArray), [], (⟨#[]⟩ : ByteArray), [], []⟩] }) (k := i + 1) hR ⟨(⟨#[]⟩ : ByteArray), [], (⟨#[]⟩ : ByteArray), [], []⟩ rfl
  obtain ⟨hkf, c1⟩ := pproc_ok hl f _ hi1 _ _ _ e1
  obtain ⟨rfl, rfl, rfl⟩ := tfin hR
  refine ⟨hkf, by simp only [cntD, List.length_append, List.length_singleton]; omega, ?_⟩
  clear hR
  refine fn_ok T Tryz.func28 (by kernel_rfl) rfl rfl rfl rfl fun C hC => ?_
  repeat' first | refine g_go T hC true 400 rfl rfl ?_ | (exfalso; simp at h; done) | refine g_cond rfl (fun h => ?_) (fun h => ?_) | refine g_end T hC (by kernel_rfl) ?_ | refine g_splitD (fun h => ?_) (fun h => ?_) | refine g_callR hC ((pskip_n hl hi (by assumption))) (nm [0]) rfl rfl (LeSs.refl _) rfl rfl rfl rfl rfl rfl rfl rfl ?_ | refine g_callR hC ((pskip_y hl hs)) (nm [0]) rfl rfl (LeSs.refl _) rfl rfl rfl rfl rfl rfl rfl rfl ?_ | refine g_callR hC (c1) (nm [0]) rfl rfl (LeSs.refl _) rfl rfl rfl rfl rfl rfl rfl rfl ?_ | refine g_lit T hC (rows := [procR x]) rfl rfl rfl rfl rfl rfl rfl rfl rfl ?_ | (refine g_append T 102 hC (rows := d.procs.map procR) (rows2 := [procR x]) (rows3 := (d.procs ++ [x]).map procR) (bytes := 104) rfl rfl rfl rfl (SrcS.sl (T.es_ok _ _ rfl)) (by rw [List.map_append]; rfl) rfl rfl rfl (by kernel_rfl) (by rw [List.length_map, List.length_singleton]; omega) (by rw [List.length_map, List.length_singleton]; omega) rfl rfl rfl ?_) | refine g_retl T (.inl rfl) rfl ?_
  exact g_fin ⟨.inl rfl, nm [0, 1, 2, 3, 4, 5, 6, 7, 8, 2, 3, 102, 5, 6, 7, 8], _, rfl, .refl _, ⟨rfl, rfl, rfl, rfl, rfl, rfl, rfl, rfl, rfl, trivial⟩, rfl, rfl⟩
set_option maxHeartbeats 1000000 in
theorem pitem_measure (f i : Nat) (d : Desc) (hi : i < l.length) (hd : cntD d ≤ 2000000) {xf : Desc} {jf : Nat} {bf : Bool} (hR : itemJ l f i d = some (xf, jf, bf)) (h1 : ¬ isA l i (⟨#[116, 121, 112, 101]⟩ : ByteArray) = true) (h2 : ¬ isA l i (⟨#[118, 97, 114]⟩ : ByteArray) = true) (h3 : ¬ isA l i (⟨#[112, 114, 111, 99]⟩ : ByteArray) = true) (hs : isA l i (⟨#[109, 101, 97, 115, 117, 114, 101]⟩ : ByteArray) = true) : jf < l.length ∧ cntD xf ≤ cntD d + 1 ∧ FnOK Tryz.prog 28 [rdV, .one (.bx 1 0)] ((0, rdR l i false) :: dR 2 d) (Bo true) ((0, rdR l jf bf) :: dR 9 xf) := by
  have hi1 := isA_next hl hs
  unfold cntD at hd
  simp only [itemJ] at hR
  rw [if_neg h1] at hR
  rw [if_neg h2] at hR
  rw [if_neg h3] at hR
  rw [if_pos hs] at hR
  obtain ⟨x, k1, b1, e1, hR⟩ := tgo (b := false) (w := { d with measures := d.measures ++ [⟨(⟨#[]⟩ : ByteArray), (⟨#[]⟩ : ByteArray), 0, E0⟩] }) (k := i + 1) hR ⟨(⟨#[]⟩ : ByteArray), (⟨#[]⟩ : ByteArray), 0, E0⟩ rfl
  obtain ⟨hkf, c1⟩ := pmeasure_ok hl f _ hi1 _ _ _ e1
  obtain ⟨rfl, rfl, rfl⟩ := tfin hR
  refine ⟨hkf, by simp only [cntD, List.length_append, List.length_singleton]; omega, ?_⟩
  clear hR
  refine fn_ok T Tryz.func28 (by kernel_rfl) rfl rfl rfl rfl fun C hC => ?_
  repeat' first | refine g_go T hC true 400 rfl rfl ?_ | (exfalso; simp at h; done) | refine g_cond rfl (fun h => ?_) (fun h => ?_) | refine g_end T hC (by kernel_rfl) ?_ | refine g_splitD (fun h => ?_) (fun h => ?_) | refine g_callR hC ((pskip_n hl hi (by assumption))) (nm [0]) rfl rfl (LeSs.refl _) rfl rfl rfl rfl rfl rfl rfl rfl ?_ | refine g_callR hC ((pskip_y hl hs)) (nm [0]) rfl rfl (LeSs.refl _) rfl rfl rfl rfl rfl rfl rfl rfl ?_ | refine g_callR hC (c1) (nm [0]) rfl rfl (LeSs.refl _) rfl rfl rfl rfl rfl rfl rfl rfl ?_ | refine g_lit T hC (rows := [measureR x]) rfl rfl rfl rfl rfl rfl rfl rfl rfl ?_ | (refine g_append T 102 hC (rows := d.measures.map measureR) (rows2 := [measureR x]) (rows3 := (d.measures ++ [x]).map measureR) (bytes := 96) rfl rfl rfl rfl (SrcS.sl (T.es_ok _ _ rfl)) (by rw [List.map_append]; rfl) rfl rfl rfl (by kernel_rfl) (by rw [List.length_map, List.length_singleton]; omega) (by rw [List.length_map, List.length_singleton]; omega) rfl rfl rfl ?_) | refine g_retl T (.inl rfl) rfl ?_
  exact g_fin ⟨.inl rfl, nm [0, 1, 2, 3, 4, 5, 6, 7, 8, 2, 3, 4, 102, 6, 7, 8], _, rfl, .refl _, ⟨rfl, rfl, rfl, rfl, rfl, rfl, rfl, rfl, rfl, trivial⟩, rfl, rfl⟩
set_option maxHeartbeats 1000000 in
theorem pitem_bound (f i : Nat) (d : Desc) (hi : i < l.length) (hd : cntD d ≤ 2000000) {xf : Desc} {jf : Nat} {bf : Bool} (hR : itemJ l f i d = some (xf, jf, bf)) (h1 : ¬ isA l i (⟨#[116, 121, 112, 101]⟩ : ByteArray) = true) (h2 : ¬ isA l i (⟨#[118, 97, 114]⟩ : ByteArray) = true) (h3 : ¬ isA l i (⟨#[112, 114, 111, 99]⟩ : ByteArray) = true) (h4 : ¬ isA l i (⟨#[109, 101, 97, 115, 117, 114, 101]⟩ : ByteArray) = true) (h5 : ¬ isA l i (⟨#[105, 110, 118, 97, 114, 105, 97, 110, 116]⟩ : ByteArray) = true) (h6 : ¬ isA l i (⟨#[112, 111, 116, 101, 110, 116, 105, 97, 108]⟩ : ByteArray) = true) (hs : isA l i (⟨#[98, 111, 117, 110, 100]⟩ : ByteArray) = true) : jf < l.length ∧ cntD xf ≤ cntD d + 1 ∧ FnOK Tryz.prog 28 [rdV, .one (.bx 1 0)] ((0, rdR l i false) :: dR 2 d) (Bo true) ((0, rdR l jf bf) :: dR 9 xf) := by
  have hi1 := isA_next hl hs
  unfold cntD at hd
  simp only [itemJ] at hR
  rw [if_neg h1] at hR
  rw [if_neg h2] at hR
  rw [if_neg h3] at hR
  rw [if_neg h4] at hR
  rw [if_neg h5] at hR
  rw [if_neg h6] at hR
  rw [if_pos hs] at hR
  obtain ⟨n, k1, b1, e1, hR⟩ := tgo (b := false) (w := { d with bounds := d.bounds ++ [⟨(⟨#[]⟩ : ByteArray), E0⟩] }) (k := i + 1) hR (⟨#[]⟩ : ByteArray) rfl
  obtain ⟨hk1, c1⟩ := name_rt hl hi1 false _ _ _ e1
  obtain ⟨x, k2, b2, e2, hR⟩ := tgo hR E0 rfl
  obtain ⟨hkf, c2⟩ := formula_rt hl hk1 b1 f _ _ _ e2
  obtain ⟨rfl, rfl, rfl⟩ := tfin hR
  refine ⟨hkf, by simp only [cntD, List.length_append, List.length_singleton]; omega, ?_⟩
  clear hR
  refine fn_ok T Tryz.func28 (by kernel_rfl) rfl rfl rfl rfl fun C hC => ?_
  repeat' first | refine g_go T hC true 400 rfl rfl ?_ | (exfalso; simp at h; done) | refine g_cond rfl (fun h => ?_) (fun h => ?_) | refine g_end T hC (by kernel_rfl) ?_ | refine g_splitD (fun h => ?_) (fun h => ?_) | refine g_callR hC ((pskip_n hl hi (by assumption))) (nm [0]) rfl rfl (LeSs.refl _) rfl rfl rfl rfl rfl rfl rfl rfl ?_ | refine g_callR hC ((pskip_y hl hs)) (nm [0]) rfl rfl (LeSs.refl _) rfl rfl rfl rfl rfl rfl rfl rfl ?_ | refine g_callR hC (c1) (nm [0]) rfl rfl (LeSs.refl _) rfl rfl rfl rfl rfl rfl rfl rfl ?_ | refine g_callR hC (c2) (nm [0]) rfl rfl (LeSs.refl _) rfl rfl rfl rfl rfl rfl rfl rfl ?_ | refine g_lit T hC (rows := [boundR (⟨n, x⟩ : Bd)]) rfl rfl rfl rfl rfl rfl rfl rfl rfl ?_ | (refine g_append T 102 hC (rows := d.bounds.map boundR) (rows2 := [boundR (⟨n, x⟩ : Bd)]) (rows3 := (d.bounds ++ [(⟨n, x⟩ : Bd)]).map boundR) (bytes := 72) rfl rfl rfl rfl (SrcS.sl (T.es_ok _ _ rfl)) (by rw [List.map_append]; rfl) rfl rfl rfl (by kernel_rfl) (by rw [List.length_map, List.length_singleton]; omega) (by rw [List.length_map, List.length_singleton]; omega) rfl rfl rfl ?_) | refine g_retl T (.inl rfl) rfl ?_
  exact g_fin ⟨.inl rfl, nm [0, 1, 2, 3, 4, 5, 6, 7, 8, 2, 3, 4, 5, 6, 7, 102], _, rfl, .refl _, ⟨rfl, rfl, rfl, rfl, rfl, rfl, rfl, rfl, rfl, trivial⟩, rfl, rfl⟩
set_option maxHeartbeats 1000000 in
theorem pitem_potential (f i : Nat) (d : Desc) (hi : i < l.length) (hd : cntD d ≤ 2000000) {xf : Desc} {jf : Nat} {bf : Bool} (hR : itemJ l f i d = some (xf, jf, bf)) (h1 : ¬ isA l i (⟨#[116, 121, 112, 101]⟩ : ByteArray) = true) (h2 : ¬ isA l i (⟨#[118, 97, 114]⟩ : ByteArray) = true) (h3 : ¬ isA l i (⟨#[112, 114, 111, 99]⟩ : ByteArray) = true) (h4 : ¬ isA l i (⟨#[109, 101, 97, 115, 117, 114, 101]⟩ : ByteArray) = true) (h5 : ¬ isA l i (⟨#[105, 110, 118, 97, 114, 105, 97, 110, 116]⟩ : ByteArray) = true) (hs : isA l i (⟨#[112, 111, 116, 101, 110, 116, 105, 97, 108]⟩ : ByteArray) = true) : jf < l.length ∧ cntD xf ≤ cntD d + 1 ∧ FnOK Tryz.prog 28 [rdV, .one (.bx 1 0)] ((0, rdR l i false) :: dR 2 d) (Bo true) ((0, rdR l jf bf) :: dR 9 xf) := by
  have hi1 := isA_next hl hs
  unfold cntD at hd
  simp only [itemJ] at hR
  rw [if_neg h1] at hR
  rw [if_neg h2] at hR
  rw [if_neg h3] at hR
  rw [if_neg h4] at hR
  rw [if_neg h5] at hR
  rw [if_pos hs] at hR
  obtain ⟨t, k1, b1, e1, hR1⟩ := tgo (b := false) (w := { d with pots := d.pots ++ [⟨(⟨#[]⟩ : ByteArray), E0⟩] }) (k := i + 1) hR (⟨#[]⟩ : ByteArray) rfl
  clear hR
  simp only [tJ] at e1
  by_cases hq : isA l (i + 1) (⟨#[61]⟩ : ByteArray) = true
  · rw [if_pos hq] at e1
    have hfin : t = (⟨#[]⟩ : ByteArray) ∧ k1 = i + 1 ∧ b1 = false := by cases e1; exact ⟨rfl, rfl, rfl⟩
    obtain ⟨rfl, rfl, rfl⟩ := hfin
    obtain ⟨x, k2, b2, e2, hR2⟩ := tgo hR1 E0 rfl
    obtain ⟨hkf, c2⟩ := formula_rt hl hi1 false f _ _ _ e2
    obtain ⟨rfl, rfl, rfl⟩ := tfin hR2
    refine ⟨hkf, by simp only [cntD, List.length_append, List.length_singleton]; omega, ?_⟩
    clear hR1 hR2
    refine fn_ok T Tryz.func28 (by kernel_rfl) rfl rfl rfl rfl fun C hC => ?_
    repeat' first | refine g_go T hC true 400 rfl rfl ?_ | (exfalso; simp at h; done) | refine g_cond rfl (fun h => ?_) (fun h => ?_) | refine g_end T hC (by kernel_rfl) ?_ | refine g_splitD (fun h => ?_) (fun h => ?_) | refine g_callR hC ((pskip_n hl hi (by assumption))) (nm [0]) rfl rfl (LeSs.refl _) rfl rfl rfl rfl rfl rfl rfl rfl ?_ | refine g_callR hC ((pskip_y hl hs)) (nm [0]) rfl rfl (LeSs.refl _) rfl rfl rfl rfl rfl rfl rfl rfl ?_ | refine g_callR hC ((pis_y hl hq)) (nm [0]) rfl rfl (LeSs.refl _) rfl rfl rfl rfl rfl rfl rfl rfl ?_ | refine g_callR hC (c2) (nm [0]) rfl rfl (LeSs.refl _) rfl rfl rfl rfl rfl rfl rfl rfl ?_ | refine g_lit T hC (rows := [potR (⟨(⟨#[]⟩ : ByteArray), x⟩ : Pt)]) rfl rfl rfl rfl rfl rfl rfl rfl rfl ?_ | (refine g_append T 102 hC (rows := d.pots.map potR) (rows2 := [potR (⟨(⟨#[]⟩ : ByteArray), x⟩ : Pt)]) (rows3 := (d.pots ++ [(⟨(⟨#[]⟩ : ByteArray), x⟩ : Pt)]).map potR) (bytes := 72) rfl rfl rfl rfl (SrcS.sl (T.es_ok _ _ rfl)) (by rw [List.map_append]; rfl) rfl rfl rfl (by kernel_rfl) (by rw [List.length_map, List.length_singleton]; omega) (by rw [List.length_map, List.length_singleton]; omega) rfl rfl rfl ?_) | refine g_retl T (.inl rfl) rfl ?_
    exact g_fin ⟨.inl rfl, nm [0, 1, 2, 3, 4, 5, 6, 7, 8, 2, 3, 4, 5, 6, 102, 8], _, rfl, .refl _, ⟨rfl, rfl, rfl, rfl, rfl, rfl, rfl, rfl, rfl, trivial⟩, rfl, rfl⟩
  · rw [if_neg hq] at e1
    obtain ⟨hk1, c1⟩ := name_rt hl hi1 false _ _ _ e1
    obtain ⟨x, k2, b2, e2, hR2⟩ := tgo hR1 E0 rfl
    obtain ⟨hkf, c2⟩ := formula_rt hl hk1 b1 f _ _ _ e2
    obtain ⟨rfl, rfl, rfl⟩ := tfin hR2
    refine ⟨hkf, by simp only [cntD, List.length_append, List.length_singleton]; omega, ?_⟩
    clear hR1 hR2
    refine fn_ok T Tryz.func28 (by kernel_rfl) rfl rfl rfl rfl fun C hC => ?_
    repeat' first | refine g_go T hC true 400 rfl rfl ?_ | (exfalso; simp at h; done) | refine g_cond rfl (fun h => ?_) (fun h => ?_) | refine g_end T hC (by kernel_rfl) ?_ | refine g_splitD (fun h => ?_) (fun h => ?_) | refine g_callR hC ((pskip_n hl hi (by assumption))) (nm [0]) rfl rfl (LeSs.refl _) rfl rfl rfl rfl rfl rfl rfl rfl ?_ | refine g_callR hC ((pskip_y hl hs)) (nm [0]) rfl rfl (LeSs.refl _) rfl rfl rfl rfl rfl rfl rfl rfl ?_ | refine g_callR hC ((pis_n hl hi1 hq)) (nm [0]) rfl rfl (LeSs.refl _) rfl rfl rfl rfl rfl rfl rfl rfl ?_ | refine g_callR hC (c1) (nm [0]) rfl rfl (LeSs.refl _) rfl rfl rfl rfl rfl rfl rfl rfl ?_ | refine g_callR hC (c2) (nm [0]) rfl rfl (LeSs.refl _) rfl rfl rfl rfl rfl rfl rfl rfl ?_ | refine g_lit T hC (rows := [potR (⟨t, x⟩ : Pt)]) rfl rfl rfl rfl rfl rfl rfl rfl rfl ?_ | (refine g_append T 102 hC (rows := d.pots.map potR) (rows2 := [potR (⟨t, x⟩ : Pt)]) (rows3 := (d.pots ++ [(⟨t, x⟩ : Pt)]).map potR) (bytes := 72) rfl rfl rfl rfl (SrcS.sl (T.es_ok _ _ rfl)) (by rw [List.map_append]; rfl) rfl rfl rfl (by kernel_rfl) (by rw [List.length_map, List.length_singleton]; omega) (by rw [List.length_map, List.length_singleton]; omega) rfl rfl rfl ?_) | refine g_retl T (.inl rfl) rfl ?_
    exact g_fin ⟨.inl rfl, nm [0, 1, 2, 3, 4, 5, 6, 7, 8, 2, 3, 4, 5, 6, 102, 8], _, rfl, .refl _, ⟨rfl, rfl, rfl, rfl, rfl, rfl, rfl, rfl, rfl, trivial⟩, rfl, rfl⟩
set_option maxHeartbeats 1000000 in
theorem pitem_invariant (f i : Nat) (d : Desc) (hi : i < l.length) (hd : cntD d ≤ 2000000) {xf : Desc} {jf : Nat} {bf : Bool} (hR : itemJ l f i d = some (xf, jf, bf)) (h1 : ¬ isA l i (⟨#[116, 121, 112, 101]⟩ : ByteArray) = true) (h2 : ¬ isA l i (⟨#[118, 97, 114]⟩ : ByteArray) = true) (h3 : ¬ isA l i (⟨#[112, 114, 111, 99]⟩ : ByteArray) = true) (h4 : ¬ isA l i (⟨#[109, 101, 97, 115, 117, 114, 101]⟩ : ByteArray) = true) (hs : isA l i (⟨#[105, 110, 118, 97, 114, 105, 97, 110, 116]⟩ : ByteArray) = true) : jf < l.length ∧ cntD xf ≤ cntD d + 1 ∧ FnOK Tryz.prog 28 [rdV, .one (.bx 1 0)] ((0, rdR l i false) :: dR 2 d) (Bo true) ((0, rdR l jf bf) :: dR 9 xf) := by
  have hi1 := isA_next hl hs
  unfold cntD at hd
  simp only [itemJ] at hR
  rw [if_neg h1] at hR
  rw [if_neg h2] at hR
  rw [if_neg h3] at hR
  rw [if_neg h4] at hR
  rw [if_pos hs] at hR
  obtain ⟨n, k1, b1, e1, hR1⟩ := tgo (b := false) (w := { d with invs := d.invs ++ [⟨(⟨#[]⟩ : ByteArray), (⟨#[]⟩ : ByteArray), E0⟩] }) (k := i + 1) hR (⟨#[]⟩ : ByteArray) rfl
  obtain ⟨hk1, c1⟩ := name_rt hl hi1 false _ _ _ e1
  obtain ⟨t, k2, b2, e2, hR2⟩ := tgo hR1 (⟨#[]⟩ : ByteArray) rfl
  clear hR hR1
  have hS := skip_rt hl hk1 b1 (⟨#[40]⟩ : ByteArray)
  by_cases hq : isB l b1 k1 (⟨#[40]⟩ : ByteArray) = true
  · rw [hq] at hS
    have hb : b1 = false ∧ isA l k1 (⟨#[40]⟩ : ByteArray) = true := by unfold isB at hq; simpa using hq
    obtain ⟨rfl, hp⟩ := hb
    simp only [tJ] at e2
    rw [if_pos hp] at e2
    obtain ⟨t2, k3, b3, e3, e4⟩ := tgo (b := false) (w := (⟨#[]⟩ : ByteArray)) (k := k1 + 1) e2 (⟨#[]⟩ : ByteArray) rfl
    obtain ⟨hk3, c3⟩ := name_rt hl (isA_next hl hp) false _ _ _ e3
    obtain ⟨_, k4, b4, e5, e6⟩ := tgo e4 () rfl
    obtain ⟨hk4, c4⟩ := one_rt hl hk3 b3 _ _ _ _ e5
    obtain ⟨rfl, rfl, rfl⟩ := tfin e6
    obtain ⟨x, k5, b5, e7, hR3⟩ := tgo hR2 E0 rfl
    obtain ⟨hkf, c5⟩ := formula_rt hl hk4 _ f _ _ _ e7
    obtain ⟨rfl, rfl, rfl⟩ := tfin hR3
    refine ⟨hkf, by simp only [cntD, List.length_append, List.length_singleton]; omega, ?_⟩
    clear hR2 hR3
    refine fn_ok T Tryz.func28 (by kernel_rfl) rfl rfl rfl rfl fun C hC => ?_
    repeat' first | refine g_go T hC true 400 rfl rfl ?_ | (exfalso; simp at h; done) | refine g_cond rfl (fun h => ?_) (fun h => ?_) | refine g_end T hC (by kernel_rfl) ?_ | refine g_splitD (fun h => ?_) (fun h => ?_) | refine g_callR hC ((pskip_n hl hi (by assumption))) (nm [0]) rfl rfl (LeSs.refl _) rfl rfl rfl rfl rfl rfl rfl rfl ?_ | refine g_callR hC ((pskip_y hl hs)) (nm [0]) rfl rfl (LeSs.refl _) rfl rfl rfl rfl rfl rfl rfl rfl ?_ | refine g_callR hC (c1) (nm [0]) rfl rfl (LeSs.refl _) rfl rfl rfl rfl rfl rfl rfl rfl ?_ | refine g_callR hC (hS) (nm [0]) rfl rfl (LeSs.refl _) rfl rfl rfl rfl rfl rfl rfl rfl ?_ | refine g_callR hC (c3) (nm [0]) rfl rfl (LeSs.refl _) rfl rfl rfl rfl rfl rfl rfl rfl ?_ | refine g_callR hC (c4) (nm [0]) rfl rfl (LeSs.refl _) rfl rfl rfl rfl rfl rfl rfl rfl ?_ | refine g_callR hC (c5) (nm [0]) rfl rfl (LeSs.refl _) rfl rfl rfl rfl rfl rfl rfl rfl ?_ | refine g_lit T hC (rows := [invR (⟨n, t, x⟩ : Iv)]) rfl rfl rfl rfl rfl rfl rfl rfl rfl ?_ | (refine g_append T 102 hC (rows := d.invs.map invR) (rows2 := [invR (⟨n, t, x⟩ : Iv)]) (rows3 := (d.invs ++ [(⟨n, t, x⟩ : Iv)]).map invR) (bytes := 88) rfl rfl rfl rfl (SrcS.sl (T.es_ok _ _ rfl)) (by rw [List.map_append]; rfl) rfl rfl rfl (by kernel_rfl) (by rw [List.length_map, List.length_singleton]; omega) (by rw [List.length_map, List.length_singleton]; omega) rfl rfl rfl ?_) | refine g_retl T (.inl rfl) rfl ?_
    exact g_fin ⟨.inl rfl, nm [0, 1, 2, 3, 4, 5, 6, 7, 8, 2, 3, 4, 5, 102, 7, 8], _, rfl, .refl _, ⟨rfl, rfl, rfl, rfl, rfl, rfl, rfl, rfl, rfl, trivial⟩, rfl, rfl⟩
  · rw [Bool.not_eq_true] at hq
    rw [hq] at hS
    have hfin : t = (⟨#[]⟩ : ByteArray) ∧ k2 = k1 ∧ b2 = b1 := by
      cases b1 with
      | true => cases e2; exact ⟨rfl, rfl, rfl⟩
      | false =>
        have hp : ¬ isA l k1 (⟨#[40]⟩ : ByteArray) = true := by unfold isB at hq; simpa using hq
        simp only [tJ] at e2
        rw [if_neg hp] at e2
        cases e2; exact ⟨rfl, rfl, rfl⟩
    obtain ⟨rfl, rfl, rfl⟩ := hfin
    simp only [Bool.false_eq_true, if_false] at hS
    obtain ⟨x, k5, b5, e7, hR3⟩ := tgo hR2 E0 rfl
    obtain ⟨hkf, c5⟩ := formula_rt hl hk1 _ f _ _ _ e7
    obtain ⟨rfl, rfl, rfl⟩ := tfin hR3
    refine ⟨hkf, by simp only [cntD, List.length_append, List.length_singleton]; omega, ?_⟩
    clear hR2 hR3
    refine fn_ok T Tryz.func28 (by kernel_rfl) rfl rfl rfl rfl fun C hC => ?_
    repeat' first | refine g_go T hC true 400 rfl rfl ?_ | (exfalso; simp at h; done) | refine g_cond rfl (fun h => ?_) (fun h => ?_) | refine g_end T hC (by kernel_rfl) ?_ | refine g_splitD (fun h => ?_) (fun h => ?_) | refine g_callR hC ((pskip_n hl hi (by assumption))) (nm [0]) rfl rfl (LeSs.refl _) rfl rfl rfl rfl rfl rfl rfl rfl ?_ | refine g_callR hC ((pskip_y hl hs)) (nm [0]) rfl rfl (LeSs.refl _) rfl rfl rfl rfl rfl rfl rfl rfl ?_ | refine g_callR hC (c1) (nm [0]) rfl rfl (LeSs.refl _) rfl rfl rfl rfl rfl rfl rfl rfl ?_ | refine g_callR hC (hS) (nm [0]) rfl rfl (LeSs.refl _) rfl rfl rfl rfl rfl rfl rfl rfl ?_ | refine g_callR hC (c5) (nm [0]) rfl rfl (LeSs.refl _) rfl rfl rfl rfl rfl rfl rfl rfl ?_ | refine g_lit T hC (rows := [invR (⟨n, (⟨#[]⟩ : ByteArray), x⟩ : Iv)]) rfl rfl rfl rfl rfl rfl rfl rfl rfl ?_ | (refine g_append T 102 hC (rows := d.invs.map invR) (rows2 := [invR (⟨n, (⟨#[]⟩ : ByteArray), x⟩ : Iv)]) (rows3 := (d.invs ++ [(⟨n, (⟨#[]⟩ : ByteArray), x⟩ : Iv)]).map invR) (bytes := 88) rfl rfl rfl rfl (SrcS.sl (T.es_ok _ _ rfl)) (by rw [List.map_append]; rfl) rfl rfl rfl (by kernel_rfl) (by rw [List.length_map, List.length_singleton]; omega) (by rw [List.length_map, List.length_singleton]; omega) rfl rfl rfl ?_) | refine g_retl T (.inl rfl) rfl ?_
    exact g_fin ⟨.inl rfl, nm [0, 1, 2, 3, 4, 5, 6, 7, 8, 2, 3, 4, 5, 102, 7, 8], _, rfl, .refl _, ⟨rfl, rfl, rfl, rfl, rfl, rfl, rfl, rfl, rfl, trivial⟩, rfl, rfl⟩
theorem pitem_ok (f i : Nat) (d : Desc) (hi : i < l.length) (hd : cntD d ≤ 2000000) {xf : Desc} {jf : Nat} {bf : Bool} (hR : itemJ l f i d = some (xf, jf, bf)) (hk : kwI l i = true) : jf < l.length ∧ cntD xf ≤ cntD d + 1 ∧ FnOK Tryz.prog 28 [rdV, .one (.bx 1 0)] ((0, rdR l i false) :: dR 2 d) (Bo true) ((0, rdR l jf bf) :: dR 9 xf) := by
  by_cases h1 : isA l i (⟨#[116, 121, 112, 101]⟩ : ByteArray) = true
  · exact pitem_type hl f i d hi hd hR  h1
  by_cases h2 : isA l i (⟨#[118, 97, 114]⟩ : ByteArray) = true
  · exact pitem_var hl f i d hi hd hR h1 h2
  by_cases h3 : isA l i (⟨#[112, 114, 111, 99]⟩ : ByteArray) = true
  · exact pitem_proc hl f i d hi hd hR h1 h2 h3
  by_cases h4 : isA l i (⟨#[109, 101, 97, 115, 117, 114, 101]⟩ : ByteArray) = true
  · exact pitem_measure hl f i d hi hd hR h1 h2 h3 h4
  by_cases h5 : isA l i (⟨#[105, 110, 118, 97, 114, 105, 97, 110, 116]⟩ : ByteArray) = true
  · exact pitem_invariant hl f i d hi hd hR h1 h2 h3 h4 h5
  by_cases h6 : isA l i (⟨#[112, 111, 116, 101, 110, 116, 105, 97, 108]⟩ : ByteArray) = true
  · exact pitem_potential hl f i d hi hd hR h1 h2 h3 h4 h5 h6
  have h7 : isA l i (⟨#[98, 111, 117, 110, 100]⟩ : ByteArray) = true := by unfold kwI at hk; simpa [h1, h2, h3, h4, h5, h6] using hk
  exact pitem_bound hl f i d hi hd hR h1 h2 h3 h4 h5 h6 h7
end
end Hw.Pa
