/- The engine and the contracts. -/
import Derived.Test.YtnijeifpjjeccaaGreatDoorC17
import Derived.Test.YtnijeifpjjeccaaGreatDoorC3
set_option linter.unusedVariables false
set_option linter.unusedSimpArgs false
namespace Hw.Mq
open Go Go.Proofs Go.Shelf Hw.M

/-! operations as text: the reference's Parse -/
/-- How far the first word goes. -/
def endW (l : By) : Nat := (l.takeWhile fun b => decide (b ≠ 32)).length
theorem endW_of : ∀ {l : By} {i : Nat}, i ≤ l.length → (∀ b ∈ l.take i, b ≠ 32) → (∀ b, l[i]? = some b → b = 32) → endW l = i
  | [], i, h, _, _ => by simp at h; subst h; rfl
  | x :: r, 0, _, _, h3 => by
    have := h3 x rfl
    subst this
    rfl
  | x :: r, i + 1, h1, h2, h3 => by
    have hx : x ≠ 32 := h2 x (by simp)
    have := endW_of (l := r) (i := i) (by simpa using h1) (fun b hb => h2 b (by simp [hb])) (fun b hb => h3 b (by simpa using hb))
    unfold endW at this ⊢
    rw [List.takeWhile_cons_of_pos (by simpa using hx), List.length_cons, this]
def codeR (p : Str) : List Str → Nat → Int → Int
  | [], _, c => c
  | n :: r, i, c => codeR p r (i + 1) (if n = p then ((i + 1 : Nat) : Int) else c)
def stepN (n : Int) (b : UInt8) : Int := max (min (10 * n + (b.toNat : Int) - 48) 1048577) 0
def scanN : By → Int → Int × By
  | [], n => (n, [])
  | b :: r, n => if b = 32 then (n, b :: r) else scanN r (stepN n b)
theorem scanN_len : ∀ (l : By) (n : Int), (scanN l n).2.length ≤ l.length
  | [], n => Nat.le_refl _
  | b :: r, n => by
    unfold scanN
    split
    · exact Nat.le_refl _
    · have := scanN_len r (stepN n b); simp only [List.length_cons]; omega
def signR (l : By) : Int := if l.head? = some 45 then -1 else 1
def magR (l : By) : By := if l.head? = some 45 then l.drop 1 else l
theorem magR_len (l : By) : (magR l).length ≤ l.length := by
  unfold magR; split
  · rw [List.length_drop]; omega
  · exact Nat.le_refl _
def argsR (l : By) (a : List Int) : List Int :=
  if h : l = [] ∨ 64 < a.length then a
  else argsR (scanN (magR (l.drop 1)) 0).2 (a ++ [signR (l.drop 1) * (scanN (magR (l.drop 1)) 0).1])
termination_by l.length
decreasing_by
  have h1 := scanN_len (magR (l.drop 1)) 0
  have h2 := magR_len (l.drop 1)
  rw [List.length_drop] at h2
  have : l.length ≠ 0 := fun e => h (.inl (List.length_eq_zero_iff.1 e))
  omega
theorem argsR_end {l : By} {a : List Int} (h : l = [] ∨ 64 < a.length) : argsR l a = a := by rw [argsR, dif_pos h]
theorem argsR_go {l : By} {a : List Int} (h : ¬(l = [] ∨ 64 < a.length)) : argsR l a = argsR (scanN (magR (l.drop 1)) 0).2 (a ++ [signR (l.drop 1) * (scanN (magR (l.drop 1)) 0).1]) := by
  rw [argsR, dif_neg h]
def opO (k : Int) (s : Str) : OpT := ⟨codeR (s.extract 0 (endW (lst s))) (namesL k) 0 0, argsR ((lst s).drop (endW (lst s))) []⟩
def opX (k : Int) (s : Str) : Option OpT := if okOp k (opO k s) = true ∧ opTx k (opO k s) = s then some (opO k s) else none
theorem codeR_range (p : Str) : ∀ (l : List Str) (i : Nat) (c : Int), 0 ≤ c → c ≤ i → 0 ≤ codeR p l i c ∧ codeR p l i c ≤ ((i + l.length : Nat) : Int)
  | [], i, c, h0, h1 => ⟨h0, by simpa [codeR] using h1⟩
  | n :: r, i, c, h0, h1 => by
    unfold codeR
    have := codeR_range p r (i + 1) (if n = p then ((i + 1 : Nat) : Int) else c) (by split <;> omega) (by split <;> omega)
    simp only [List.length_cons]
    omega
theorem sign_cases (l : By) (m : Nat) : (l[m + 1]? = some 45 ∧ magR (l.drop (m + 1)) = l.drop (m + 2) ∧ signR (l.drop (m + 1)) = -1) ∨ ((∃ x, l[m + 1]? = some x ∧ ¬ (x.toNat : Int) = 45) ∧ magR (l.drop (m + 1)) = l.drop (m + 1) ∧ signR (l.drop (m + 1)) = 1) ∨
    (l.length ≤ m + 1 ∧ magR (l.drop (m + 1)) = l.drop (m + 1) ∧ signR (l.drop (m + 1)) = 1) := by
  unfold magR signR
  rw [List.head?_drop]
  cases hx : l[m + 1]? with
  | none => exact .inr (.inr ⟨List.getElem?_eq_none_iff.1 hx, if_neg (by simp), if_neg (by simp)⟩)
  | some x =>
    by_cases h : x = 45
    · subst h
      exact .inl ⟨rfl, by rw [if_pos rfl, List.drop_drop], if_pos rfl⟩
    · refine .inr (.inl ⟨⟨x, rfl, fun e => h ?_⟩, if_neg (by simpa using h), if_neg (by simpa using h)⟩)
      apply UInt8.toNat_inj.1
      have : (45 : UInt8).toNat = 45 := rfl
      omega
theorem scanN_stop {l : By} {n : Int} (h : ∀ b, l.head? = some b → b = 32) : scanN l n = (n, l) := by
  cases l with
  | nil => rfl
  | cons b r =>
    have := h b rfl
    subst this
    rfl
theorem scanN_step {b : UInt8} {r : By} {n : Int} (h : b ≠ 32) : scanN (b :: r) n = scanN r (stepN n b) := by rw [scanN, if_neg h]
theorem stepN_bd (n : Int) (b : UInt8) : 0 ≤ stepN n b ∧ stepN n b ≤ 1048577 := by unfold stepN; omega
theorem go_no {s : Str} {i : Nat} {a : List Int} (h : (lst s).drop i = [] ∨ 64 < a.length) (hl : (lst s).length = s.size) (hm : (a.map intR).length = a.length) (h1 : (i : Int) < (s.size : Int)) (h2 : (((a.map intR).length : Nat) : Int) ≤ 64) : False := by
  rcases h with h | h
  · have := List.drop_eq_nil_iff.1 h; omega
  · omega
set_option maxHeartbeats 1000000 in
theorem rParse_ok (k : Int) (s : Str) (hk : 1 ≤ k ∧ k ≤ 6) (hs : s.size ≤ 1000000) : FnOK Tryz.prog 12 [I k, Sr s] [] (.tup [aggS (opR ((opX k s).getD zeroOp)), .bq (opX k s).isSome]) [] := by
  have hW := rWords_ok hk
  have hl := lst_len s
  have h8 := words_len (k := k)
  have hnl : (namesL k).length ≤ 8 := by unfold namesL; rw [List.length_map]; exact h8
  have ho : opX k s = if okOp k (opO k s) = true ∧ opTx k (opO k s) = s then some (opO k s) else none := rfl
  generalize opX k s = res at ho ⊢
  have heo : opO k s = ⟨codeR (s.extract 0 (endW (lst s))) (namesL k) 0 0, argsR ((lst s).drop (endW (lst s))) []⟩ := rfl
  generalize opO k s = oo at heo ho
  refine fn_ok T Tryz.func12 (by kernel_rfl) rfl rfl rfl rfl fun C hC => ?_
  repeat' first
    | refine g_go T hC true 400 rfl rfl ?_
    | refine g_cond rfl (fun h => ?_) (fun h => ?_)
    | refine g_end T hC (by kernel_rfl) ?_
    | refine g_splitD (fun h => ?_) (fun h => ?_)
    | refine g_splitG rfl rfl rfl (fun h => ?_) (fun h => ?_)
    | refine g_splitP rfl rfl (fun h => ?_) (fun h => ?_)
  refine g_loop (fun i : Nat => i ≤ s.size ∧ ∀ b ∈ (lst s).take i, b ≠ 32) (fun i => ([(0, I k), (1, Sr s), (4, .one (.bx 1004 0)), (6, I i)], [(1004, some (.box [.p (ki 0), .p (.k (.slice none 0 0))]))])) (fun i => s.size - i) hC
    0 ⟨Nat.zero_le _, by simp⟩ id ⟨rfl, ⟨rfl, rfl, rfl, rfl, trivial⟩, ⟨rfl, trivial⟩, rfl, fun _ _ => rfl⟩ ?_
  rintro i ⟨hi, hb⟩
  by_cases hx : ∃ x, (lst s)[i]? = some x ∧ x ≠ 32
  · obtain ⟨x, hx, hx32⟩ := hx
    have hlt := (List.getElem?_eq_some_iff.1 hx).1
    have hxn : ¬ ((x.toNat : Int) = 32) := fun e => hx32 (by apply UInt8.toNat_inj.1; have : (32 : UInt8).toNat = 32 := rfl; omega)
    repeat' first
      | refine g_go T hC true 400 rfl rfl ?_
      | (exfalso; simp [hxn] at h; done)
      | (exfalso; exact absurd (of_decide_eq_false h) (by omega))
      | refine g_cond rfl (fun h => ?_) (fun h => ?_)
      | refine g_end T hC (by kernel_rfl) ?_
      | refine g_splitD (fun h => ?_) (fun h => ?_)
      | refine g_splitG rfl rfl rfl (fun h => ?_) (fun h => ?_)
      | refine g_splitP rfl rfl (fun h => ?_) (fun h => ?_)
      | refine g_idxS T hC rfl rfl rfl (Int.natCast_nonneg _) (lst_at hx) rfl rfl ?_
      | refine g_outR ?_
    all_goals (rw [wrapS (by omega)])
    all_goals exact g_round (i + 1) ⟨by omega, fun b hm => by
      rw [List.take_add_one, hx] at hm
      rcases List.mem_append.1 hm with hm | hm
      · exact hb b hm
      · simp only [Option.toList_some, List.mem_singleton] at hm; rw [hm]; exact hx32⟩ id (by omega) ⟨rfl, ⟨rfl, rfl, rfl, rfl, trivial⟩, ⟨rfl, trivial⟩, rfl, fun _ _ => rfl⟩
  have hie : endW (lst s) = i := endW_of (by omega) hb fun b hb' => by
    by_cases h32 : b = 32
    · exact h32
    · exact absurd ⟨b, hb', h32⟩ hx
  rw [hie] at heo
  have hcond : (i < s.size ∧ (lst s)[i]? = some 32) ∨ ¬ i < s.size := by
    by_cases hlt : i < s.size
    · obtain ⟨x, hx'⟩ := exists_at (l := lst s) (i := i) (by omega)
      by_cases h32 : x = 32
      · subst h32; exact .inl ⟨hlt, hx'⟩
      · exact absurd ⟨x, hx', h32⟩ hx
    · exact .inr hlt
  clear hx
  have c32 : (((32 : UInt8).toNat : Nat) : Int) = 32 := rfl
  rcases hcond with ⟨hlt, hx⟩ | hlt
  repeat' first
    | refine g_go T hC true 400 rfl rfl ?_
    | (exfalso; exact absurd (of_decide_eq_true h) (by omega))
    | (exfalso; simp [c32] at h; done)
    | (exfalso; exact absurd (of_decide_eq_false h) (by omega))
    | refine g_cond rfl (fun h => ?_) (fun h => ?_)
    | refine g_end T hC (by kernel_rfl) ?_
    | refine g_splitD (fun h => ?_) (fun h => ?_)
    | refine g_splitG rfl rfl rfl (fun h => ?_) (fun h => ?_)
    | refine g_splitP rfl rfl (fun h => ?_) (fun h => ?_)
    | refine g_idxS T hC rfl rfl rfl (Int.natCast_nonneg _) (lst_at hx) rfl rfl ?_
    | refine g_outE ?_
    | refine g_call hC (hW) rfl rfl (LeSs.refl _) rfl rfl rfl ?_
  all_goals
    clear hie h hlt
    refine g_loop (fun q : Nat × Int => q.1 ≤ (namesL k).length ∧ codeR (s.extract 0 i) ((namesL k).drop q.1) q.1 q.2 = oo.code ∧ 0 ≤ q.2 ∧ q.2 ≤ 8) (fun q => ([(0, I k), (1, Sr s), (4, .one (.bx 1004 0)), (6, I i), (7, .one (.bx 1007 0)), (8, pS (strsP (namesL k))), (9, I q.1)], [(1004, some (.box [.p (ki 0), .p (.k (.slice none 0 0))])), (1007, some (.box [.p (ki q.2), .p (.k (.slice none 0 0))]))])) (fun q => (namesL k).length - q.1) hC
      (0, 0) ⟨Nat.zero_le _, by rw [heo]; rfl, by decide, by decide⟩ id ⟨rfl, ⟨rfl, rfl, rfl, rfl, rfl, rfl, rfl, trivial⟩, ⟨rfl, rfl, trivial⟩, rfl, fun _ _ => rfl⟩ ?_
    rintro ⟨j, c⟩ ⟨hj, hc, c0, c8⟩
    simp only at hj hc c0 c8
    have hml : ((namesL k).map strR).length = (namesL k).length := List.length_map _
    by_cases hlt : j < (namesL k).length
    · obtain ⟨n, hn⟩ := exists_at hlt
      rw [drop_at hn] at hc
      unfold codeR at hc
      by_cases he : n = s.extract 0 i
      · rw [if_pos he] at hc
        repeat' first
          | refine g_go T hC true 400 rfl rfl ?_
          | (exfalso; exact absurd he (of_decide_eq_false h))
          | (exfalso; rw [hml] at h; exact absurd (of_decide_eq_false h) (by omega))
          | refine g_cond rfl (fun h => ?_) (fun h => ?_)
          | refine g_end T hC (by kernel_rfl) ?_
          | refine g_splitD (fun h => ?_) (fun h => ?_)
          | refine g_splitG rfl rfl rfl (fun h => ?_) (fun h => ?_)
          | refine g_splitP rfl rfl (fun h => ?_) (fun h => ?_)
          | refine g_idx T hC rfl rfl rfl (Int.natCast_nonneg _) (map_at (f := strR) hn) rfl rfl ?_
          | (refine g_slTo hC rfl rfl (by kernel_rfl) (Int.natCast_nonneg _) (by omega) rfl rfl ?_)
          | refine g_outR ?_
        rw [wrapS (by omega)]
        exact g_round (j + 1, ((j + 1 : Nat) : Int)) ⟨by simp only; omega, hc, by simp only; omega, by simp only; omega⟩ id (by simp only; omega) ⟨rfl, ⟨rfl, rfl, rfl, rfl, rfl, rfl, rfl, trivial⟩, ⟨rfl, rfl, trivial⟩, rfl, fun _ _ => rfl⟩
      · rw [if_neg he] at hc
        repeat' first
          | refine g_go T hC true 400 rfl rfl ?_
          | (exfalso; exact absurd (of_decide_eq_true h) he)
          | (exfalso; rw [hml] at h; exact absurd (of_decide_eq_false h) (by omega))
          | refine g_cond rfl (fun h => ?_) (fun h => ?_)
          | refine g_end T hC (by kernel_rfl) ?_
          | refine g_splitD (fun h => ?_) (fun h => ?_)
          | refine g_splitG rfl rfl rfl (fun h => ?_) (fun h => ?_)
          | refine g_splitP rfl rfl (fun h => ?_) (fun h => ?_)
          | refine g_idx T hC rfl rfl rfl (Int.natCast_nonneg _) (map_at (f := strR) hn) rfl rfl ?_
          | (refine g_slTo hC rfl rfl (by kernel_rfl) (Int.natCast_nonneg _) (by omega) rfl rfl ?_)
          | refine g_outR ?_
        rw [wrapS (by omega)]
        exact g_round (j + 1, c) ⟨by simp only; omega, hc, c0, c8⟩ id (by simp only; omega) ⟨rfl, ⟨rfl, rfl, rfl, rfl, rfl, rfl, rfl, trivial⟩, ⟨rfl, rfl, trivial⟩, rfl, fun _ _ => rfl⟩
    rw [List.drop_of_length_le (by omega)] at hc
    simp only [codeR] at hc
    repeat' first
      | refine g_go T hC true 400 rfl rfl ?_
      | (exfalso; rw [hml] at h; exact absurd (of_decide_eq_true h) (by omega))
      | refine g_cond rfl (fun h => ?_) (fun h => ?_)
      | refine g_end T hC (by kernel_rfl) ?_
      | refine g_splitD (fun h => ?_) (fun h => ?_)
      | refine g_splitG rfl rfl rfl (fun h => ?_) (fun h => ?_)
      | refine g_splitP rfl rfl (fun h => ?_) (fun h => ?_)
      | refine g_outE ?_
    clear h hlt hml hj
    refine g_adopt hC rfl 101 1 rfl [] trivial [(1007, [.p (ki c), .ar 101])] ⟨⟨_, rfl, by decide, .cons (.refl _) (.cons .nil .nil)⟩, trivial⟩ ?_
    refine g_loop (fun q : Nat × List Int => q.1 ≤ s.size ∧ argsR ((lst s).drop q.1) q.2 = oo.args ∧ q.2.length ≤ 65) (fun q => ([(0, I k), (1, Sr s), (4, .one (.bx 1004 0)), (7, .one (.bx 1007 0)), (10, I q.1)], [(101, some (.arr 1 (q.2.map intR))), (1004, some (.box [.p (ki 0), .p (.k (.slice none 0 0))])), (1007, some (.box [.p (ki c), .ar 101]))])) (fun q => s.size - q.1) hC
      (i, []) ⟨hi, by rw [heo], Nat.zero_le _⟩ id ⟨rfl, ⟨rfl, rfl, rfl, rfl, rfl, trivial⟩, ⟨rfl, rfl, rfl, trivial⟩, rfl, fun _ _ => rfl⟩ ?_
    clear hi hb heo
    rintro ⟨m, a⟩ ⟨hm, ha, hal⟩
    simp only at hm ha hal
    have hml : (a.map intR).length = a.length := List.length_map _
    by_cases hend : (lst s).drop m = [] ∨ 64 < a.length
    · rw [argsR_end hend] at ha
      have heq : oo = ⟨c, a⟩ := by rw [hc, ha]
      have hV := rValidOp_ok k ⟨c, a⟩
      rw [heq] at ho
      repeat' first
        | refine g_go T hC true 400 rfl rfl ?_
        | (exfalso; exact go_no hend hl hml (of_decide_eq_true (by assumption)) (of_decide_eq_true h))
        | refine g_cond rfl (fun h => ?_) (fun h => ?_)
        | refine g_end T hC (by kernel_rfl) ?_
        | refine g_splitD (fun h => ?_) (fun h => ?_)
        | refine g_splitG rfl rfl rfl (fun h => ?_) (fun h => ?_)
        | refine g_splitP rfl rfl (fun h => ?_) (fun h => ?_)
        | refine g_outE ?_
      all_goals refine g_freeze rfl (id := 101) (e := 1) (rows := a.map intR) rfl [(101, .agg [.p (ki c), .p (intsP a)])] ⟨⟨_, rfl, FrS.agg (.cons (.refl _) (.cons .ar .nil))⟩, trivial⟩ [(1007, [.p (ki c), .p (intsP a)])] ⟨⟨_, rfl, by decide, .cons (.refl _) (.cons .ar .nil)⟩, trivial⟩ ?_
      all_goals
        cases hok : okOp k ⟨c, a⟩ with
        | false =>
          rw [hok] at hV
          rw [hok, if_neg (by simp)] at ho
          subst ho
          repeat' first
            | refine g_go T hC true 400 rfl rfl ?_
            | (exfalso; simp at h; done)
            | refine g_cond rfl (fun h => ?_) (fun h => ?_)
            | refine g_end T hC (by kernel_rfl) ?_
            | refine g_splitD (fun h => ?_) (fun h => ?_)
            | refine g_splitG rfl rfl rfl (fun h => ?_) (fun h => ?_)
            | refine g_splitP rfl rfl (fun h => ?_) (fun h => ?_)
            | refine g_call hC (hV) rfl rfl (LeSs.refl _) rfl rfl rfl ?_
          all_goals first
            | exact g_fin ⟨.inl rfl, id, _, rfl, LeS.tup (.cons (LeS.agg (.cons (.refl _) (.cons (LeV.nil 1) .nil))) (.cons (.refl _) .nil)), trivial, rfl, rfl⟩
            | exact g_fin ⟨.inl rfl, id, _, rfl, LeS.tup (.cons (LeS.agg (.cons (.refl _) (.cons (LeV.nil 1) .nil))) (.cons (.qb rfl) .nil)), trivial, rfl, rfl⟩
        | true =>
          rw [hok] at hV
          have hT := rText_ok k ⟨c, a⟩ hok
          by_cases hs' : opTx k ⟨c, a⟩ = s
          · rw [if_pos ⟨hok, hs'⟩] at ho
            subst ho
            repeat' first
              | refine g_go T hC true 400 rfl rfl ?_
              | (exfalso; simp [hs'] at h; done)
              | refine g_cond rfl (fun h => ?_) (fun h => ?_)
              | refine g_end T hC (by kernel_rfl) ?_
              | refine g_splitD (fun h => ?_) (fun h => ?_)
              | refine g_splitG rfl rfl rfl (fun h => ?_) (fun h => ?_)
              | refine g_splitP rfl rfl (fun h => ?_) (fun h => ?_)
              | refine g_call hC (hV) rfl rfl (LeSs.refl _) rfl rfl rfl ?_
              | refine g_call hC (hT) rfl rfl (LeSs.refl _) rfl rfl rfl ?_
            all_goals first
              | exact g_fin ⟨.inl rfl, id, _, rfl, .refl _, trivial, rfl, rfl⟩
              | exact g_fin ⟨.inl rfl, id, _, rfl, LeS.tup (.cons (.refl _) (.cons (.qb rfl) .nil)), trivial, rfl, rfl⟩
          · rw [if_neg (fun e => hs' e.2)] at ho
            subst ho
            repeat' first
              | refine g_go T hC true 400 rfl rfl ?_
              | (exfalso; simp [hs'] at h; done)
              | refine g_cond rfl (fun h => ?_) (fun h => ?_)
              | refine g_end T hC (by kernel_rfl) ?_
              | refine g_splitD (fun h => ?_) (fun h => ?_)
              | refine g_splitG rfl rfl rfl (fun h => ?_) (fun h => ?_)
              | refine g_splitP rfl rfl (fun h => ?_) (fun h => ?_)
              | refine g_call hC (hV) rfl rfl (LeSs.refl _) rfl rfl rfl ?_
              | refine g_call hC (hT) rfl rfl (LeSs.refl _) rfl rfl rfl ?_
            all_goals first
              | exact g_fin ⟨.inl rfl, id, _, rfl, LeS.tup (.cons (LeS.agg (.cons (.refl _) (.cons (LeV.nil 1) .nil))) (.cons (.refl _) .nil)), trivial, rfl, rfl⟩
              | exact g_fin ⟨.inl rfl, id, _, rfl, LeS.tup (.cons (LeS.agg (.cons (.refl _) (.cons (LeV.nil 1) .nil))) (.cons (.qb rfl) .nil)), trivial, rfl, rfl⟩
    · rw [argsR_go hend, List.drop_drop] at ha
      have hlt : m < s.size := by
        rcases Nat.lt_or_ge m s.size with h | h
        · exact h
        · exact absurd (.inl (List.drop_of_length_le (by omega))) hend
      have h64 : a.length ≤ 64 := by
        rcases Nat.lt_or_ge 64 a.length with h | h
        · exact absurd (.inr h) hend
        · exact h
      clear hend
      have hw1 : IntKind.i64.wrap ((m : Int) + 1) = ((m + 1 : Nat) : Int) := wrapS (by omega)
      have hw2 : IntKind.i64.wrap (((m + 1 : Nat) : Int) + 1) = ((m + 2 : Nat) : Int) := wrapS (by omega)
      have c45 : (((45 : UInt8).toNat : Nat) : Int) = 45 := rfl
      have hsc := sign_cases (lst s) m
      generalize hsg : signR ((lst s).drop (m + 1)) = sgn at ha hsc
      generalize hmg : magR ((lst s).drop (m + 1)) = mg at ha hsc
      clear hsg hmg
      rcases hsc with ⟨hx, e1, e2⟩ | ⟨⟨x, hx, hxn⟩, e1, e2⟩ | ⟨hge, e1, e2⟩
      · obtain ⟨m2, hm2⟩ : ∃ y, y = m + 2 := ⟨_, rfl⟩
        have hl1 := (List.getElem?_eq_some_iff.1 hx).1
        have hf1 : IntKind.i64.wrap ((m : Int) + 1) < (s.size : Int) := by rw [hw1]; omega
        rw [← hm2] at hw2 e1
        have hm3 : m < m2 ∧ m2 ≤ s.size := by omega
        have hsgn : sgn = 1 ∨ sgn = -1 := .inr e2
        rw [e1] at ha
        repeat' first
          | refine g_go T hC true 400 rfl rfl ?_
          | (exfalso; simp [c45] at h; done)
          | (exfalso; exact absurd (of_decide_eq_false h) (by omega))
          | (exfalso; rw [hml] at h; exact absurd (of_decide_eq_false h) (by omega))
          | (exfalso; exact absurd hf1 (of_decide_eq_false h))
          | refine g_cond rfl (fun h => ?_) (fun h => ?_)
          | refine g_end T hC (by kernel_rfl) ?_
          | refine g_splitD (fun h => ?_) (fun h => ?_)
          | refine g_splitG rfl rfl rfl (fun h => ?_) (fun h => ?_)
          | refine g_splitP rfl rfl (fun h => ?_) (fun h => ?_)
          | (rw [hw1])
          | (rw [hw2])
          | refine g_idxS T hC rfl rfl rfl (Int.natCast_nonneg _) (lst_at hx) rfl rfl ?_
        all_goals clear h hl1 hf1 hx hw1 hw2 c45 hm2 e1
        all_goals
          refine g_loop (fun q : Nat × Int => q.1 ≤ s.size ∧ m < q.1 ∧ (0 ≤ q.2 ∧ q.2 ≤ 1048577) ∧ scanN ((lst s).drop q.1) q.2 = scanN ((lst s).drop m2) 0) (fun q => ([(0, I k), (1, Sr s), (4, .one (.bx 1004 0)), (7, .one (.bx 1007 0)), (10, I q.1), (11, I q.2), (12, I sgn)], [(101, some (.arr 1 (a.map intR))), (1004, some (.box [.p (ki 0), .p (.k (.slice none 0 0))])), (1007, some (.box [.p (ki c), .ar 101]))])) (fun q => s.size - q.1) hC
            (m2, 0) ⟨hm3.2, hm3.1, ⟨by simp only; omega, by simp only; omega⟩, rfl⟩ id ⟨rfl, ⟨rfl, rfl, rfl, rfl, rfl, rfl, by rw [e2]; rfl, trivial⟩, ⟨rfl, rfl, rfl, trivial⟩, rfl, fun _ _ => rfl⟩ ?_
          clear e2 hm3
          generalize scanN ((lst s).drop m2) 0 = sc at ha ⊢
          rintro ⟨q, n⟩ ⟨hq, hmq, hn, hsc⟩
          simp only at hq hmq hn hsc
          by_cases hx : ∃ x, (lst s)[q]? = some x ∧ x ≠ 32
          · obtain ⟨x, hx, hx32⟩ := hx
            have hlq := (List.getElem?_eq_some_iff.1 hx).1
            have hxn : ¬ ((x.toNat : Int) = 32) := fun e => hx32 (by apply UInt8.toNat_inj.1; have : (32 : UInt8).toNat = 32 := rfl; omega)
            have hxb : x.toNat < 256 := x.toNat_lt
            rw [drop_at hx, scanN_step hx32] at hsc
            have hbd := stepN_bd n x
            have hf2 : (q : Int) < (s.size : Int) := by omega
            have wA : IntKind.i64.wrap (10 * n) = 10 * n := wrap64 (by omega)
            have wB : IntKind.i64.wrap (x.toNat : Int) = (x.toNat : Int) := wrap64 (by omega)
            have wC : IntKind.i64.wrap (10 * n + (x.toNat : Int)) = 10 * n + (x.toNat : Int) := wrap64 (by omega)
            have wD : IntKind.i64.wrap (10 * n + (x.toNat : Int) - 48) = 10 * n + (x.toNat : Int) - 48 := wrap64 (by omega)
            have hmin : (if (1048577 : Int) < 10 * n + (x.toNat : Int) - 48 then (1048577 : Int) else 10 * n + (x.toNat : Int) - 48) = min (10 * n + (x.toNat : Int) - 48) 1048577 := by split <;> omega
            have hmax : (if min (10 * n + (x.toNat : Int) - 48) 1048577 < (0 : Int) then (0 : Int) else min (10 * n + (x.toNat : Int) - 48) 1048577) = stepN n x := by unfold stepN; split <;> omega
            repeat' first
              | refine g_go T hC true 400 rfl rfl ?_
              | (exfalso; simp [hxn] at h; done)
              | (exfalso; exact absurd hf2 (of_decide_eq_false h))
              | refine g_cond rfl (fun h => ?_) (fun h => ?_)
              | refine g_end T hC (by kernel_rfl) ?_
              | refine g_splitD (fun h => ?_) (fun h => ?_)
              | refine g_splitG rfl rfl rfl (fun h => ?_) (fun h => ?_)
              | refine g_splitP rfl rfl (fun h => ?_) (fun h => ?_)
              | (rw [wA])
              | (rw [wB])
              | (rw [wC])
              | (rw [wD])
              | (refine g_min2 hC (min (10 * n + (x.toNat : Int) - 48) 1048577) rfl rfl hmin rfl rfl ?_)
              | (refine g_max2 hC (stepN n x) rfl rfl hmax rfl rfl ?_)
              | refine g_idxS T hC rfl rfl rfl (Int.natCast_nonneg _) (lst_at hx) rfl rfl ?_
              | refine g_outR ?_
            rw [wrapS (by omega)]
            exact g_round (q + 1, stepN n x) ⟨by simp only; omega, by simp only; omega, hbd, hsc⟩ id (by simp only; omega) ⟨rfl, ⟨rfl, rfl, rfl, rfl, rfl, rfl, rfl, trivial⟩, ⟨rfl, rfl, rfl, trivial⟩, rfl, fun _ _ => rfl⟩
          have hcond : (q < s.size ∧ (lst s)[q]? = some 32) ∨ ¬ q < s.size := by
            by_cases hlt : q < s.size
            · obtain ⟨x, hx'⟩ := exists_at (l := lst s) (i := q) (by omega)
              by_cases h32 : x = 32
              · subst h32; exact .inl ⟨hlt, hx'⟩
              · exact absurd ⟨x, hx', h32⟩ hx
            · exact .inr hlt
          have hst : scanN ((lst s).drop q) n = (n, (lst s).drop q) := scanN_stop fun b hb => by
            rw [List.head?_drop] at hb
            by_cases h32 : b = 32
            · exact h32
            · exact absurd ⟨b, hb, h32⟩ hx
          rw [hst] at hsc
          rw [← hsc] at ha
          simp only at ha
          clear hst hsc hx
          have wM : IntKind.i64.wrap (sgn * n) = sgn * n := wrap64 (by rcases hsgn with h | h <;> subst h <;> omega)
          have hr3 : a.map intR ++ [intR (sgn * n)] = (a ++ [sgn * n]).map intR := by rw [List.map_append]; rfl
          have hal' : (a ++ [sgn * n]).length ≤ 65 := by rw [List.length_append, List.length_singleton]; omega
          rcases hcond with ⟨hlq, hx⟩ | hlq
          repeat' first
            | refine g_go T hC true 400 rfl rfl ?_
            | (exfalso; exact absurd (of_decide_eq_true h) (by omega))
            | (exfalso; simp [c32] at h; done)
            | (exfalso; exact absurd (of_decide_eq_false h) (by omega))
            | refine g_cond rfl (fun h => ?_) (fun h => ?_)
            | refine g_end T hC (by kernel_rfl) ?_
            | refine g_splitD (fun h => ?_) (fun h => ?_)
            | refine g_splitG rfl rfl rfl (fun h => ?_) (fun h => ?_)
            | refine g_splitP rfl rfl (fun h => ?_) (fun h => ?_)
            | (rw [wM])
            | refine g_idxS T hC rfl rfl rfl (Int.natCast_nonneg _) (lst_at hx) rfl rfl ?_
            | refine g_outE ?_
            | refine g_lit T hC rfl rfl rfl rfl rfl rfl rfl rfl rfl ?_
            | (refine g_append T 102 hC (rows := a.map intR) (rows2 := [intR (sgn * n)]) (rows3 := (a ++ [sgn * n]).map intR) (bytes := 8) rfl rfl rfl rfl (SrcS.sl (T.es_ok _ _ rfl)) hr3 rfl rfl rfl (by kernel_rfl) (by rw [hml, List.length_singleton]; omega) (by rw [hml, List.length_singleton]; omega) rfl rfl rfl ?_)
            | refine g_outR ?_
          all_goals exact g_round (q, a ++ [sgn * n]) ⟨hq, ha, hal'⟩ (mvU 101 102) (by simp only; omega) ⟨rfl, ⟨rfl, rfl, rfl, rfl, rfl, trivial⟩, ⟨rfl, rfl, rfl, trivial⟩, rfl, fun i hi => mvU_low (by omega) hi⟩
      · obtain ⟨m2, hm2⟩ : ∃ y, y = m + 1 := ⟨_, rfl⟩
        have hl1 := (List.getElem?_eq_some_iff.1 hx).1
        have hf1 : IntKind.i64.wrap ((m : Int) + 1) < (s.size : Int) := by rw [hw1]; omega
        rw [← hm2] at hw1 e1 hx
        have hm3 : m < m2 ∧ m2 ≤ s.size := by omega
        have hsgn : sgn = 1 ∨ sgn = -1 := .inl e2
        rw [e1] at ha
        repeat' first
          | refine g_go T hC true 400 rfl rfl ?_
          | (exfalso; exact absurd (of_decide_eq_true h) hxn)
          | (exfalso; exact absurd (of_decide_eq_false h) (by omega))
          | (exfalso; rw [hml] at h; exact absurd (of_decide_eq_false h) (by omega))
          | (exfalso; exact absurd hf1 (of_decide_eq_false h))
          | refine g_cond rfl (fun h => ?_) (fun h => ?_)
          | refine g_end T hC (by kernel_rfl) ?_
          | refine g_splitD (fun h => ?_) (fun h => ?_)
          | refine g_splitG rfl rfl rfl (fun h => ?_) (fun h => ?_)
          | refine g_splitP rfl rfl (fun h => ?_) (fun h => ?_)
          | (rw [hw1])
          | refine g_idxS T hC rfl rfl rfl (Int.natCast_nonneg _) (lst_at hx) rfl rfl ?_
        all_goals clear h hl1 hf1 hx hw1 hw2 c45 hm2 e1 hxn
        all_goals
          refine g_loop (fun q : Nat × Int => q.1 ≤ s.size ∧ m < q.1 ∧ (0 ≤ q.2 ∧ q.2 ≤ 1048577) ∧ scanN ((lst s).drop q.1) q.2 = scanN ((lst s).drop m2) 0) (fun q => ([(0, I k), (1, Sr s), (4, .one (.bx 1004 0)), (7, .one (.bx 1007 0)), (10, I q.1), (11, I q.2), (12, I sgn)], [(101, some (.arr 1 (a.map intR))), (1004, some (.box [.p (ki 0), .p (.k (.slice none 0 0))])), (1007, some (.box [.p (ki c), .ar 101]))])) (fun q => s.size - q.1) hC
            (m2, 0) ⟨hm3.2, hm3.1, ⟨by simp only; omega, by simp only; omega⟩, rfl⟩ id ⟨rfl, ⟨rfl, rfl, rfl, rfl, rfl, rfl, by rw [e2]; rfl, trivial⟩, ⟨rfl, rfl, rfl, trivial⟩, rfl, fun _ _ => rfl⟩ ?_
          clear e2 hm3
          generalize scanN ((lst s).drop m2) 0 = sc at ha ⊢
          rintro ⟨q, n⟩ ⟨hq, hmq, hn, hsc⟩
          simp only at hq hmq hn hsc
          by_cases hx : ∃ x, (lst s)[q]? = some x ∧ x ≠ 32
          · obtain ⟨x, hx, hx32⟩ := hx
            have hlq := (List.getElem?_eq_some_iff.1 hx).1
            have hxn : ¬ ((x.toNat : Int) = 32) := fun e => hx32 (by apply UInt8.toNat_inj.1; have : (32 : UInt8).toNat = 32 := rfl; omega)
            have hxb : x.toNat < 256 := x.toNat_lt
            rw [drop_at hx, scanN_step hx32] at hsc
            have hbd := stepN_bd n x
            have hf2 : (q : Int) < (s.size : Int) := by omega
            have wA : IntKind.i64.wrap (10 * n) = 10 * n := wrap64 (by omega)
            have wB : IntKind.i64.wrap (x.toNat : Int) = (x.toNat : Int) := wrap64 (by omega)
            have wC : IntKind.i64.wrap (10 * n + (x.toNat : Int)) = 10 * n + (x.toNat : Int) := wrap64 (by omega)
            have wD : IntKind.i64.wrap (10 * n + (x.toNat : Int) - 48) = 10 * n + (x.toNat : Int) - 48 := wrap64 (by omega)
            have hmin : (if (1048577 : Int) < 10 * n + (x.toNat : Int) - 48 then (1048577 : Int) else 10 * n + (x.toNat : Int) - 48) = min (10 * n + (x.toNat : Int) - 48) 1048577 := by split <;> omega
            have hmax : (if min (10 * n + (x.toNat : Int) - 48) 1048577 < (0 : Int) then (0 : Int) else min (10 * n + (x.toNat : Int) - 48) 1048577) = stepN n x := by unfold stepN; split <;> omega
            repeat' first
              | refine g_go T hC true 400 rfl rfl ?_
              | (exfalso; simp [hxn] at h; done)
              | (exfalso; exact absurd hf2 (of_decide_eq_false h))
              | refine g_cond rfl (fun h => ?_) (fun h => ?_)
              | refine g_end T hC (by kernel_rfl) ?_
              | refine g_splitD (fun h => ?_) (fun h => ?_)
              | refine g_splitG rfl rfl rfl (fun h => ?_) (fun h => ?_)
              | refine g_splitP rfl rfl (fun h => ?_) (fun h => ?_)
              | (rw [wA])
              | (rw [wB])
              | (rw [wC])
              | (rw [wD])
              | (refine g_min2 hC (min (10 * n + (x.toNat : Int) - 48) 1048577) rfl rfl hmin rfl rfl ?_)
              | (refine g_max2 hC (stepN n x) rfl rfl hmax rfl rfl ?_)
              | refine g_idxS T hC rfl rfl rfl (Int.natCast_nonneg _) (lst_at hx) rfl rfl ?_
              | refine g_outR ?_
            rw [wrapS (by omega)]
            exact g_round (q + 1, stepN n x) ⟨by simp only; omega, by simp only; omega, hbd, hsc⟩ id (by simp only; omega) ⟨rfl, ⟨rfl, rfl, rfl, rfl, rfl, rfl, rfl, trivial⟩, ⟨rfl, rfl, rfl, trivial⟩, rfl, fun _ _ => rfl⟩
          have hcond : (q < s.size ∧ (lst s)[q]? = some 32) ∨ ¬ q < s.size := by
            by_cases hlt : q < s.size
            · obtain ⟨x, hx'⟩ := exists_at (l := lst s) (i := q) (by omega)
              by_cases h32 : x = 32
              · subst h32; exact .inl ⟨hlt, hx'⟩
              · exact absurd ⟨x, hx', h32⟩ hx
            · exact .inr hlt
          have hst : scanN ((lst s).drop q) n = (n, (lst s).drop q) := scanN_stop fun b hb => by
            rw [List.head?_drop] at hb
            by_cases h32 : b = 32
            · exact h32
            · exact absurd ⟨b, hb, h32⟩ hx
          rw [hst] at hsc
          rw [← hsc] at ha
          simp only at ha
          clear hst hsc hx
          have wM : IntKind.i64.wrap (sgn * n) = sgn * n := wrap64 (by rcases hsgn with h | h <;> subst h <;> omega)
          have hr3 : a.map intR ++ [intR (sgn * n)] = (a ++ [sgn * n]).map intR := by rw [List.map_append]; rfl
          have hal' : (a ++ [sgn * n]).length ≤ 65 := by rw [List.length_append, List.length_singleton]; omega
          rcases hcond with ⟨hlq, hx⟩ | hlq
          repeat' first
            | refine g_go T hC true 400 rfl rfl ?_
            | (exfalso; exact absurd (of_decide_eq_true h) (by omega))
            | (exfalso; simp [c32] at h; done)
            | (exfalso; exact absurd (of_decide_eq_false h) (by omega))
            | refine g_cond rfl (fun h => ?_) (fun h => ?_)
            | refine g_end T hC (by kernel_rfl) ?_
            | refine g_splitD (fun h => ?_) (fun h => ?_)
            | refine g_splitG rfl rfl rfl (fun h => ?_) (fun h => ?_)
            | refine g_splitP rfl rfl (fun h => ?_) (fun h => ?_)
            | (rw [wM])
            | refine g_idxS T hC rfl rfl rfl (Int.natCast_nonneg _) (lst_at hx) rfl rfl ?_
            | refine g_outE ?_
            | refine g_lit T hC rfl rfl rfl rfl rfl rfl rfl rfl rfl ?_
            | (refine g_append T 102 hC (rows := a.map intR) (rows2 := [intR (sgn * n)]) (rows3 := (a ++ [sgn * n]).map intR) (bytes := 8) rfl rfl rfl rfl (SrcS.sl (T.es_ok _ _ rfl)) hr3 rfl rfl rfl (by kernel_rfl) (by rw [hml, List.length_singleton]; omega) (by rw [hml, List.length_singleton]; omega) rfl rfl rfl ?_)
            | refine g_outR ?_
          all_goals exact g_round (q, a ++ [sgn * n]) ⟨hq, ha, hal'⟩ (mvU 101 102) (by simp only; omega) ⟨rfl, ⟨rfl, rfl, rfl, rfl, rfl, trivial⟩, ⟨rfl, rfl, rfl, trivial⟩, rfl, fun i hi => mvU_low (by omega) hi⟩
      · obtain ⟨m2, hm2⟩ : ∃ y, y = m + 1 := ⟨_, rfl⟩
        have hf1 : ¬ IntKind.i64.wrap ((m : Int) + 1) < (s.size : Int) := by rw [hw1]; omega
        rw [← hm2] at hw1 e1
        have hm3 : m < m2 ∧ m2 ≤ s.size := by omega
        have hsgn : sgn = 1 ∨ sgn = -1 := .inl e2
        rw [e1] at ha
        repeat' first
          | refine g_go T hC true 400 rfl rfl ?_
          | (exfalso; exact absurd (of_decide_eq_false h) (by omega))
          | (exfalso; rw [hml] at h; exact absurd (of_decide_eq_false h) (by omega))
          | (exfalso; exact absurd (of_decide_eq_true h) hf1)
          | refine g_cond rfl (fun h => ?_) (fun h => ?_)
          | refine g_end T hC (by kernel_rfl) ?_
          | refine g_splitD (fun h => ?_) (fun h => ?_)
          | refine g_splitG rfl rfl rfl (fun h => ?_) (fun h => ?_)
          | refine g_splitP rfl rfl (fun h => ?_) (fun h => ?_)
          | (rw [hw1])
        all_goals clear h hf1 hge hw1 hw2 c45 hm2 e1
        all_goals
          refine g_loop (fun q : Nat × Int => q.1 ≤ s.size ∧ m < q.1 ∧ (0 ≤ q.2 ∧ q.2 ≤ 1048577) ∧ scanN ((lst s).drop q.1) q.2 = scanN ((lst s).drop m2) 0) (fun q => ([(0, I k), (1, Sr s), (4, .one (.bx 1004 0)), (7, .one (.bx 1007 0)), (10, I q.1), (11, I q.2), (12, I sgn)], [(101, some (.arr 1 (a.map intR))), (1004, some (.box [.p (ki 0), .p (.k (.slice none 0 0))])), (1007, some (.box [.p (ki c), .ar 101]))])) (fun q => s.size - q.1) hC
            (m2, 0) ⟨hm3.2, hm3.1, ⟨by simp only; omega, by simp only; omega⟩, rfl⟩ id ⟨rfl, ⟨rfl, rfl, rfl, rfl, rfl, rfl, by rw [e2]; rfl, trivial⟩, ⟨rfl, rfl, rfl, trivial⟩, rfl, fun _ _ => rfl⟩ ?_
          clear e2 hm3
          generalize scanN ((lst s).drop m2) 0 = sc at ha ⊢
          rintro ⟨q, n⟩ ⟨hq, hmq, hn, hsc⟩
          simp only at hq hmq hn hsc
          by_cases hx : ∃ x, (lst s)[q]? = some x ∧ x ≠ 32
          · obtain ⟨x, hx, hx32⟩ := hx
            have hlq := (List.getElem?_eq_some_iff.1 hx).1
            have hxn : ¬ ((x.toNat : Int) = 32) := fun e => hx32 (by apply UInt8.toNat_inj.1; have : (32 : UInt8).toNat = 32 := rfl; omega)
            have hxb : x.toNat < 256 := x.toNat_lt
            rw [drop_at hx, scanN_step hx32] at hsc
            have hbd := stepN_bd n x
            have hf2 : (q : Int) < (s.size : Int) := by omega
            have wA : IntKind.i64.wrap (10 * n) = 10 * n := wrap64 (by omega)
            have wB : IntKind.i64.wrap (x.toNat : Int) = (x.toNat : Int) := wrap64 (by omega)
            have wC : IntKind.i64.wrap (10 * n + (x.toNat : Int)) = 10 * n + (x.toNat : Int) := wrap64 (by omega)
            have wD : IntKind.i64.wrap (10 * n + (x.toNat : Int) - 48) = 10 * n + (x.toNat : Int) - 48 := wrap64 (by omega)
            have hmin : (if (1048577 : Int) < 10 * n + (x.toNat : Int) - 48 then (1048577 : Int) else 10 * n + (x.toNat : Int) - 48) = min (10 * n + (x.toNat : Int) - 48) 1048577 := by split <;> omega
            have hmax : (if min (10 * n + (x.toNat : Int) - 48) 1048577 < (0 : Int) then (0 : Int) else min (10 * n + (x.toNat : Int) - 48) 1048577) = stepN n x := by unfold stepN; split <;> omega
            repeat' first
              | refine g_go T hC true 400 rfl rfl ?_
              | (exfalso; simp [hxn] at h; done)
              | (exfalso; exact absurd hf2 (of_decide_eq_false h))
              | refine g_cond rfl (fun h => ?_) (fun h => ?_)
              | refine g_end T hC (by kernel_rfl) ?_
              | refine g_splitD (fun h => ?_) (fun h => ?_)
              | refine g_splitG rfl rfl rfl (fun h => ?_) (fun h => ?_)
              | refine g_splitP rfl rfl (fun h => ?_) (fun h => ?_)
              | (rw [wA])
              | (rw [wB])
              | (rw [wC])
              | (rw [wD])
              | (refine g_min2 hC (min (10 * n + (x.toNat : Int) - 48) 1048577) rfl rfl hmin rfl rfl ?_)
              | (refine g_max2 hC (stepN n x) rfl rfl hmax rfl rfl ?_)
              | refine g_idxS T hC rfl rfl rfl (Int.natCast_nonneg _) (lst_at hx) rfl rfl ?_
              | refine g_outR ?_
            rw [wrapS (by omega)]
            exact g_round (q + 1, stepN n x) ⟨by simp only; omega, by simp only; omega, hbd, hsc⟩ id (by simp only; omega) ⟨rfl, ⟨rfl, rfl, rfl, rfl, rfl, rfl, rfl, trivial⟩, ⟨rfl, rfl, rfl, trivial⟩, rfl, fun _ _ => rfl⟩
          have hcond : (q < s.size ∧ (lst s)[q]? = some 32) ∨ ¬ q < s.size := by
            by_cases hlt : q < s.size
            · obtain ⟨x, hx'⟩ := exists_at (l := lst s) (i := q) (by omega)
              by_cases h32 : x = 32
              · subst h32; exact .inl ⟨hlt, hx'⟩
              · exact absurd ⟨x, hx', h32⟩ hx
            · exact .inr hlt
          have hst : scanN ((lst s).drop q) n = (n, (lst s).drop q) := scanN_stop fun b hb => by
            rw [List.head?_drop] at hb
            by_cases h32 : b = 32
            · exact h32
            · exact absurd ⟨b, hb, h32⟩ hx
          rw [hst] at hsc
          rw [← hsc] at ha
          simp only at ha
          clear hst hsc hx
          have wM : IntKind.i64.wrap (sgn * n) = sgn * n := wrap64 (by rcases hsgn with h | h <;> subst h <;> omega)
          have hr3 : a.map intR ++ [intR (sgn * n)] = (a ++ [sgn * n]).map intR := by rw [List.map_append]; rfl
          have hal' : (a ++ [sgn * n]).length ≤ 65 := by rw [List.length_append, List.length_singleton]; omega
          rcases hcond with ⟨hlq, hx⟩ | hlq
          repeat' first
            | refine g_go T hC true 400 rfl rfl ?_
            | (exfalso; exact absurd (of_decide_eq_true h) (by omega))
            | (exfalso; simp [c32] at h; done)
            | (exfalso; exact absurd (of_decide_eq_false h) (by omega))
            | refine g_cond rfl (fun h => ?_) (fun h => ?_)
            | refine g_end T hC (by kernel_rfl) ?_
            | refine g_splitD (fun h => ?_) (fun h => ?_)
            | refine g_splitG rfl rfl rfl (fun h => ?_) (fun h => ?_)
            | refine g_splitP rfl rfl (fun h => ?_) (fun h => ?_)
            | (rw [wM])
            | refine g_idxS T hC rfl rfl rfl (Int.natCast_nonneg _) (lst_at hx) rfl rfl ?_
            | refine g_outE ?_
            | refine g_lit T hC rfl rfl rfl rfl rfl rfl rfl rfl rfl ?_
            | (refine g_append T 102 hC (rows := a.map intR) (rows2 := [intR (sgn * n)]) (rows3 := (a ++ [sgn * n]).map intR) (bytes := 8) rfl rfl rfl rfl (SrcS.sl (T.es_ok _ _ rfl)) hr3 rfl rfl rfl (by kernel_rfl) (by rw [hml, List.length_singleton]; omega) (by rw [hml, List.length_singleton]; omega) rfl rfl rfl ?_)
            | refine g_outR ?_
          all_goals exact g_round (q, a ++ [sgn * n]) ⟨hq, ha, hal'⟩ (mvU 101 102) (by simp only; omega) ⟨rfl, ⟨rfl, rfl, rfl, rfl, rfl, trivial⟩, ⟨rfl, rfl, rfl, trivial⟩, rfl, fun i hi => mvU_low (by omega) hi⟩
end Hw.Mq
