/- The engine and the contracts. -/
import Derived.Test.YtmnhegkogibipaaGreatDoorC17
import Derived.Test.YtmnhegkogibipaaGreatDoorC16
import Derived.Test.YtmnhegkogibipaaGreatDoorC15
import Derived.Test.YtmnhegkogibipaaGreatDoorC14
import Derived.Test.YtmnhegkogibipaaGreatDoorC19
import Derived.Test.YtmnhegkogibipaaGreatDoorC13
import Derived.Test.YtmnhegkogibipaaGreatDoorC10
set_option linter.unusedVariables false
set_option linter.unusedSimpArgs false
namespace Hw.Z
open Go Go.Proofs Hw.M

/-! AstFinds: what the counters bound -/
mutual
theorem fewB_cnt : ∀ (x : Ex) (c : Int), (fewB x c).1 = true → (cntX x : Int) ≤ c - (fewB x c).2
  | .mk op n s l, c, h => by
    simp only [fewB, cntX] at h ⊢
    by_cases h1 : (decide (c - 1 < 0) || decide (100 < (s.size : Int))) = true
    · rw [if_pos h1] at h; cases h
    · rw [if_neg h1] at h ⊢
      have := fewL_cnt l (c - 1) h
      omega
theorem fewL_cnt : ∀ (l : List Ex) (c : Int), (fewL l c).1 = true → (cntXs l : Int) ≤ c - (fewL l c).2
  | [], c, _ => by simp [fewL, cntXs]
  | x :: r, c, h => by
    simp only [fewL, cntXs] at h ⊢
    by_cases h1 : (fewB x c).1 = true
    · rw [if_pos h1] at h ⊢
      have h2 := fewB_cnt x c h1
      have h3 := fewL_cnt r _ h
      omega
    · rw [if_neg h1] at h; cases h
end
mutual
theorem stmF_cnt : ∀ (x : Sm) (c : Int), (stmF x c).1 = true → (cntS x : Int) ≤ c - (stmF x c).2
  | .mk o s e l els, c, h => by
    simp only [stmF, cntS] at h ⊢
    by_cases h1 : (decide (c - 1 < 0) || decide (100 < (s.size : Int))) = true
    · rw [if_pos h1] at h; cases h
    rw [if_neg h1] at h ⊢
    by_cases h2 : (fewL e (c - 1)).1 = false
    · rw [if_pos h2] at h; cases h
    rw [if_neg h2] at h ⊢
    by_cases h3 : (stmL l (fewL e (c - 1)).2).1 = false
    · rw [if_pos h3] at h; cases h
    rw [if_neg h3] at h ⊢
    have k1 := fewL_cnt e (c - 1) (by simpa using h2)
    have k2 := stmL_cnt l _ (by simpa using h3)
    have k3 := stmL_cnt els _ h
    omega
theorem stmL_cnt : ∀ (l : List Sm) (c : Int), (stmL l c).1 = true → (cntSs l : Int) ≤ c - (stmL l c).2
  | [], c, _ => by simp [stmL, cntSs]
  | x :: r, c, h => by
    simp only [stmL, cntSs] at h ⊢
    by_cases h1 : (stmF x c).1 = true
    · rw [if_pos h1] at h ⊢
      have h2 := stmF_cnt x c h1
      have h3 := stmL_cnt r _ h
      omega
    · rw [if_neg h1] at h; cases h
end
mutual
theorem WX_cnt : ∀ x : Ex, cntX x ≤ 1000000 → WX x
  | .mk _ _ _ l, h => by
    simp only [cntX] at h
    simp only [WX]
    have := len_cntXs l
    exact ⟨by omega, WXs_cnt l (by omega)⟩
theorem WXs_cnt : ∀ l : List Ex, cntXs l ≤ 1000000 → WXs l
  | [], _ => by simp only [WXs]
  | x :: r, h => by
    simp only [cntXs] at h
    simp only [WXs]
    exact ⟨WX_cnt x (by omega), WXs_cnt r (by omega)⟩
end
mutual
theorem WS_cnt : ∀ x : Sm, cntS x ≤ 1000000 → WS x
  | .mk _ _ e l els, h => by
    simp only [cntS] at h
    simp only [WS]
    have h1 := len_cntXs e
    have h2 := len_cntSs l
    have h3 := len_cntSs els
    exact ⟨⟨by omega, WXs_cnt e (by omega)⟩, ⟨by omega, WSs_cnt l (by omega)⟩, by omega, WSs_cnt els (by omega)⟩
theorem WSs_cnt : ∀ l : List Sm, cntSs l ≤ 1000000 → WSs l
  | [], _ => by simp only [WSs]
  | x :: r, h => by
    simp only [cntSs] at h
    simp only [WSs]
    exact ⟨WS_cnt x (by omega), WSs_cnt r (by omega)⟩
end
/-- A procedure that the counter lets through. -/
theorem procF_cnt {p : Pr} {c : Int} (h : (procF p c).1 = true) (h1 : c ≤ 4000) (h0 : 0 ≤ c) : WP p ∧ cntSs p.body ≤ 1000000 := by
  unfold procF at h
  by_cases c1 : (decide ((p.n.size : Int) ≤ 100) && decide ((p.res.size : Int) ≤ 100)) = false
  · rw [if_pos c1] at h; cases h
  rw [if_neg c1] at h
  by_cases c2 : fieldsF p.params c = false
  · rw [if_pos c2] at h; cases h
  rw [if_neg c2] at h
  by_cases c3 : fieldsF p.locs (c - p.params.length) = false
  · rw [if_pos c3] at h; cases h
  rw [if_neg c3] at h
  have g2 := fieldsF_ge (l := p.params) (c := c) (by simpa using c2)
  have g3 := fieldsF_ge (l := p.locs) (c := c - p.params.length) (by simpa using c3)
  have k := stmL_cnt p.body _ h
  have kb := (stmL_bound p.body (c - p.params.length - p.locs.length) g3).1
  have kl := len_cntSs p.body
  have hb : cntSs p.body ≤ 1000000 := by omega
  exact ⟨⟨by omega, by omega, by omega, WSs_cnt p.body hb⟩, hb⟩
theorem thr_mem {α : Type} {p : α → Int → Bool × Int} (hp : ∀ x c, 0 ≤ c → (p x c).2 ≤ c ∧ ((p x c).1 = true → 0 ≤ (p x c).2)) {B : Int} : ∀ (l : List α) (c : Int), 0 ≤ c → c ≤ B → (thr p l c).1 = true → ∀ x ∈ l, ∃ c', 0 ≤ c' ∧ c' ≤ B ∧ (p x c').1 = true
  | [], _, _, _, _, x, hx => by cases hx
  | y :: r, c, h, hB, ht, x, hx => by
    simp only [thr] at ht
    by_cases h1 : (p y c).1 = true
    · rw [if_pos h1] at ht
      have hb := hp y c h
      rcases List.mem_cons.1 hx with rfl | hx
      · exact ⟨c, h, hB, h1⟩
      · exact thr_mem hp r _ (hb.2 h1) (by omega) ht x hx
    · rw [if_neg h1] at ht; cases ht
/-- The procedures of a description that is small. -/
theorem small_procs {d : Desc} (h : smallF d = true) : ∀ p ∈ d.procs, WP p := by
  intro p hp
  unfold smallF at h
  simp only [Bool.and_eq_true] at h
  obtain ⟨⟨⟨⟨⟨⟨⟨_, hg⟩, h1⟩, h2⟩, _⟩, _⟩, _⟩, _⟩ := h
  have g := fieldsF_ge hg
  have b1 := thr_bound smT_bound d.types (3000 - d.globals.length) g
  unfold sm1 at h1
  unfold sm2 sm1 at h2
  obtain ⟨c', k1, k2, k3⟩ := thr_mem (p := procF) (B := 4000) procF_bound d.procs _ (b1.2 h1) (by omega) h2 p hp
  exact (procF_cnt k3 k2 k1).1
end Hw.Z
namespace Hw.Z
open Go Go.Proofs Hw.M

/-! AstFinds: the law -/
theorem slEqualS_ok (a b : List Str) : FnOK Tryz.prog 56 [pS (strsP a), pS (strsP b)] [] (.bq (decide (a = b))) [] := by
  refine fn_ok T Tryz.func56 (by kernel_rfl) rfl rfl rfl rfl fun C hC => ?_
  refine g_len 0 rfl fun hlen => ?_
  rw [List.length_map] at hlen
  repeat' first
    | refine g_go T hC true 400 rfl rfl ?_
    | refine g_cond rfl (fun h => ?_) (fun h => ?_)
    | refine g_end T hC (by kernel_rfl) ?_
    | refine g_splitD (fun h => ?_) (fun h => ?_)
    | refine g_splitG rfl rfl rfl (fun h => ?_) (fun h => ?_)
    | refine g_splitP rfl rfl (fun h => ?_) (fun h => ?_)
    | refine g_retl T (.inl rfl) rfl ?_
  all_goals (try simp only [List.length_map] at *)
  · have : ¬ (a.length : Int) = (b.length : Int) := by simpa using h
    exact (decide_eq_false fun e => this (by rw [e])).symm
  · have hab : a.length = b.length := by have : (a.length : Int) = (b.length : Int) := by simpa using h
                                         omega
    refine g_loop (fun i : Nat => i ≤ a.length ∧ a.take i = b.take i) (fun i => ([(0, pS (strsP a)), (1, pS (strsP b)), (12, I a.length), (13, I i)], [])) (fun i => a.length - i) hC
      0 ⟨Nat.zero_le _, by simp⟩ id ⟨rfl, ⟨rfl, rfl, rfl, rfl, trivial⟩, trivial, rfl, fun _ _ => rfl⟩ ?_
    rintro i ⟨hi, hn⟩
    refine g_run' T hC true 200 rfl ?_
    refine g_cond rfl (fun h => ?_) (fun h => ?_)
    · have hlt : i < a.length := by simpa using h
      obtain ⟨x, hx⟩ := exists_at hlt
      obtain ⟨y, hy⟩ := exists_at (hab ▸ hlt)
      repeat' first
        | refine g_go T hC true 400 rfl rfl ?_
        | refine g_cond rfl (fun h => ?_) (fun h => ?_)
        | refine g_end T hC (by kernel_rfl) ?_
        | refine g_splitD (fun h => ?_) (fun h => ?_)
        | refine g_splitG rfl rfl rfl (fun h => ?_) (fun h => ?_)
        | refine g_splitP rfl rfl (fun h => ?_) (fun h => ?_)
        | refine g_idx T hC rfl rfl rfl (Int.natCast_nonneg _) (map_at (by assumption)) rfl rfl ?_
        | refine g_outR ?_
        | refine g_retl T (.inl rfl) rfl ?_
      · have hxy : x ≠ y := by simpa using h
        exact (decide_eq_false fun e => hxy (by subst e; rw [hx] at hy; exact Option.some.inj hy)).symm
      · have hxy : x = y := by simpa using h
        subst hxy
        rw [wrapS (by omega)]
        exact g_round (i + 1) ⟨by omega, take_eq hx hy hn⟩ id (by omega) ⟨rfl, ⟨rfl, rfl, rfl, rfl, trivial⟩, trivial, rfl, fun _ _ => rfl⟩
    · have hge : ¬ i < a.length := by simpa using h
      repeat' first
        | refine g_go T hC true 400 rfl rfl ?_
        | refine g_cond rfl (fun h => ?_) (fun h => ?_)
        | refine g_end T hC (by kernel_rfl) ?_
        | refine g_splitD (fun h => ?_) (fun h => ?_)
        | refine g_splitG rfl rfl rfl (fun h => ?_) (fun h => ?_)
        | refine g_splitP rfl rfl (fun h => ?_) (fun h => ?_)
        | refine g_outE ?_
        | refine g_retl T (.inl rfl) rfl ?_
      rw [List.take_of_length_le (by omega), List.take_of_length_le (by omega)] at hn
      exact (decide_eq_true hn).symm
theorem sameP_refl (x : Pr) : sameP x x = true := by
  have hS : ∀ x : Sm, sameS x x = true := fun x => sameS_refl (SizeOf.sizeOf x + 1) x (by omega)
  unfold sameP; rw [eqL_refl fun x _ => sameF_refl x, eqL_refl fun x _ => sameF_refl x, eqL_refl fun x _ => hS x, decide_eq_true rfl, decide_eq_true rfl]; rfl
/-- A description of one procedure. -/
def oneD (x : Pr) : Desc := ⟨⟨#[]⟩, [], [], [x], [], [], [], []⟩
theorem one_same (x : Pr) : sameD (oneD x) (oneD x) = true := by
  unfold sameD oneD
  simp only [eqL, sameP_refl, decide_true, Bool.and_true]
theorem idxOf_none {α : Type} {p : α → Bool} : ∀ {l : List α}, idxOf p l = -1 → l.any p = false
  | [], _ => rfl
  | y :: ys, h => by
    by_cases hy : p y = true
    · simp only [idxOf, hy, if_true] at h; cases h
    · simp only [idxOf, if_neg hy] at h
      have h2 : idxOf p ys = -1 := by
        cases e : idxOf p ys with
        | ofNat n => rw [e] at h; have h' : ((n + 1 : Nat) : Int) = -1 := h; omega
        | negSucc n => rw [e] at h; exact h
      rw [List.any_cons, idxOf_none h2, Bool.or_false]; simpa using hy
theorem idx_two {α : Type} (p : α → Bool) (l : List α) : (idxOf p l = -1 ∧ l.any p = false) ∨ ∃ (i : Nat) (x : α), idxOf p l = (i : Int) ∧ l[i]? = some x ∧ p x = true ∧ (l.take i).any p = false := by
  rcases idxOf_ge (p := p) (l := l) with h | ⟨i, x, h1, h2, h3, h4⟩
  · exact .inl ⟨h, idxOf_none h⟩
  · exact .inr ⟨i, x, h1, h2, h3, h4⟩
/-- What the law finds of the types and the procedures. -/
inductive Found (d : Desc) (s : Str) : Prop where
  | no (h : validD d = false)
  | mk (h : validD d = true)
set_option maxHeartbeats 16000000 in
theorem astFinds_ok (d : Desc) (s : Str) (t : NodeT) (p : Pr) : FnOK Tryz.prog 11 [aggS (descR d), Sr s, aggS (nodeTR t), aggS (procR p)] [] (.bq true) [] := by
  have hS := small09_ok d
  cases hs : smallF d with
  | false =>
    rw [hs] at hS
    refine fn_ok T Tryz.func11 (by kernel_rfl) rfl rfl rfl rfl fun C hC => ?_
    repeat' first
      | refine g_go T hC true 400 rfl rfl ?_
      | refine g_cond rfl (fun h => ?_) (fun h => ?_)
      | refine g_end T hC (by kernel_rfl) ?_
      | refine g_splitD (fun h => ?_) (fun h => ?_)
      | refine g_splitG rfl rfl rfl (fun h => ?_) (fun h => ?_)
      | refine g_splitP rfl rfl (fun h => ?_) (fun h => ?_)
      | refine g_call hC (awake09_ok) rfl rfl (LeSs.refl _) rfl rfl rfl ?_
      | refine g_call hC (hS) rfl rfl (LeSs.refl _) rfl rfl rfl ?_
      | refine g_retq T (.inl rfl) rfl ?_
      | refine g_retl T (.inl rfl) rfl ?_
    all_goals first
      | rfl
      | (exfalso; clear hS; simp_all; done)
  | true =>
  rw [hs] at hS
  by_cases hn : (100 : Int) < (s.size : Int)
  · refine fn_ok T Tryz.func11 (by kernel_rfl) rfl rfl rfl rfl fun C hC => ?_
    repeat' first
      | refine g_go T hC true 400 rfl rfl ?_
      | refine g_cond rfl (fun h => ?_) (fun h => ?_)
      | refine g_end T hC (by kernel_rfl) ?_
      | refine g_splitD (fun h => ?_) (fun h => ?_)
      | refine g_splitG rfl rfl rfl (fun h => ?_) (fun h => ?_)
      | refine g_splitP rfl rfl (fun h => ?_) (fun h => ?_)
      | refine g_call hC (awake09_ok) rfl rfl (LeSs.refl _) rfl rfl rfl ?_
      | refine g_call hC (hS) rfl rfl (LeSs.refl _) rfl rfl rfl ?_
      | refine g_retq T (.inl rfl) rfl ?_
      | refine g_retl T (.inl rfl) rfl ?_
    all_goals first
      | rfl
      | (exfalso; clear hS; simp_all; done)
  have hF := fewFields_ok t.f 1000 (by omega) (by omega)
  cases hf : fieldsF t.f 1000 with
  | false =>
    rw [hf] at hF
    refine fn_ok T Tryz.func11 (by kernel_rfl) rfl rfl rfl rfl fun C hC => ?_
    repeat' first
      | refine g_go T hC true 400 rfl rfl ?_
      | refine g_cond rfl (fun h => ?_) (fun h => ?_)
      | refine g_end T hC (by kernel_rfl) ?_
      | refine g_splitD (fun h => ?_) (fun h => ?_)
      | refine g_splitG rfl rfl rfl (fun h => ?_) (fun h => ?_)
      | refine g_splitP rfl rfl (fun h => ?_) (fun h => ?_)
      | refine g_call hC (awake09_ok) rfl rfl (LeSs.refl _) rfl rfl rfl ?_
      | refine g_call hC (hS) rfl rfl (LeSs.refl _) rfl rfl rfl ?_
      | refine g_callR hC (hF) (nm [1009]) rfl rfl (LeSs.refl _) rfl rfl rfl rfl rfl rfl rfl rfl ?_
      | refine g_retq T (.inl rfl) rfl ?_
      | refine g_retl T (.inl rfl) rfl ?_
    all_goals first
      | rfl
      | (exfalso; clear hS hF; simp_all; done)
  | true =>
  rw [hf] at hF
  have hg := fieldsF_ge hf
  have hP := proc_ok p (1000 - t.f.length) hg (by omega)
  cases hp : (procF p (1000 - t.f.length)).1 with
  | false =>
    rw [hp] at hP
    refine fn_ok T Tryz.func11 (by kernel_rfl) rfl rfl rfl rfl fun C hC => ?_
    repeat' first
      | refine g_go T hC true 400 rfl rfl ?_
      | refine g_cond rfl (fun h => ?_) (fun h => ?_)
      | refine g_end T hC (by kernel_rfl) ?_
      | refine g_splitD (fun h => ?_) (fun h => ?_)
      | refine g_splitG rfl rfl rfl (fun h => ?_) (fun h => ?_)
      | refine g_splitP rfl rfl (fun h => ?_) (fun h => ?_)
      | refine g_call hC (awake09_ok) rfl rfl (LeSs.refl _) rfl rfl rfl ?_
      | refine g_call hC (hS) rfl rfl (LeSs.refl _) rfl rfl rfl ?_
      | refine g_callR hC (hF) (nm [1009]) rfl rfl (LeSs.refl _) rfl rfl rfl rfl rfl rfl rfl rfl ?_
      | refine g_callR hC (hP) (nm [1009]) rfl rfl (LeSs.refl _) rfl rfl rfl rfl rfl rfl rfl rfl ?_
      | refine g_retq T (.inl rfl) rfl ?_
      | refine g_retl T (.inl rfl) rfl ?_
    all_goals first
      | rfl
      | (exfalso; clear hS hF hP; simp_all; done)
  | true =>
  rw [hp] at hP
  obtain ⟨_, hcnt⟩ := procF_cnt hp (by omega) hg
  have hRC := callsR_ok _ p.body [] (Nat.le_refl _) (by simpa using hcnt)
  have hRP := procedure_ok p
  have hEq := slEqualS_ok (nmSs p.body []) (nmSs p.body [])
  rw [decide_eq_true rfl] at hEq
  have hCA : ∃ (l : List Str) (e : Int), FnOK Tryz.prog 54 [aggS (procR p)] [] (.tup [pS (strsP l), I e]) [] ∧ ((procOk p = true ∧ l = nmSs p.body [] ∧ e = 0) ∨ (procOk p = false ∧ l = [] ∧ e = 1)) := by
    cases h : procOk p with
    | true => exact ⟨_, _, calls_yes h hcnt, .inl ⟨rfl, rfl, rfl⟩⟩
    | false => exact ⟨_, _, calls_no h, .inr ⟨rfl, rfl, rfl⟩⟩
  obtain ⟨lc, ec, hCA, hcc⟩ := hCA
  have hFA := fieldIndex_ok t s
  have hRF := rFieldIndex_ok t.f s
  have hfx := idx_two (fun t => decide (Fld.n t = s)) t.f
  rw [show idxOf (fun t => decide (Fld.n t = s)) t.f = fldIdx t.f s from rfl] at hfx
  have hV := valid09_ok d
  have hw := small_procs hs
  have hsm : ∀ x : Pr, FnOK Tryz.prog 61 [aggS (descR (oneD x)), aggS (descR (oneD x))] [] (.bq true) [] := fun x => by
    have := rsame09_ok (oneD x) (oneD x)
    rwa [one_same] at this
  generalize hfi : fldIdx t.f s = fi at hFA hRF hfx
  cases hv : validD d with
  | false =>
    rw [hv] at hV
    have hPA := proc_no s hv
    have hTA := typeIndexA_no s hv
    rcases hcc with ⟨hk, rfl, rfl⟩ | ⟨hk, rfl, rfl⟩ <;> rw [hk] at hRP <;> rcases hfx with ⟨rfl, -⟩ | ⟨i, -, rfl, -⟩
    all_goals
      first | rw [if_pos (by omega), if_pos (by omega)] at hFA | rw [if_neg (by omega), if_neg (by omega)] at hFA
      refine fn_ok T Tryz.func11 (by kernel_rfl) rfl rfl rfl rfl fun C hC => ?_
      repeat' first
        | refine g_go T hC true 400 rfl rfl ?_
        | (exfalso; simp at h; done)
        | (exfalso; have h2 := of_decide_eq_true h; omega)
        | refine g_cond rfl (fun h => ?_) (fun h => ?_)
        | refine g_end T hC (by kernel_rfl) ?_
        | refine g_splitD (fun h => ?_) (fun h => ?_)
        | refine g_splitG rfl rfl rfl (fun h => ?_) (fun h => ?_)
        | refine g_splitP rfl rfl (fun h => ?_) (fun h => ?_)
        | refine g_call hC (awake09_ok) rfl rfl (LeSs.refl _) rfl rfl rfl ?_
        | refine g_call hC (hS) rfl rfl (LeSs.refl _) rfl rfl rfl ?_
        | refine g_callR hC (hF) (nm [1009]) rfl rfl (LeSs.refl _) rfl rfl rfl rfl rfl rfl rfl rfl ?_
        | refine g_callR hC (hP) (nm [1009]) rfl rfl (LeSs.refl _) rfl rfl rfl rfl rfl rfl rfl rfl ?_
        | refine g_call hC (hPA) rfl rfl (LeSs.refl _) rfl rfl rfl ?_
        | refine g_call hC (hTA) rfl rfl (LeSs.refl _) rfl rfl rfl ?_
        | refine g_call hC (hFA) rfl rfl (LeSs.refl _) rfl rfl rfl ?_
        | refine g_call hC (hCA) rfl rfl (LeSs.refl _) rfl rfl rfl ?_
        | refine g_call hC (hRP) rfl rfl (LeSs.refl _) rfl rfl rfl ?_
        | (refine g_call hC hRC rfl rfl (LeSs.cons (.refl _) (LeSs.cons (LeS.one (.nil 1)) .nil)) rfl rfl rfl ?_)
        | refine g_call hC (hEq) rfl rfl (LeSs.refl _) rfl rfl rfl ?_
        | refine g_call hC (hRF) rfl rfl (LeSs.refl _) rfl rfl rfl ?_
        | refine g_call hC (hV) rfl rfl (LeSs.refl _) rfl rfl rfl ?_
        | refine g_retq T (.inl rfl) rfl ?_
        | refine g_retl T (.inl rfl) rfl ?_
      clear hS hF hP hPA hTA hFA hCA hRP hRC hEq hRF hV hsm hcnt hw hp hf hs
      all_goals first
        | rfl
        | (exfalso; simp at h; done)
        | (exfalso; simp [zeroP] at h; done)
        | (exfalso; simp only [decide_eq_true_eq, decide_eq_false_iff_not] at *; omega)
        | (exfalso; simp_all; done)
  | true =>
    rw [hv] at hV
    have hPA := procA_ok s hv hw
    have hTA := typeIndexA_ok s hv
    have hRT := typeIndex_ok d s
    have hRI := rProcIndex_ok d s
    have htx := idx_two (fun t => decide (NodeT.n t = s)) d.types
    have hpx := idx_two (fun t => decide (Pr.n t = s)) d.procs
    rw [show idxOf (fun t => decide (NodeT.n t = s)) d.types = tyIdx d s from rfl] at htx
    rw [show idxOf (fun t => decide (Pr.n t = s)) d.procs = prcIdx d s from rfl] at hpx
    generalize hti : tyIdx d s = ti at hTA hRT htx
    generalize hpi : prcIdx d s = pi at hRI hpx
    have hfd : (findP d s = none ∧ pi = -1) ∨ ∃ (j : Nat) (x : Pr), pi = (j : Int) ∧ d.procs[j]? = some x ∧ findP d s = some x := by
      rcases hpx with ⟨h1, h2⟩ | ⟨j, x, h1, h2, h3, h4⟩
      · exact .inl ⟨find_no h2, h1⟩
      · exact .inr ⟨j, x, h1, h2, find_at h2 h3 h4⟩
    clear hpx hpi hti hfi
    rcases hfd with ⟨hfd, rfl⟩ | ⟨j, x, rfl, hjx, hfd⟩ <;> rw [hfd] at hPA
    · simp only [Option.getD_none, Option.isSome_none, Bool.false_eq_true, if_false] at hPA
      rcases hcc with ⟨hk, rfl, rfl⟩ | ⟨hk, rfl, rfl⟩ <;> rw [hk] at hRP <;> rcases hfx with ⟨rfl, -⟩ | ⟨i, -, rfl, -⟩ <;> rcases htx with ⟨rfl, -⟩ | ⟨k, -, rfl, -⟩
      all_goals
        first | rw [if_pos (by omega), if_pos (by omega)] at hFA | rw [if_neg (by omega), if_neg (by omega)] at hFA
        first | rw [if_pos (by omega), if_pos (by omega)] at hTA | rw [if_neg (by omega), if_neg (by omega)] at hTA
        refine fn_ok T Tryz.func11 (by kernel_rfl) rfl rfl rfl rfl fun C hC => ?_
        repeat' first
          | refine g_go T hC true 400 rfl rfl ?_
          | (exfalso; simp at h; done)
          | (exfalso; have h2 := of_decide_eq_true h; omega)
          | refine g_cond rfl (fun h => ?_) (fun h => ?_)
          | refine g_end T hC (by kernel_rfl) ?_
          | refine g_splitD (fun h => ?_) (fun h => ?_)
          | refine g_splitG rfl rfl rfl (fun h => ?_) (fun h => ?_)
          | refine g_splitP rfl rfl (fun h => ?_) (fun h => ?_)
          | refine g_call hC (awake09_ok) rfl rfl (LeSs.refl _) rfl rfl rfl ?_
          | refine g_call hC (hS) rfl rfl (LeSs.refl _) rfl rfl rfl ?_
          | refine g_callR hC (hF) (nm [1009]) rfl rfl (LeSs.refl _) rfl rfl rfl rfl rfl rfl rfl rfl ?_
          | refine g_callR hC (hP) (nm [1009]) rfl rfl (LeSs.refl _) rfl rfl rfl rfl rfl rfl rfl rfl ?_
          | refine g_call hC (hPA) rfl rfl (LeSs.refl _) rfl rfl rfl ?_
          | refine g_call hC (hTA) rfl rfl (LeSs.refl _) rfl rfl rfl ?_
          | refine g_call hC (hFA) rfl rfl (LeSs.refl _) rfl rfl rfl ?_
          | refine g_call hC (hCA) rfl rfl (LeSs.refl _) rfl rfl rfl ?_
          | refine g_call hC (hRP) rfl rfl (LeSs.refl _) rfl rfl rfl ?_
          | (refine g_call hC hRC rfl rfl (LeSs.cons (.refl _) (LeSs.cons (LeS.one (.nil 1)) .nil)) rfl rfl rfl ?_)
          | refine g_call hC (hEq) rfl rfl (LeSs.refl _) rfl rfl rfl ?_
          | refine g_call hC (hRF) rfl rfl (LeSs.refl _) rfl rfl rfl ?_
          | refine g_call hC (hV) rfl rfl (LeSs.refl _) rfl rfl rfl ?_
          | refine g_call hC (hRT) rfl rfl (LeSs.refl _) rfl rfl rfl ?_
          | refine g_call hC (hRI) rfl rfl (LeSs.refl _) rfl rfl rfl ?_
          | refine g_retq T (.inl rfl) rfl ?_
          | refine g_retl T (.inl rfl) rfl ?_
        clear hS hF hP hPA hTA hFA hCA hRP hRC hEq hRF hV hsm hcnt hw hp hf hs hRT hRI
        all_goals first
          | rfl
          | (exfalso; simp at h; done)
          | (exfalso; simp [zeroP] at h; done)
          | (exfalso; simp only [decide_eq_true_eq, decide_eq_false_iff_not] at *; omega)
          | (exfalso; simp_all; done)
    · simp only [Option.getD_some, Option.isSome_some, if_true] at hPA
      have hX := hsm x
      clear hfd
      rcases hcc with ⟨hk, rfl, rfl⟩ | ⟨hk, rfl, rfl⟩ <;> rw [hk] at hRP <;> rcases hfx with ⟨rfl, -⟩ | ⟨i, -, rfl, -⟩ <;> rcases htx with ⟨rfl, -⟩ | ⟨k, -, rfl, -⟩
      all_goals
        first | rw [if_pos (by omega), if_pos (by omega)] at hFA | rw [if_neg (by omega), if_neg (by omega)] at hFA
        first | rw [if_pos (by omega), if_pos (by omega)] at hTA | rw [if_neg (by omega), if_neg (by omega)] at hTA
        refine fn_ok T Tryz.func11 (by kernel_rfl) rfl rfl rfl rfl fun C hC => ?_
        repeat' first
          | refine g_go T hC true 400 rfl rfl ?_
          | (exfalso; simp at h; done)
          | (exfalso; have h2 := of_decide_eq_true h; omega)
          | refine g_cond rfl (fun h => ?_) (fun h => ?_)
          | refine g_end T hC (by kernel_rfl) ?_
          | refine g_splitD (fun h => ?_) (fun h => ?_)
          | refine g_splitG rfl rfl rfl (fun h => ?_) (fun h => ?_)
          | refine g_splitP rfl rfl (fun h => ?_) (fun h => ?_)
          | refine g_call hC (awake09_ok) rfl rfl (LeSs.refl _) rfl rfl rfl ?_
          | refine g_call hC (hS) rfl rfl (LeSs.refl _) rfl rfl rfl ?_
          | refine g_callR hC (hF) (nm [1009]) rfl rfl (LeSs.refl _) rfl rfl rfl rfl rfl rfl rfl rfl ?_
          | refine g_callR hC (hP) (nm [1009]) rfl rfl (LeSs.refl _) rfl rfl rfl rfl rfl rfl rfl rfl ?_
          | refine g_call hC (hPA) rfl rfl (LeSs.refl _) rfl rfl rfl ?_
          | refine g_call hC (hTA) rfl rfl (LeSs.refl _) rfl rfl rfl ?_
          | refine g_call hC (hFA) rfl rfl (LeSs.refl _) rfl rfl rfl ?_
          | refine g_call hC (hCA) rfl rfl (LeSs.refl _) rfl rfl rfl ?_
          | refine g_call hC (hRP) rfl rfl (LeSs.refl _) rfl rfl rfl ?_
          | (refine g_call hC hRC rfl rfl (LeSs.cons (.refl _) (LeSs.cons (LeS.one (.nil 1)) .nil)) rfl rfl rfl ?_)
          | refine g_call hC (hEq) rfl rfl (LeSs.refl _) rfl rfl rfl ?_
          | refine g_call hC (hRF) rfl rfl (LeSs.refl _) rfl rfl rfl ?_
          | refine g_call hC (hV) rfl rfl (LeSs.refl _) rfl rfl rfl ?_
          | refine g_call hC (hRT) rfl rfl (LeSs.refl _) rfl rfl rfl ?_
          | refine g_call hC (hRI) rfl rfl (LeSs.refl _) rfl rfl rfl ?_
          | refine g_lit T hC rfl rfl rfl rfl rfl rfl rfl rfl rfl ?_
          | (refine g_idx T hC rfl rfl rfl (Int.natCast_nonneg _) (map_at hjx) rfl rfl ?_)
          | (refine g_call hC hX rfl rfl (LeSs.cons (LeS.agg (.cons (.refl _) (.cons (.nil 2) (.cons (.nil 2) (.cons (.refl _) (.cons (.nil 7) (.cons (.nil 6) (.cons (.nil 5) (.cons (.nil 5) .nil)))))))))  (LeSs.cons (LeS.agg (.cons (.refl _) (.cons (.nil 2) (.cons (.nil 2) (.cons (.refl _) (.cons (.nil 7) (.cons (.nil 6) (.cons (.nil 5) (.cons (.nil 5) .nil))))))))) .nil)) rfl rfl rfl ?_)
          | refine g_retq T (.inl rfl) rfl ?_
          | refine g_retl T (.inl rfl) rfl ?_
        clear hS hF hP hPA hTA hFA hCA hRP hRC hEq hRF hV hsm hcnt hw hp hf hs hRT hRI hX
        all_goals first
          | rfl
          | (exfalso; simp at h; done)
          | (exfalso; simp [zeroP] at h; done)
          | (exfalso; simp only [decide_eq_true_eq, decide_eq_false_iff_not] at *; omega)
          | (exfalso; simp_all; done)
end Hw.Z
