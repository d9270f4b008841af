/- The engine and the contracts. -/
import Derived.Test.YtnijeifpjjeccaaGreatDoorC7
import Derived.Test.YtnijeifpjjeccaaGreatDoorC4
import Derived.Test.YtnijeifpjjeccaaGreatDoorC3
import Derived.Shelf.Spec.SlicesInsertGrow
set_option linter.unusedVariables false
set_option linter.unusedSimpArgs false
namespace Hw.Mq
open Go Go.Proofs Go.Shelf Hw.M

/-! models: Valid -/
theorem chrB_f {x : Int} (h : decide (x < 0) = true ∨ decide (255 < x) = true) : chrB x = false := by
  simp only [decide_eq_true_eq] at h
  cases e : chrB x with
  | false => rfl
  | true => have := chrB_iff.1 e; omega
theorem chrB_t {x : Int} (h1 : decide (x < 0) = false) (h2 : decide (255 < x) = false) : chrB x = true := by
  have := of_decide_eq_false h1; have := of_decide_eq_false h2; exact chrB_iff.2 (by omega)
def tabK (k : Int) (R : Rws) : Bool := decide (R.length ≤ 500) && tableB (wK k) (pT (cK k) (sK k)) R
theorem tabK_1 (R : Rws) : tabK 1 R = validS 1 R := by
  show (decide (R.length ≤ 500) && tableB 2 (pT 1 true) R) = (decide (R.length ≤ 500) && tableB 2 (ltC 1) R)
  rw [pT_strict (by decide)]
theorem tabK_2 (R : Rws) : tabK 2 R = validS 2 R := by
  show (decide (R.length ≤ 500) && tableB 1 (pT 1 false) R) = (decide (R.length ≤ 500) && tableB 1 (fun a b => !ltC 1 b a) R)
  rw [pT_weak (by decide)]
theorem tabK_3 (R : Rws) : tabK 3 R = validS 3 R := by
  show (decide (R.length ≤ 500) && tableB 1 (pT 0 true) R) = (decide (R.length ≤ 500) && tableB 1 (fun _ _ => true) R)
  rw [pT_none]
theorem tabK_5 (R : Rws) : tabK 5 R = validS 5 R := by
  show (decide (R.length ≤ 500) && tableB 3 (pT 2 true) R) = (decide (R.length ≤ 500) && tableB 3 (ltC 2) R)
  rw [pT_strict (by decide)]
theorem valid_4 (R : Rws) : validS 4 R = setsB R := by
  show (decide (R.length ≤ 500) && setsB R) = setsB R
  cases h : setsB R with
  | false => exact Bool.and_false _
  | true => rw [decide_eq_true (sets_iff.1 h).len]; rfl
theorem valid_6 (R : Rws) : validS 6 R = textB R := by
  show (decide (R.length ≤ 500) && textB R) = textB R
  match R with
  | [] => rfl
  | [r] => rfl
  | a :: b :: c => simp [textB]
theorem valid_no {k : Int} (hk : ¬(1 ≤ k ∧ k ≤ 6)) (R : Rws) : validS k R = false := by
  unfold validS
  rw [if_neg (by omega), if_neg (by omega), if_neg (by omega), if_neg (by omega), if_neg (by omega), if_neg (by omega), Bool.and_false]
theorem valid_len {k : Int} {R : Rws} (h : validS k R = true) : R.length ≤ 500 := by
  unfold validS at h
  simp only [Bool.and_eq_true, decide_eq_true_eq] at h
  exact h.1
theorem mValid_ok (k : Int) (R : Rws) (hw : ∀ r ∈ R, r.length ≤ 1000000) (hR : R.length ≤ 1000000) : FnOK Tryz.prog 39 [aggS (stR k R)] [] (.bq (validS k R)) [] := by
  by_cases hk : 1 ≤ k ∧ k ≤ 6
  case neg =>
    rw [valid_no hk]
    refine fn_ok T Tryz.func39 (by kernel_rfl) rfl rfl rfl rfl fun C hC => ?_
    repeat' first
      | refine g_go T hC true 400 rfl rfl ?_
      | (exfalso; first | (simp only [decide_eq_true_eq, decide_eq_false_iff_not, List.length_map, Bool.not_eq_true', Bool.not_eq_false'] at *; omega) | (simp at h; done))
      | refine g_cond rfl (fun h => ?_) (fun h => ?_)
      | refine g_end T hC (by kernel_rfl) ?_
      | refine g_splitD (fun h => ?_) (fun h => ?_)
      | refine g_splitG rfl rfl rfl (fun h => ?_) (fun h => ?_)
      | refine g_splitP rfl rfl (fun h => ?_) (fun h => ?_)
      | refine g_retl T (.inl rfl) rfl ?_
    all_goals rfl
  have hT := validRows_ok (k := k) R
  rw [show (decide (R.length ≤ 500) && tableB (wK k) (pT (cK k) (sK k)) R) = tabK k R from rfl] at hT
  rcases kinds hk with rfl | rfl | rfl | rfl | rfl | rfl
  · rw [tabK_1] at hT
    generalize validS 1 R = q at hT ⊢
    refine fn_ok T Tryz.func39 (by kernel_rfl) rfl rfl rfl rfl fun C hC => ?_
    repeat' first
      | refine g_go T hC true 400 rfl rfl ?_
      | (exfalso; simp at h; done)
      | refine g_cond rfl (fun h => ?_) (fun h => ?_)
      | refine g_end T hC (by kernel_rfl) ?_
      | refine g_splitD (fun h => ?_) (fun h => ?_)
      | refine g_splitG rfl rfl rfl (fun h => ?_) (fun h => ?_)
      | refine g_splitP rfl rfl (fun h => ?_) (fun h => ?_)
      | refine g_call hC (hT) rfl rfl (LeSs.refl _) rfl rfl rfl ?_
      | refine g_retq T (.inl rfl) rfl ?_
      | refine g_retl T (.inl rfl) rfl ?_
    all_goals rfl
  · rw [tabK_2] at hT
    generalize validS 2 R = q at hT ⊢
    refine fn_ok T Tryz.func39 (by kernel_rfl) rfl rfl rfl rfl fun C hC => ?_
    repeat' first
      | refine g_go T hC true 400 rfl rfl ?_
      | (exfalso; simp at h; done)
      | refine g_cond rfl (fun h => ?_) (fun h => ?_)
      | refine g_end T hC (by kernel_rfl) ?_
      | refine g_splitD (fun h => ?_) (fun h => ?_)
      | refine g_splitG rfl rfl rfl (fun h => ?_) (fun h => ?_)
      | refine g_splitP rfl rfl (fun h => ?_) (fun h => ?_)
      | refine g_call hC (hT) rfl rfl (LeSs.refl _) rfl rfl rfl ?_
      | refine g_retq T (.inl rfl) rfl ?_
      | refine g_retl T (.inl rfl) rfl ?_
    all_goals rfl
  · rw [tabK_3] at hT
    generalize validS 3 R = q at hT ⊢
    refine fn_ok T Tryz.func39 (by kernel_rfl) rfl rfl rfl rfl fun C hC => ?_
    repeat' first
      | refine g_go T hC true 400 rfl rfl ?_
      | (exfalso; simp at h; done)
      | refine g_cond rfl (fun h => ?_) (fun h => ?_)
      | refine g_end T hC (by kernel_rfl) ?_
      | refine g_splitD (fun h => ?_) (fun h => ?_)
      | refine g_splitG rfl rfl rfl (fun h => ?_) (fun h => ?_)
      | refine g_splitP rfl rfl (fun h => ?_) (fun h => ?_)
      | refine g_call hC (hT) rfl rfl (LeSs.refl _) rfl rfl rfl ?_
      | refine g_retq T (.inl rfl) rfl ?_
      | refine g_retl T (.inl rfl) rfl ?_
    all_goals rfl
  · have hS := validSets_ok R hw
    rw [valid_4]
    generalize setsB R = q at hS ⊢
    refine fn_ok T Tryz.func39 (by kernel_rfl) rfl rfl rfl rfl fun C hC => ?_
    repeat' first
      | refine g_go T hC true 400 rfl rfl ?_
      | (exfalso; simp at h; done)
      | refine g_cond rfl (fun h => ?_) (fun h => ?_)
      | refine g_end T hC (by kernel_rfl) ?_
      | refine g_splitD (fun h => ?_) (fun h => ?_)
      | refine g_splitG rfl rfl rfl (fun h => ?_) (fun h => ?_)
      | refine g_splitP rfl rfl (fun h => ?_) (fun h => ?_)
      | refine g_call hC (hS) rfl rfl (LeSs.refl _) rfl rfl rfl ?_
      | refine g_retq T (.inl rfl) rfl ?_
      | refine g_retl T (.inl rfl) rfl ?_
    all_goals rfl
  · rw [tabK_5] at hT
    generalize validS 5 R = q at hT ⊢
    refine fn_ok T Tryz.func39 (by kernel_rfl) rfl rfl rfl rfl fun C hC => ?_
    repeat' first
      | refine g_go T hC true 400 rfl rfl ?_
      | (exfalso; simp at h; done)
      | refine g_cond rfl (fun h => ?_) (fun h => ?_)
      | refine g_end T hC (by kernel_rfl) ?_
      | refine g_splitD (fun h => ?_) (fun h => ?_)
      | refine g_splitG rfl rfl rfl (fun h => ?_) (fun h => ?_)
      | refine g_splitP rfl rfl (fun h => ?_) (fun h => ?_)
      | refine g_call hC (hT) rfl rfl (LeSs.refl _) rfl rfl rfl ?_
      | refine g_retq T (.inl rfl) rfl ?_
      | refine g_retl T (.inl rfl) rfl ?_
    all_goals rfl
  · rw [valid_6]
    clear hT
    match R, hw, hR with
    | [], _, _ =>
      refine fn_ok T Tryz.func39 (by kernel_rfl) rfl rfl rfl rfl fun C hC => ?_
      repeat' first
        | refine g_go T hC true 400 rfl rfl ?_
        | (exfalso; simp at h; done)
        | refine g_cond rfl (fun h => ?_) (fun h => ?_)
        | refine g_end T hC (by kernel_rfl) ?_
        | refine g_splitD (fun h => ?_) (fun h => ?_)
        | refine g_splitG rfl rfl rfl (fun h => ?_) (fun h => ?_)
        | refine g_splitP rfl rfl (fun h => ?_) (fun h => ?_)
        | refine g_retq T (.inl rfl) rfl ?_
        | refine g_retl T (.inl rfl) rfl ?_
      all_goals first | rfl | (exfalso; simp at h; done)
    | [r], hw, _ =>
      have hN := intN_any 53 r (fun n => !chrB n) (fun n _ => vchr1_ok n)
      rw [any_not] at hN
      have hx : [r][0]? = some r := rfl
      have hrl := hw r (List.mem_singleton.2 rfl)
      rw [show textB [r] = (decide (1 ≤ r.length) && decide (r.length ≤ 500) && r.all chrB) from rfl]
      by_cases hr1 : 1 ≤ r.length ∧ r.length ≤ 500
      · rw [decide_eq_true hr1.1, decide_eq_true hr1.2, Bool.true_and, Bool.true_and]
        generalize r.all chrB = q at hN ⊢
        refine fn_ok T Tryz.func39 (by kernel_rfl) rfl rfl rfl rfl fun C hC => ?_
        repeat' first
          | refine g_go T hC true 400 rfl rfl ?_
          | (exfalso; first | (simp only [decide_eq_true_eq, decide_eq_false_iff_not, List.length_map, Bool.not_eq_true', Bool.not_eq_false'] at *; omega) | (simp at h; done))
          | (exfalso; simp at h; done)
          | refine g_cond rfl (fun h => ?_) (fun h => ?_)
          | refine g_end T hC (by kernel_rfl) ?_
          | refine g_splitD (fun h => ?_) (fun h => ?_)
          | refine g_splitG rfl rfl rfl (fun h => ?_) (fun h => ?_)
          | refine g_splitP rfl rfl (fun h => ?_) (fun h => ?_)
          | refine g_idx T hC rfl rfl rfl (by decide) (map_atI (l := [r]) (f := rowR) hx) rfl rfl ?_
          | refine g_call hC (hN) rfl rfl (LeSs.refl _) rfl rfl rfl ?_
          | refine g_retq T (.inl rfl) rfl ?_
          | refine g_retl T (.inl rfl) rfl ?_
        all_goals first | rfl | (simp; done)
      · rw [show (decide (1 ≤ r.length) && decide (r.length ≤ 500) && r.all chrB) = false by
          by_cases h1 : 1 ≤ r.length
          · rw [decide_eq_false (by omega : ¬ r.length ≤ 500)]; simp
          · rw [decide_eq_false h1]; rfl]
        refine fn_ok T Tryz.func39 (by kernel_rfl) rfl rfl rfl rfl fun C hC => ?_
        repeat' first
          | refine g_go T hC true 400 rfl rfl ?_
          | (exfalso; first | (simp only [decide_eq_true_eq, decide_eq_false_iff_not, List.length_map, Bool.not_eq_true', Bool.not_eq_false'] at *; omega) | (simp at h; done))
          | (exfalso; simp at h; done)
          | refine g_cond rfl (fun h => ?_) (fun h => ?_)
          | refine g_end T hC (by kernel_rfl) ?_
          | refine g_splitD (fun h => ?_) (fun h => ?_)
          | refine g_splitG rfl rfl rfl (fun h => ?_) (fun h => ?_)
          | refine g_splitP rfl rfl (fun h => ?_) (fun h => ?_)
          | refine g_idx T hC rfl rfl rfl (by decide) (map_atI (l := [r]) (f := rowR) hx) rfl rfl ?_
          | refine g_call hC (hN) rfl rfl (LeSs.refl _) rfl rfl rfl ?_
          | refine g_retq T (.inl rfl) rfl ?_
          | refine g_retl T (.inl rfl) rfl ?_
        all_goals first | rfl | (simp; done)
    | a :: b :: c, _, hR =>
      have hl : (a :: b :: c).length ≠ 0 ∧ (a :: b :: c).length ≠ 1 := by simp
      rw [show textB (a :: b :: c) = false from rfl]
      generalize a :: b :: c = R at hl hR
      refine fn_ok T Tryz.func39 (by kernel_rfl) rfl rfl rfl rfl fun C hC => ?_
      repeat' first
        | refine g_go T hC true 400 rfl rfl ?_
        | (exfalso; first | (simp only [decide_eq_true_eq, decide_eq_false_iff_not, List.length_map, Bool.not_eq_true', Bool.not_eq_false'] at *; omega) | (simp at h; done))
        | (exfalso; simp at h; done)
        | refine g_cond rfl (fun h => ?_) (fun h => ?_)
        | refine g_end T hC (by kernel_rfl) ?_
        | refine g_splitD (fun h => ?_) (fun h => ?_)
        | refine g_splitG rfl rfl rfl (fun h => ?_) (fun h => ?_)
        | refine g_splitP rfl rfl (fun h => ?_) (fun h => ?_)
        | refine g_retq T (.inl rfl) rfl ?_
        | refine g_retl T (.inl rfl) rfl ?_
      all_goals rfl
end Hw.Mq
namespace Hw.Mq
open Go Go.Proofs Go.Shelf Hw.M

/-! grids of integers: slices.Delete, slices.Reverse -/
def bg (R : Rws) : Res := .bag 1 (R.map fun r => r.map intR)
def vg (j n : Nat) : Res := .vw [j] 1 (gr n)
theorem vg_len (j : Nat) (R : Rws) : vg j R.length = .vw [j] 1 (gr (R.map fun r => r.map intR).length) := by rw [List.length_map]; rfl
abbrev OneV : Type := {v : Value // v.oneCell' = true}
instance : Inhabited OneV := ⟨⟨.slice none 0 0, rfl⟩⟩
def oneE (x : OneV) : Value := x.1
theorem oneE_one : OneCell oneE := fun x => x.2
theorem one_of : ∀ (xs : List Value), (∀ c ∈ xs, c.oneCell' = true) → ∃ ds : List OneV, ds.map oneE = xs
  | [], _ => ⟨[], rfl⟩
  | x :: xs, h => by
    obtain ⟨ds, hd⟩ := one_of xs fun c hc => h c (List.mem_cons_of_mem _ hc)
    exact ⟨⟨x, h x (List.mem_cons_self ..)⟩ :: ds, by simp [oneE, ← hd]⟩
theorem info_sl : ∃ i0, Tryz.prog.info? 22 = some i0 ∧ i0.size = 1 ∧ i0.zero = some (.slice none 0 0) ∧ i0.bytes = 24 := by
  have h : (Tryz.prog.info? 22).map (fun i => (decide (i.size = 1) && decide (i.bytes = 24) && (match i.zero with | some (.slice none 0 0) => true | _ => false))) = some true := by kernel_rfl
  obtain ⟨i0, h1, h2⟩ := Option.map_eq_some_iff.1 h
  simp only [Bool.and_eq_true, decide_eq_true_eq] at h2
  refine ⟨i0, h1, h2.1.1, ?_, h2.1.2⟩
  have h3 := h2.2
  split at h3
  · assumption
  · cases h3
theorem two_g {R : Rws} {i : Nat} {q : Res} (hi : tg (tb [(0, vg 1 R.length), (1, bg R)]) i = some q) : (i = 0 ∧ q = vg 1 R.length) ∨ (i = 1 ∧ q = bg R) := by
  simp only [tb, tg_cons] at hi
  split at hi
  · rename_i e; exact .inl ⟨e.symm, (Option.some.inj hi).symm⟩
  · split at hi
    · rename_i e; exact .inr ⟨e.symm, (Option.some.inj hi).symm⟩
    · cases hi
/-- The arrays within: whose they are, and that they lie apart from the outer one. -/
theorem inner_own {M : Mem} {ρ : Nat → Value} {w : World} {R : Rws} {xs : List Value} (hT : THolds M ρ w (tb [(0, vg 1 R.length), (1, bg R)])) (h1 : ρ 1 = .tuple xs.toArray) (hA : ∀ c ∈ xs, ∀ b, blk c = some b → b < w.heap.size) (h0 : ∀ b, blk (ρ 0) = some b → Bk (ρ 0) b) :
    ∀ c ∈ xs, ∀ b, blk c = some b → b < w.heap.size ∧ blk (ρ 0) ≠ some b ∧ Owns (tb [(0, vg 1 R.length), (1, bg R)]) ρ b := fun c hc b hb => by
  have hB : Bk (ρ 1) b := by rw [h1]; exact ⟨c, by simpa using hc, hb⟩
  exact ⟨hA c hc b hb, fun e => hT.dis 0 1 _ _ b rfl rfl (by decide) (h0 b e) hB, 1, _, rfl, hB⟩
theorem arr_lt {M : Mem} {w : World} {xs : List Value} {L : List (List (List PV))} {e : Nat} (hl : xs.length = L.length) (h : ∀ (j : Nat) rs, L[j]? = some rs → ∃ c, xs[j]? = some c ∧ ArrIn M w c e rs) : ∀ c ∈ xs, ∀ b, blk c = some b → b < w.heap.size := fun c hc b hb => by
  obtain ⟨j, hj⟩ := List.mem_iff_getElem?.1 hc
  have hjl := (List.getElem?_eq_some_iff.1 hj).1
  obtain ⟨c', c1, c2⟩ := h j _ (List.getElem?_eq_getElem (by omega))
  rw [hj] at c1
  obtain rfl := Option.some.inj c1
  exact c2.lt hb
theorem map_erase {α β : Type} (f : α → β) : ∀ (l : List α) (i : Nat), (l.eraseIdx i).map f = (l.map f).eraseIdx i
  | [], _ => rfl
  | _ :: _, 0 => rfl
  | x :: l, i + 1 => by simp only [List.eraseIdx_cons_succ, List.map_cons, map_erase f l i]
theorem del_ok (R : Rws) (i : Nat) (hi : i < R.length) (hR : R.length ≤ 1000000) : FnOK Tryz.prog 79 [.one (.ar 0), I i, I ((i + 1 : Nat) : Int)] [(0, vg 1 R.length), (1, bg R)] (.one (.ar 2)) [(2, vg 3 (R.length - 1)), (3, bg (R.eraseIdx i))] := by
  refine ⟨⟨_, Tryz.func79, by kernel_rfl, by kernel_rfl⟩, fun M ρ w vs hx hT hI hG => ?_⟩
  match vs, hx with
  | [x0, x1, x2], hx =>
    simp only [RepSs, RepS, RepV, RepPV] at hx
    obtain ⟨⟨rfl, _⟩, ⟨rfl, _⟩, ⟨rfl, _⟩, _⟩ := hx
    have hv := hT.res 0 (vg 1 R.length) rfl
    rw [vg_len] at hv
    obtain ⟨xs, a, cap, h1, h2, h3, h4, g1, g2, g3, g4, g5⟩ := grid_cells hv (hT.res 1 (bg R) rfl)
    rw [List.length_map] at h2
    rcases g5 with ⟨_, hc⟩ | ⟨b, o, cs, el, fz, rfl, k1, k2, k3, k4⟩
    · omega
    obtain ⟨ds, hds⟩ := one_of xs g4
    have hdl : ds.length = xs.length := by rw [← hds, List.length_map]
    have hH : Sort.Holds oneE w b o ds.toArray := holds_of k1 k2 fun j x hx => k4 j _ (by rw [← hds, List.getElem?_map]; simp at hx; rw [hx]; rfl)
    obtain ⟨i0, hi0, hz1, _, _⟩ := info_sl
    have h0 : ∀ q, blk (ρ 0) = some q → Bk (ρ 0) q := fun q hq => by rw [g1] at hq ⊢; exact hq
    have hcall := AnyE.slices_Delete laysDel oneE oneE_one (default : OneV) (fun w => by exact Tryz.zeroValue22 w) i0 hi0 hz1 b o cap i (i + 1) ds.toArray w hH (by simpa [hdl] using g2) g3 (Nat.le_succ i) (by simp; omega)
    rw [show ds.toArray.size = xs.length by simp [hdl]] at hcall
    rw [g1]
    refine hcall.mono ?_
    rintro e w' ⟨rfl, q, rfl⟩
    have hyl : (xs.eraseIdx i).length = xs.length - (i + 1 - i) := by rw [List.length_eraseIdx_of_lt (by omega)]; omega
    have hD : RowDone w (Sort.putRow oneE (Sort.ahead w q) b o (ds.toArray.toList.take i ++ ds.toArray.toList.drop (i + 1) ++ List.replicate (i + 1 - i) default).toArray) (blk (ρ 0)) (xs.eraseIdx i) (.slice (some ⟨b, o, none⟩) (xs.length - (i + 1 - i)) cap) := by
      refine ⟨b, o, cap, _, el, fz, by rw [hyl], putRow_at oneE (Sort.ahead w q) b o _ k1, by rw [putCells_size]; exact k2, by rw [putCells_size]; exact k3, by omega, g3, fun j u hj => ?_, .inr (by rw [g1]; rfl), fun k hk hne => ?_, by rw [putRow_size]; exact Nat.le_refl _, rfl, rfl, rfl⟩
      · have hjl := (List.getElem?_eq_some_iff.1 hj).1
        rw [← hds, ← map_erase, List.getElem?_map, Option.map_eq_some_iff] at hj
        obtain ⟨d, hd, rfl⟩ := hj
        refine putCells_in oneE o _ cs ?_ (by omega)
        rw [List.getElem?_toArray, List.getElem?_append_left (by simp; omega)]
        rw [List.eraseIdx_eq_take_drop_succ] at hd
        exact hd
      · exact putRow_off oneE _ b o _ fun e => hne (by rw [g1, e]; rfl)
    have hL : (R.map fun r => r.map intR).eraseIdx i = (R.eraseIdx i).map fun r => r.map intR := (map_erase _ R i).symm
    have := ret_grid (io := 2) (ib := 3) (e := 1) (L := (R.eraseIdx i).map fun r => r.map intR) rfl hT hI (by simp [RL.ids]) (by simp [RL.ids]) (by decide) hD h0
      (by rw [List.length_map, hyl, List.length_eraseIdx_of_lt (by omega)]; omega) (fun c hc => g4 c ((List.eraseIdx_sublist ..).subset hc))
      (fun j rs hj => by
        rw [← hL] at hj
        rcases Nat.lt_or_ge j i with hlt | hge
        · rw [List.getElem?_eraseIdx_of_lt hlt] at hj
          obtain ⟨c, c1, c2⟩ := h3 j rs hj
          exact ⟨c, by rw [List.getElem?_eraseIdx_of_lt hlt]; exact c1, c2⟩
        · rw [List.getElem?_eraseIdx_of_ge hge] at hj
          obtain ⟨c, c1, c2⟩ := h3 (j + 1) rs hj
          exact ⟨c, by rw [List.getElem?_eraseIdx_of_ge hge]; exact c1, c2⟩)
      (h4.sub (List.eraseIdx_sublist ..)) (fun c hc => inner_own hT h1 (arr_lt (by rw [List.length_map]; exact h2) h3) h0 c ((List.eraseIdx_sublist ..).subset hc))
    rw [List.length_map, List.length_eraseIdx_of_lt hi] at this
    exact ⟨_, M, _, rfl, this⟩
  | [], hx => simp [RepSs] at hx
  | [_], hx => simp [RepSs] at hx
  | [_, _], hx => simp [RepSs] at hx
  | _ :: _ :: _ :: _ :: _, hx => simp [RepSs] at hx
end Hw.Mq
namespace Hw.Mq
open Go Go.Proofs Go.Shelf Hw.M

/-! grids of integers: slices.Reverse of a part -/
def revL {α : Type} (l : List α) (a m : Nat) : List α := l.take a ++ ((l.drop a).take m).reverse ++ l.drop (a + m)
theorem revL_perm {α : Type} (l : List α) (a m : Nat) : (revL l a m).Perm l := by
  have e : l = l.take a ++ ((l.drop a).take m ++ (l.drop a).drop m) := by rw [List.take_append_drop, List.take_append_drop]
  conv => rhs; rw [e]
  rw [revL, List.append_assoc, List.drop_drop]
  exact List.Perm.append_left _ (List.Perm.append_right _ (List.reverse_perm _))
theorem revL_len {α : Type} (l : List α) (a m : Nat) : (revL l a m).length = l.length := (revL_perm l a m).length_eq
theorem revL_map {α β : Type} (f : α → β) (l : List α) (a m : Nat) : (revL l a m).map f = revL (l.map f) a m := by
  simp only [revL, List.map_append, List.map_take, List.map_drop, List.map_reverse]
/-- Where an element comes from. -/
theorem revL_at {α : Type} {l : List α} {a m : Nat} (h : a + m ≤ l.length) (j : Nat) : (revL l a m)[j]? = if a ≤ j ∧ j < a + m then l[a + (m - 1 - (j - a))]? else l[j]? := by
  have h1 : (l.take a).length = a := by rw [List.length_take]; omega
  have h2 : ((l.drop a).take m).length = m := by rw [List.length_take, List.length_drop]; omega
  have h3 : (((l.drop a).take m).reverse).length = m := by rw [List.length_reverse]; exact h2
  unfold revL
  by_cases hj : j < a
  · rw [if_neg (by omega), List.append_assoc, List.getElem?_append_left (by omega), List.getElem?_take, if_pos hj]
  · by_cases hj2 : j < a + m
    · rw [if_pos ⟨by omega, hj2⟩, List.getElem?_append_left (by rw [List.length_append]; omega), List.getElem?_append_right (by omega), h1, List.getElem?_reverse (by omega), h2, List.getElem?_take, if_pos (by omega), List.getElem?_drop]
    · rw [if_neg (by omega), List.getElem?_append_right (by rw [List.length_append]; omega), List.length_append, h1, h3, List.getElem?_drop, show a + m + (j - (a + m)) = j by omega]
theorem rev_ok (R : Rws) (a m : Nat) (ha : a + m ≤ R.length) (hR : R.length ≤ 1000000) : FnOK Tryz.prog 80 [.one (.sv 0 (a * 1) m)] [(0, vg 1 R.length), (1, bg R)] .un [(0, vg 2 R.length), (2, bg (revL R a m))] := by
  refine ⟨⟨_, Tryz.func80, by kernel_rfl, by kernel_rfl⟩, fun M ρ w vs hx hT hI hG => ?_⟩
  match vs, hx with
  | [x0], hx =>
    simp only [RepSs, RepS, RepV] at hx
    obtain ⟨hx0, _⟩ := hx
    have hv := hT.res 0 (vg 1 R.length) rfl
    rw [vg_len] at hv
    obtain ⟨xs, ad, cap, h1, h2, h3, h4, g1, g2, g3, g4, g5⟩ := grid_cells hv (hT.res 1 (bg R) rfl)
    rw [List.length_map] at h2
    have h0 : ∀ q, blk (ρ 0) = some q → Bk (ρ 0) q := fun q hq => by rw [g1] at hq ⊢; exact hq
    have inn := inner_own hT h1 (arr_lt (by rw [List.length_map]; exact h2) h3) h0
    have hlr := revL_len xs a m
    have hlR := revL_len R a m
    have two : ∀ i r, tg (tb [(0, vg 2 R.length), (2, bg (revL R a m))]) i = some r → (i = 0 ∧ r = vg 2 R.length) ∨ (i = 2 ∧ r = bg (revL R a m)) := fun i r hi => by
      simp only [tb, tg_cons] at hi
      split at hi
      · rename_i e; exact .inl ⟨e.symm, (Option.some.inj hi).symm⟩
      · split at hi
        · rename_i e; exact .inr ⟨e.symm, (Option.some.inj hi).symm⟩
        · cases hi
    -- what is left, wherever the outer cells lie
    have fin : ∀ {e : Ending} {w' : World}, e = .returned (.tuple #[]) → (∀ k, k < w.heap.size → blk (ρ 0) ≠ some k → w'.heap[k]? = w.heap[k]?) → w.heap.size ≤ w'.heap.size → w'.os = w.os → w'.tape = w.tape → w'.output = w.output →
        ((ad = none ∧ cap = 0) ∨ ∃ (b o : Nat) (cs : Array Value) (el : TypeId) (fz : Nat × Nat), ad = some ⟨b, o, none⟩ ∧ w'.heap[b]? = some (.cells cs el fz) ∧ Unfrozen fz cs.size ∧ o + cap ≤ cs.size ∧ ∀ (j : Nat) u, (revL xs a m)[j]? = some u → cs[o + j]? = some u) →
        ∃ v M' ρ', e = .returned v ∧ Ret M ρ w [(0, vg 1 R.length), (1, bg R)] .un [(0, vg 2 R.length), (2, bg (revL R a m))] v M' ρ' w' := fun {e w'} he hf hs ho ht hp hcells => by
      have r0 : upd ρ 2 (.tuple (revL xs a m).toArray) 0 = ρ 0 := upd_other (by decide)
      have r2 : upd ρ 2 (.tuple (revL xs a m).toArray) 2 = .tuple (revL xs a m).toArray := upd_same _ _ _
      refine ⟨_, M, upd ρ 2 (.tuple (revL xs a m).toArray), he, ret_gen hT hI (by simp only [RepS]) (fun i r hi => ?_) (fun i j ri rj b hi hj hne hb hb' => ?_) (fun i r b hi hb => ?_) (fun b hb hn => hf b hb fun e => hn ⟨0, _, rfl, h0 b e⟩) hs ho ht hp fun id hid => upd_other (by simp only [RL.ids, List.mem_cons, List.mem_nil_iff, or_false] at hid; omega)⟩
      · rcases two i r hi with ⟨rfl, rfl⟩ | ⟨rfl, rfl⟩
        · refine ⟨ad, cap, by rw [gr_len, r0, ← h2]; exact g1, by rw [gr_len, ← h2]; exact g2, g3, gr_one _, ?_⟩
          rcases hcells with h | ⟨b, o, cs, el, fz, k1, k2, k3, k4, k5⟩
          · exact .inl h
          · refine .inr ⟨b, o, cs, el, fz, k1, k2, k3, by rw [Nat.mul_one]; exact k4, fun j x hj => ?_⟩
            rw [gr, grJ_flat, List.getElem?_map, Option.map_eq_some_iff] at hj
            obtain ⟨q, hq, rfl⟩ := hj
            have hlt := (List.getElem?_eq_some_iff.1 hq).1
            rw [List.length_range] at hlt
            rw [List.getElem?_range hlt] at hq
            obtain rfl := Option.some.inj hq
            have hy : (revL xs a m)[j]? = some (revL xs a m)[j] := List.getElem?_eq_getElem (by omega)
            exact ⟨_, k5 j _ hy, by simp only [toV, List.getElem?_cons_zero, RepV]; exact ⟨_, r2, hy, g4 _ ((revL_perm xs a m).mem_iff.1 (List.mem_of_getElem? hy))⟩⟩
        · refine ⟨revL xs a m, r2, by rw [hlr, List.length_map, hlR]; exact h2, fun j rs hj => ?_, h4.perm (revL_perm xs a m).symm⟩
          rw [revL_map, revL_at (by rw [List.length_map]; exact ha)] at hj
          have : ∃ c, (revL xs a m)[j]? = some c ∧ ArrIn M w c 1 rs := by
            rw [revL_at (by omega)]
            split
            · rename_i hc; rw [if_pos hc] at hj; exact h3 _ rs hj
            · rename_i hc; rw [if_neg hc] at hj; exact h3 _ rs hj
          obtain ⟨c, c1, c2⟩ := this
          have hcm := (revL_perm xs a m).mem_iff.1 (List.mem_of_getElem? c1)
          exact ⟨c, c1, c2.world fun b hb => hf b (inn c hcm b hb).1 (inn c hcm b hb).2.1⟩
      · have key : ∀ b, Bk (ρ 0) b → Bk (.tuple (revL xs a m).toArray) b → False := fun b hb hb' => by
          obtain ⟨c, hc, h⟩ := hb'
          exact (inn c ((revL_perm xs a m).mem_iff.1 (by simpa using hc)) b h).2.1 (by rw [g1] at hb ⊢; exact hb)
        rcases two i ri hi with ⟨rfl, _⟩ | ⟨rfl, _⟩ <;> rcases two j rj hj with ⟨rfl, _⟩ | ⟨rfl, _⟩
        · exact hne rfl
        · rw [r0] at hb; rw [r2] at hb'; exact key b hb hb'
        · rw [r2] at hb; rw [r0] at hb'; exact key b hb' hb
        · exact hne rfl
      · rcases two i r hi with ⟨rfl, _⟩ | ⟨rfl, _⟩
        · rw [r0] at hb; exact .inr ⟨0, _, rfl, hb⟩
        · rw [r2] at hb
          obtain ⟨c, hc, h⟩ := hb
          exact .inr (inn c ((revL_perm xs a m).mem_iff.1 (by simpa using hc)) b h).2.2
    have same : revL xs a m = xs → w.heap.size ≤ w.heap.size := fun _ => Nat.le_refl _
    by_cases hm : m = 0
    · subst hm
      have hrx : revL xs a 0 = xs := by simp [revL]
      obtain ⟨a', c', rfl⟩ : ∃ (a' : Option Addr) (c' : Nat), x0 = .slice a' 0 c' := by
        rcases hx0 with ⟨_, h⟩ | ⟨b, o, N, cap', c', _, h, _⟩
        · exact h
        · exact ⟨_, _, h⟩
      refine (AnyE.slices_Reverse_empty laysRev a' c' w).mono ?_
      rintro e w' ⟨rfl, rfl⟩
      exact fin rfl (fun _ _ _ => rfl) (Nat.le_refl _) rfl rfl rfl (by rw [hrx]; exact g5)
    · rcases hx0 with ⟨h, _⟩ | ⟨b, o, N, cap', c', e1, rfl, e3, e4⟩
      · exact absurd h hm
      rcases g5 with ⟨rfl, _⟩ | ⟨b', o', cs, el, fz, rfl, k1, k2, k3, k4⟩
      · rw [g1] at e1; cases e1
      rw [g1] at e1
      simp only [Value.slice.injEq, Option.some.injEq, Addr.mk.injEq] at e1
      obtain ⟨⟨rfl, rfl, _⟩, rfl, rfl⟩ := e1
      rw [Nat.mul_one]
      obtain ⟨ds, hds⟩ := one_of ((xs.drop a).take m) fun c hc => g4 c (List.mem_of_mem_drop (List.mem_of_mem_take hc))
      have hdl : ds.length = m := by
        have := congrArg List.length hds
        rw [List.length_map, List.length_take, List.length_drop] at this; omega
      have hH : Sort.Holds oneE w b' (o' + a) ds.toArray := holds_of k1 k2 fun j x hx => by
        have hj : ((xs.drop a).take m)[j]? = some (oneE x) := by rw [← hds, List.getElem?_map]; simp at hx; rw [hx]; rfl
        rw [List.getElem?_take] at hj
        split at hj
        · rw [List.getElem?_drop] at hj
          rw [Nat.add_assoc]; exact k4 _ _ hj
        · cases hj
      have hcall := AnyE.slices_Reverse laysRev oneE oneE_one b' (o' + a) c' ds w hH (by omega)
      rw [hdl] at hcall
      refine hcall.mono ?_
      rintro e w' ⟨rfl, q, rfl⟩
      refine fin rfl (fun k hk hne => putRow_off oneE _ b' _ _ fun e => hne (by rw [g1, e]; rfl)) (by rw [putRow_size]; exact Nat.le_refl _) rfl rfl rfl (.inr ⟨b', o', _, el, fz, rfl, putRow_at oneE (Sort.ahead w q) b' _ _ k1, by rw [putCells_size]; exact k2, by rw [putCells_size]; exact k3, fun j u hj => ?_⟩)
      have hjl := (List.getElem?_eq_some_iff.1 hj).1
      rw [revL_at (by omega)] at hj
      split at hj
      · rename_i hc
        have hd : ds.reverse[j - a]? = ds[m - 1 - (j - a)]? := by rw [List.getElem?_reverse (by omega), hdl]
        have hx : (ds.map oneE)[m - 1 - (j - a)]? = some u := by
          rw [hds, List.getElem?_take, if_pos (by omega), List.getElem?_drop]; exact hj
        rw [List.getElem?_map, Option.map_eq_some_iff] at hx
        obtain ⟨d, hd2, rfl⟩ := hx
        have := putCells_in oneE (o' + a) ds.reverse.toArray cs (j := j - a) (x := d) (by rw [List.getElem?_toArray, hd]; exact hd2) (by omega)
        rw [show o' + a + (j - a) = o' + j by omega] at this
        exact this
      · rename_i hc
        have h5 := k4 j u hj
        unfold Sort.putCells
        rw [Array.getElem?_mapIdx, h5, Option.map_some, if_neg (by simp only [List.size_toArray, List.length_reverse]; omega)]
  | [], hx => simp [RepSs] at hx
  | _ :: _ :: _, hx => simp [RepSs] at hx
end Hw.Mq
namespace Hw.Mq
open Go Go.Proofs Go.Shelf Go.RowKit Go.Lib Hw.M

/-! slices.Insert of one row: its three roads, cell by cell -/
abbrev insV (xs : List Value) (i : Nat) (v : Value) : List Value := xs.take i ++ v :: xs.drop i
set_option maxHeartbeats 4000000 in
set_option maxRecDepth 100000 in
/-- At the end: an append. -/
theorem ins_end (a : Option Addr) (n c vb vc : Nat) (v v' : Value) (w w' : World) (hnc : n ≤ c) (hc63 : c ≤ 9223372036854775807)
    (hrun : ∀ ty, (Builtin.append_ #[39, 39] ty #[.slice a n c, .slice (some ⟨vb, 0, none⟩) 1 vc]).run Tryz.prog w = .ok v' w') :
    Calls Tryz.prog 78 #[.slice a n c, .int .i64 n, .slice (some ⟨vb, 0, none⟩) 1 vc] w fun e w2 => e = .returned v' ∧ w2 = w' := by
  have t3 := Tryz.underlying3; have a3 := Tryz.isAgg3; have z3 := Tryz.sizeOf3; have v3 := Tryz.zeroValue3
  have t4 := Tryz.underlying4; have a4 := Tryz.isAgg4; have z4 := Tryz.sizeOf4; have v4 := Tryz.zeroValue4
  have t22 := Tryz.underlying39; have a22 := Tryz.isAgg39; have z22 := Tryz.sizeOf39; have v22 := Tryz.zeroValue39
  have u3 := run_underlying Tryz.underlying3; have u4 := run_underlying Tryz.underlying4; have u22 := run_underlying Tryz.underlying39
  have mixed : Tryz.prog.follows .mixedOrders = true := by kernel_rfl
  go_enter Tryz.func78, Tryz.ntmps78
  cases a with
  | none =>
    go_wp2_with (at_builtin; refine Lib.wpList_append_run _ rfl _ _ _ _ rfl _ _ rfl rfl _ _ (hrun _) ?_)
    all_goals (go_ret; exact ⟨rfl, rfl⟩)
  | some ad =>
    obtain ⟨ab, ao, asp⟩ := ad
    go_wp2_with (at_builtin; refine Lib.wpList_append_run _ rfl _ _ _ _ rfl _ _ rfl rfl _ _ (hrun _) ?_)
    all_goals (go_ret; exact ⟨rfl, rfl⟩)
set_option maxHeartbeats 4000000 in
set_option maxRecDepth 100000 in
/-- Within, with room: what is behind moves up by one, in place. -/
theorem ins_shift (b off n c i vb vc : Nat) (xs : List Value) (v : Value) (w : World) (hi : i < n) (hroom : n + 1 ≤ c) (hc63 : c ≤ 9223372036854775807) (hvb : vb ≠ b) (hcl : xs.length = n)
    (hcs : ∀ (j : Nat) u, xs[j]? = some u → w.cell? ⟨b, off + j, none⟩ = some u) (hsp : ∀ j, j < n + 1 → (w.cell? ⟨b, off + j, none⟩).isSome = true) (hfz : ∀ j, j < n + 1 → w.frozen? ⟨b, off + j, none⟩ = false)
    (hv : w.cell? ⟨vb, 0, none⟩ = some v) (h1c : ∀ u ∈ xs, u.oneCell' = true) (h1v : v.oneCell' = true)
    (tA tB : TypeId) (kA kB : Nat) (hsa : w.shape? vb = some (tA, kA)) (hsb : w.shape? b = some (tB, kB)) (hkB : kB ≠ 0) (hfa : w.frozen? ⟨vb, 0, none⟩ = false) (hfe : w.frozen? ⟨vb, kA, none⟩ = false) :
    Calls Tryz.prog 78 #[.slice (some ⟨b, off, none⟩) n c, .int .i64 i, .slice (some ⟨vb, 0, none⟩) 1 vc] w fun e w' =>
      e = .returned (.slice (some ⟨b, off, none⟩) (n + 1) c) ∧ w' = (w.drew.setCells b (off + (i + 1)) (xs.drop i)).setCells b (off + i) [v] := by
  have t3 := Tryz.underlying3; have a3 := Tryz.isAgg3; have z3 := Tryz.sizeOf3; have v3 := Tryz.zeroValue3
  have t4 := Tryz.underlying4; have a4 := Tryz.isAgg4; have z4 := Tryz.sizeOf4; have v4 := Tryz.zeroValue4
  have t22 := Tryz.underlying39; have a22 := Tryz.isAgg39; have z22 := Tryz.sizeOf39; have v22 := Tryz.zeroValue39
  have u3 := run_underlying Tryz.underlying3; have u4 := run_underlying Tryz.underlying4; have u22 := run_underlying Tryz.underlying39
  have mixed : Tryz.prog.follows .mixedOrders = true := by kernel_rfl
  obtain ⟨i0, hi0, hz1, _, _⟩ := info_sl
  have hsz : (Tryz.prog.info? 22).map (·.size) = some 1 := by rw [hi0, ← hz1]; rfl
  have hn1 : ¬ ((i : Int) = (n : Int)) := by omega
  have hov : ∀ lb cb, (callFunc 100 #[.slice (some ⟨vb, 0, none⟩) 1 vc, .slice (some ⟨b, off + (i + 1), none⟩) lb cb]).run Tryz.prog w = .ok (.value (.bool false)) w := fun lb cb => by
    rw [run_callFunc_extern Tryz.func100 (by kernel_rfl) (by kernel_rfl) (by kernel_rfl) (e := Extern.SlicesOverlaps.overlaps #[39, 39] #[4]) (by kernel_rfl),
      Lib.run_overlaps_apart w 39 4 22 Tryz.underlying39 1 Tryz.sizeOf22 ⟨vb, 0, none⟩ ⟨b, off + (i + 1), none⟩ 1 vc lb cb hvb tA tB kA kB hsa hsb hkB hfa hfe]
    rfl
  have hdl : (xs.drop i).length = n - i := by rw [List.length_drop, hcl]
  have hb1 : (0 : Int) ≤ (i : Int) + 1 := by omega
  have hin : i ≤ n := by omega
  have htn : ((i : Int) + 1).toNat = i + 1 := by omega
  have hwr : IntKind.i64.wrap ((i : Int) + 1) = (i : Int) + 1 := by rw [IntKind.wrap_i64]; omega
  have hb2 : ¬ (c = i + 1) := by omega
  have hb3 : (i : Int) ≤ (n : Int) + 1 := by omega
  have hb4 : ¬ (c = i) := by omega
  have hcp1 : ∀ ty dc sc, (Builtin.copy_ #[39, 39] ty #[.slice (some ⟨b, off + (i + 1), none⟩) (n - i) dc, .slice (some ⟨b, off + i, none⟩) (n + 1 - i) sc]).run Tryz.prog w.drew = .ok (goInt (xs.drop i).length) (w.drew.setCells b (off + (i + 1)) (xs.drop i)) := fun ty dc sc =>
    run_copy_cells w.drew _ _ ty 22 b (off + (i + 1)) (n - i) dc ⟨b, off + i, none⟩ (n + 1 - i) sc (xs.drop i) Tryz.underlying39 hsz (by rw [hdl]; simp only [Nat.min_def]; split <;> omega)
      (fun j u hj => by rw [Addr.add_lit, Nat.add_assoc]; exact hcs (i + j) u (by rwa [List.getElem?_drop] at hj))
      (fun j hj => by rw [Nat.add_assoc]; exact hsp _ (by omega)) (fun j hj => by rw [Nat.add_assoc]; exact hfz _ (by omega)) (fun u hu => h1c u (List.mem_of_mem_drop hu))
  obtain ⟨W1, hW1⟩ : ∃ W1, W1 = w.drew.setCells b (off + (i + 1)) (xs.drop i) := ⟨_, rfl⟩
  have hsp1 : ∀ k, k < n + 1 → (W1.cell? ⟨b, off + k, none⟩).isSome = true := fun k hk => by
    rw [hW1]
    exact isSome_setCells b _ _ _ (fun j hj => by rw [Nat.add_assoc]; exact hsp _ (by omega)) _ (hsp k hk)
  have hcp2 : ∀ (W : World), (∀ x, W.cell? x = W1.cell? x) → (∀ x, W.frozen? x = W1.frozen? x) → ∀ ty dc, (Builtin.copy_ #[39, 39] ty #[.slice (some ⟨b, off + i, none⟩) (n + 1 - i) dc, .slice (some ⟨vb, 0, none⟩) 1 vc]).run Tryz.prog W = .ok (goInt [v].length) (W.setCells b (off + i) [v]) := fun W hWc hWf ty dc =>
    run_copy_cells W _ _ ty 22 b (off + i) (n + 1 - i) dc ⟨vb, 0, none⟩ 1 vc [v] Tryz.underlying39 hsz (by simp only [List.length_singleton, Nat.min_def]; split <;> omega)
      (fun j u hj => by
        rw [Addr.add_lit, hWc, hW1, World.cell?_setCells_out b _ _ _ _ (fun h _ => absurd h hvb)]
        match j, hj with
        | 0, hj => simp only [List.getElem?_cons_zero, Option.some.injEq] at hj; subst hj; exact hv)
      (fun j hj => by rw [hWc, Nat.add_assoc]; exact hsp1 _ (by simp at hj; omega)) (fun j hj => by rw [hWf, hW1, World.frozen?_setCells, Nat.add_assoc]; exact hfz _ (by simp at hj; omega)) (fun u hu => by rw [List.mem_singleton.1 hu]; exact h1v)
  rw [← hW1] at hcp1
  go_enter Tryz.func78, Tryz.ntmps78
  go_wp2_with (simp only [hov])
  go_region_law_o (refine step_copy_runI rfl _ _ 39 39 rfl _ _ (by simp [Act.eval, Act.put]) (by simp [Act.eval, Act.put]) (hcp1 _ _ _) ?_)
  go_wp2_with (at_builtin; refine wpList_copy_runI _ rfl _ _ 39 39 rfl _ _ rfl rfl (hcp2 _ (fun _ => rfl) (fun _ => rfl) _ _) ?_)
  go_ret
  first | exact ⟨rfl, rfl⟩ | exact ⟨rfl, by rw [hW1]⟩
set_option maxHeartbeats 4000000 in
set_option maxRecDepth 100000 in
/-- Within, without room: a new row. -/
theorem ins_grow (b off n c i vb vc : Nat) (xs : List Value) (v : Value) (w : World) (hi : i < n) (hnc : n ≤ c) (hroom : c < n + 1) (hbig : (n + 1) * 24 ≤ 140737488355328) (hcl : xs.length = n)
    (hcs : ∀ (j : Nat) u, xs[j]? = some u → w.cell? ⟨b, off + j, none⟩ = some u) (hv : w.cell? ⟨vb, 0, none⟩ = some v) (h1c : ∀ u ∈ xs, u.oneCell' = true) (h1v : v.oneCell' = true) :
    Calls Tryz.prog 78 #[.slice (some ⟨b, off, none⟩) n c, .int .i64 i, .slice (some ⟨vb, 0, none⟩) 1 vc] w fun e w' =>
      e = .returned (.slice (some ⟨w.heap.size, 0, none⟩) (n + 1) (grownCap w (n + 1) c 22)) ∧
      w' = (((w.alloc (.cells ((xs.take i).toArray ++ Builtin.zeroCells (Value.slice none 0 0).cells (n + 1 - i) ++ Builtin.zeroCells (Value.slice none 0 0).cells (grownCap w (n + 1) c 22 - (n + 1))) 22)).drew.setCells w.heap.size i [v]).drew).setCells w.heap.size (i + 1) (xs.drop i) := by
  have t3 := Tryz.underlying3; have a3 := Tryz.isAgg3; have z3 := Tryz.sizeOf3; have v3 := Tryz.zeroValue3
  have t4 := Tryz.underlying4; have a4 := Tryz.isAgg4; have z4 := Tryz.sizeOf4; have v4 := Tryz.zeroValue4
  have t22 := Tryz.underlying39; have a22 := Tryz.isAgg39; have z22 := Tryz.sizeOf39; have v22 := Tryz.zeroValue39
  have u3 := run_underlying Tryz.underlying3; have u4 := run_underlying Tryz.underlying4; have u22 := run_underlying Tryz.underlying39
  have mixed : Tryz.prog.follows .mixedOrders = true := by kernel_rfl
  obtain ⟨i0, hi0, hzs, hz0, hzb⟩ := info_sl
  have hn1 : ¬ ((i : Int) = (n : Int)) := by omega
  have hn2 : (c : Int) < (n : Int) + 1 := by omega
  have hsz : (Tryz.prog.info? 22).map (·.size) = some 1 := by rw [hi0, ← hzs]; rfl
  have hbw : b < w.heap.size := block_lt_of_cell (hcs 0 _ (List.getElem?_eq_getElem (by omega)))
  have hvw : vb < w.heap.size := block_lt_of_cell hv
  have hkk : (n : Int) + 1 - (i : Int) = ((n + 1 - i : Nat) : Int) := by omega
  have hik : i + (n + 1 - i) = n + 1 := by omega
  have hold : (Builtin.firstCells i0.size i (.slice (some ⟨b, off, none⟩) i c)).run Tryz.prog w.drew = .ok (xs.take i).toArray w.drew := by
    rw [hzs]
    exact run_firstCells_some w.drew 1 i ⟨b, off, none⟩ i c (xs.take i) (by rw [List.length_take]; omega) (fun j u hj => by
      rw [Addr.add_lit]
      rw [List.getElem?_take] at hj
      split at hj
      · exact hcs j u hj
      · cases hj)
  have hrz : ∀ ty, (Builtin.append_ #[39, 3] ty #[.slice (some ⟨b, off, none⟩) i c, .int .i64 ((n : Int) + 1 - (i : Int))]).run Tryz.prog w =
      .ok (.slice (some ⟨w.heap.size, 0, none⟩) (n + 1) (grownCap w (n + 1) c 22)) (w.drew.alloc (.cells ((xs.take i).toArray ++ Builtin.zeroCells (Value.slice none 0 0).cells (n + 1 - i) ++ Builtin.zeroCells (Value.slice none 0 0).cells (grownCap w (n + 1) c 22 - (n + 1))) 22)) := fun ty => by
    have h := Lib.run_append_grow_zeros w 39 3 ty 22 i0 _ .i64 .i64 Tryz.underlying39 Tryz.underlying3 hi0 hz0 (some ⟨b, off, none⟩) i c (xs.take i) hold (n + 1 - i) (by omega) (by omega) (by omega) (by omega) (by rw [hzb]; omega) (by rw [hzb, hik]; exact growslice_fits hroom hbig)
    rw [hik] at h
    rw [hkk]
    exact h
  obtain ⟨G, hG⟩ : ∃ G, G = grownCap w (n + 1) c 22 := ⟨_, rfl⟩
  obtain ⟨ROW, hROW⟩ : ∃ ROW : Array Value, ROW = (xs.take i).toArray ++ Builtin.zeroCells (Value.slice none 0 0).cells (n + 1 - i) ++ Builtin.zeroCells (Value.slice none 0 0).cells (G - (n + 1)) := ⟨_, rfl⟩
  rw [← hG] at hrz ⊢
  rw [← hROW] at hrz ⊢
  have hRl : n + 1 ≤ ROW.size := by
    rw [hROW]
    simp [Builtin.zeroCells, Value.cells]
    omega
  obtain ⟨W1, hW1⟩ : ∃ W1, W1 = w.drew.alloc (.cells ROW 22) := ⟨_, rfl⟩
  rw [← hW1] at hrz
  have hN : ∀ j, j < n + 1 → (W1.cell? ⟨w.heap.size, j, none⟩).isSome = true := fun j hj => by
    rw [hW1, World.cell?_alloc_at (w := w.drew) ROW _ w.heap.size j rfl, Array.getElem?_eq_getElem (by omega)]; rfl
  have hNf : ∀ j, W1.frozen? ⟨w.heap.size, j, none⟩ = false := fun j => by rw [hW1]; exact World.frozen?_alloc_at (w := w.drew) ROW _ w.heap.size j rfl
  have hOb : ∀ j u, w.cell? ⟨b, j, none⟩ = some u → W1.cell? ⟨b, j, none⟩ = some u := fun j u h => by rw [hW1, World.cell?_alloc_past (w := w.drew) _ b j hbw]; exact h
  have hOv : ∀ j u, w.cell? ⟨vb, j, none⟩ = some u → W1.cell? ⟨vb, j, none⟩ = some u := fun j u h => by rw [hW1, World.cell?_alloc_past (w := w.drew) _ vb j hvw]; exact h
  have hcpA : ∀ (W : World), (∀ x, W.cell? x = W1.cell? x) → (∀ x, W.frozen? x = W1.frozen? x) → ∀ ty dc, (Builtin.copy_ #[39, 39] ty #[.slice (some ⟨w.heap.size, i, none⟩) (n + 1 - i) dc, .slice (some ⟨vb, 0, none⟩) 1 vc]).run Tryz.prog W = .ok (goInt [v].length) (W.setCells w.heap.size i [v]) := fun W hWc hWf ty dc =>
    run_copy_cells W _ _ ty 22 w.heap.size i (n + 1 - i) dc ⟨vb, 0, none⟩ 1 vc [v] Tryz.underlying39 hsz (by simp only [List.length_singleton, Nat.min_def]; split <;> omega)
      (fun j u hj => by
        rw [Addr.add_lit, hWc]
        match j, hj with
        | 0, hj => simp only [List.getElem?_cons_zero, Option.some.injEq] at hj; subst hj; exact hOv _ _ hv)
      (fun j hj => by rw [hWc]; exact hN _ (by simp at hj; omega)) (fun j hj => by rw [hWf]; exact hNf _) (fun u hu => by rw [List.mem_singleton.1 hu]; exact h1v)
  have hGn : n + 1 ≤ G := by rw [hG]; exact grownCap_ge w _ _ _
  have hG63 : G ≤ 9223372036854775807 := by
    have := grownCap_le_maxLen w (n + 1) c 22 (by unfold maxLen; omega)
    rw [← hG] at this
    unfold maxLen at this
    omega
  have hGi : ¬ (G = i) := by omega
  have hGim : ¬ (G = i + 1) := by omega
  have hci : ¬ (c = i) := by omega
  have hbN : b ≠ w.heap.size := by omega
  have hdl : (xs.drop i).length = n - i := by rw [List.length_drop, hcl]
  have hcpB : ∀ (W : World), (∀ x, W.cell? x = (W1.setCells w.heap.size i [v]).cell? x) → (∀ x, W.frozen? x = (W1.setCells w.heap.size i [v]).frozen? x) → ∀ ty dc sc, (Builtin.copy_ #[39, 39] ty #[.slice (some ⟨w.heap.size, i + 1, none⟩) (n + 1 - (i + 1)) dc, .slice (some ⟨b, off + i, none⟩) (n - i) sc]).run Tryz.prog W = .ok (goInt (xs.drop i).length) (W.setCells w.heap.size (i + 1) (xs.drop i)) := fun W hWc hWf ty dc sc =>
    run_copy_cells W _ _ ty 22 w.heap.size (i + 1) (n + 1 - (i + 1)) dc ⟨b, off + i, none⟩ (n - i) sc (xs.drop i) Tryz.underlying39 hsz (by rw [hdl]; simp only [Nat.min_def]; split <;> omega)
      (fun j u hj => by
        rw [Addr.add_lit, hWc, World.cell?_setCells_out _ _ _ _ _ (fun h _ => absurd h hbN), Nat.add_assoc]
        exact hOb _ u (hcs (i + j) u (by rwa [List.getElem?_drop] at hj)))
      (fun j hj => by rw [hWc]; exact isSome_setCells _ _ _ _ (fun t ht => hN _ (by simp at ht; omega)) _ (hN _ (by omega)))
      (fun j hj => by rw [hWf, World.frozen?_setCells]; exact hNf _) (fun u hu => h1c u (List.mem_of_mem_drop hu))
  subst hW1
  have hE1 : ∀ x, ((w.alloc (.cells ROW 22)).drew).cell? x = (w.drew.alloc (.cells ROW 22)).cell? x := fun x => rfl
  have hE2 : ∀ x, ((w.alloc (.cells ROW 22)).drew).frozen? x = (w.drew.alloc (.cells ROW 22)).frozen? x := fun x => rfl
  have hF1 : ∀ x, (((w.alloc (.cells ROW 22)).drew.setCells w.heap.size i [v]).drew).cell? x = ((w.drew.alloc (.cells ROW 22)).setCells w.heap.size i [v]).cell? x := fun x => rfl
  have hF2 : ∀ x, (((w.alloc (.cells ROW 22)).drew.setCells w.heap.size i [v]).drew).frozen? x = ((w.drew.alloc (.cells ROW 22)).setCells w.heap.size i [v]).frozen? x := fun x => rfl
  have hb1 : (0 : Int) ≤ (i : Int) + 1 := by omega
  have hin : i ≤ n := by omega
  have htn : ((i : Int) + 1).toNat = i + 1 := by omega
  have hwr : IntKind.i64.wrap ((i : Int) + 1) = (i : Int) + 1 := by rw [IntKind.wrap_i64]; omega
  have hb3 : (i : Int) ≤ (n : Int) := by omega
  clear hkk hik hold hROW hG hRl
  go_enter Tryz.func78, Tryz.ntmps78
  go_wp2_with (first
    | (at_builtin; refine Lib.wpList_append_run _ rfl _ _ _ _ rfl _ _ rfl rfl _ _ (hrz _) ?_)
    | (at_builtin; refine wpList_copy_runI _ rfl _ _ 39 39 rfl _ _ rfl rfl (hcpA _ hE1 hE2 _ _) ?_)
    | (at_builtin; refine wpList_copy_runI _ rfl _ _ 39 39 rfl _ _ rfl rfl (hcpB _ (fun _ => rfl) (fun _ => rfl) _ _ _) ?_))
  go_region_law_o (refine step_copy_runI rfl _ _ 39 39 rfl (.slice (some ⟨w.heap.size, i + 1, none⟩) (n + 1 - (i + 1)) (G - (i + 1))) (.slice (some ⟨b, off + i, none⟩) (n - i) (c - i)) (by simp [Act.eval, Act.put]) (by simp [Act.eval, Act.put]) (hcpB _ hF1 hF2 3 (G - (i + 1)) (c - i)) ?_)
  go_wp2
  go_ret
  exact ⟨rfl, rfl⟩
end Hw.Mq
