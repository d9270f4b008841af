/- The engine and the contracts. -/
import Derived.Test.YtnijeifpjjeccaaC15
import Derived.Test.YtnijeifpjjeccaaC14
set_option linter.unusedVariables false
set_option linter.unusedSimpArgs false
namespace Hw.Mo
open Go Go.Proofs Go.Shelf Hw.M

/-! models: the law of partitions -/
abbrev U8 := {n : Int // 0 ≤ n ∧ n ≤ 255}
def pairR (p : U8 × U8) : List PV := [.k (.int .u8 p.1.1), .k (.int .u8 p.2.1)]
def cI (k i : Nat) : List Int := rangeI i ++ List.replicate (k - i) 0
theorem cI_len {k i : Nat} (h : i ≤ k) : (cI k i).length = k := by simp [cI, rangeI]; omega
theorem cI_zero (k : Nat) : cI k 0 = List.replicate k 0 := by simp [cI, rangeI]
theorem cI_full (k : Nat) : cI k k = rangeI k := by simp [cI]
theorem cI_at {k i : Nat} (h : i < k) : (cI k i)[i]? = some 0 := by
  unfold cI
  rw [List.getElem?_append_right (by simp [rangeI]), show (rangeI i).length = i by simp [rangeI], Nat.sub_self, List.getElem?_replicate, if_pos (by omega)]
theorem cI_set {k i : Nat} (h : i < k) : (cI k i).set i i = cI k (i + 1) := by
  unfold cI
  have hl : (rangeI i).length = i := by simp [rangeI]
  rw [List.set_append_right _ _ (by omega), hl, Nat.sub_self, show k - i = (k - (i + 1)) + 1 by omega, List.replicate_succ, List.set_cons_zero]
  have : rangeI (i + 1) = rangeI i ++ [(i : Int)] := by unfold rangeI; rw [List.range_succ, List.map_append]; rfl
  rw [this, List.append_assoc]; rfl
/-- The first i of the classes told anew. -/
def joinT (u v : Int) (c : List Int) (i : Nat) : List Int := joinC u v (c.take i) ++ c.drop i
theorem joinT_len (u v : Int) (c : List Int) (i : Nat) : (joinT u v c i).length = c.length := by simp [joinT, joinC]; omega
theorem joinT_zero (u v : Int) (c : List Int) : joinT u v c 0 = c := by simp [joinT, joinC]
theorem joinT_full (u v : Int) (c : List Int) {i : Nat} (h : c.length ≤ i) : joinT u v c i = joinC u v c := by
  unfold joinT; rw [List.take_of_length_le h, List.drop_of_length_le h, List.append_nil]
theorem joinT_at {u v : Int} {c : List Int} {i : Nat} {w : Int} (h : c[i]? = some w) : (joinT u v c i)[i]? = some w := by
  obtain ⟨hl, _⟩ := List.getElem?_eq_some_iff.1 h
  unfold joinT
  have hlen : (joinC u v (c.take i)).length = i := by simp [joinC]; omega
  rw [List.getElem?_append_right (by omega), hlen, Nat.sub_self, List.getElem?_drop, Nat.add_zero, h]
theorem joinT_u {u v : Int} {c : List Int} {i x : Nat} (h : c[x]? = some u) : (joinT u v c i)[x]? = some u := by
  unfold joinT
  have hlen : (joinC u v (c.take i)).length = min i c.length := by simp [joinC]
  obtain ⟨hl, _⟩ := List.getElem?_eq_some_iff.1 h
  rcases Nat.lt_or_ge x i with hx | hx
  · rw [List.getElem?_append_left (by omega)]
    have : (c.take i)[x]? = some u := by rw [List.getElem?_take, if_pos hx, h]
    rw [joinC_at this]
    split <;> rfl
  · rw [List.getElem?_append_right (by omega), hlen, List.getElem?_drop, show i + (x - min i c.length) = x by omega, h]
theorem joinT_step {u v : Int} {c : List Int} {i : Nat} {w : Int} (h : c[i]? = some w) : joinT u v c (i + 1) = (joinT u v c i).set i (if w = v then u else w) := by
  obtain ⟨hl, he⟩ := List.getElem?_eq_some_iff.1 h
  unfold joinT
  have hlen : (joinC u v (c.take i)).length = i := by simp [joinC]; omega
  rw [List.set_append_right _ _ (by omega), hlen, Nat.sub_self, take_snoc h, List.drop_eq_getElem_cons hl, List.set_cons_zero]
  unfold joinC
  rw [List.map_append, List.append_assoc]; rfl
theorem joinT_keep {u v : Int} {c : List Int} {i : Nat} {w : Int} (h : c[i]? = some w) (hn : w ≠ v) : joinT u v c (i + 1) = joinT u v c i := by
  rw [joinT_step h, if_neg hn]
  refine List.ext_getElem? fun j => ?_
  rw [List.getElem?_set]
  split
  · rename_i e
    subst e
    have := joinT_at (u := u) (v := v) h
    rw [this]
    split
    · rfl
    · rename_i hne; rw [List.getElem?_eq_none (by omega)] at this; cases this
  · rfl
theorem sizeC_next {c : List Int} {u w : Int} {i : Nat} (h : c[i]? = some w) : sizeC (c.take (i + 1)) u = sizeC (c.take i) u + (if w = u then 1 else 0) := by
  unfold sizeC
  rw [take_snoc h, List.filter_append, List.length_append]
  congr 1
  simp only [List.filter_cons, List.filter_nil, decide_eq_true_eq]
  split <;> rfl
theorem sizeC_le (c : List Int) (u : Int) : sizeC c u ≤ c.length := List.length_filter_le _ _
theorem firstC_le (c : List Int) : ∀ i, firstC c i ≤ i
  | 0 => Nat.le_refl _
  | i + 1 => by rw [firstC_succ]; have := firstC_le c i; split <;> omega
theorem map_set' {l : List Int} {i : Nat} {x : Int} : (l.map intR).set i (intR x) = (l.set i x).map intR := (List.map_set ..).symm
theorem sets_ok0 : okOp 4 ⟨1, []⟩ = true := by decide
theorem sets_ok2 {c : Int} {x y k : Nat} (hc : c = 2 ∨ c = 3) (hk : k ≤ 14) (hx : x < k) (hy : y < k) : okOp 4 ⟨c, [(x : Int), (y : Int)]⟩ = true := by
  rcases hc with rfl | rfl <;> simp [okOp, wordsL, numB] <;> omega
theorem sets_ok1 {x k : Nat} (hk : k ≤ 14) (hx : x < k) : okOp 4 ⟨4, [(x : Int)]⟩ = true := by
  simp [okOp, wordsL, numB]; omega
set_option maxHeartbeats 4000000 in
set_option maxRecDepth 100000 in
theorem modelSets_ok (n : Int) (hn : 0 ≤ n ∧ n ≤ 255) (l : List (U8 × U8)) : FnOK Try.prog 6 [.one (.p (.k (.int .u8 n))), pS (.sl 2 (l.map pairR))] [] (.bq true) [] := by
  have hll : (l.map pairR).length = l.length := List.length_map _
  by_cases h20 : 20 < l.length
  · refine fn_ok T Try.func6 (by kernel_rfl) rfl rfl rfl rfl fun C hC => ?_
    repeat' first
      | refine g_go T hC true 400 rfl rfl ?_
      | (exfalso; simp at h; done)
      | (exfalso; first | (simp only [decide_eq_true_eq, decide_eq_false_iff_not, List.length_map, Bool.not_eq_true', Bool.not_eq_false'] at *; omega) | (simp at h; done))
      | refine g_cond rfl (fun h => ?_) (fun h => ?_)
      | refine g_end T hC (by kernel_rfl) ?_
      | refine g_splitD (fun h => ?_) (fun h => ?_)
      | refine g_splitG rfl rfl rfl (fun h => ?_) (fun h => ?_)
      | refine g_splitP rfl rfl (fun h => ?_) (fun h => ?_)
      | refine g_call hC (awake_ok) rfl rfl (LeSs.refl _) rfl rfl rfl ?_
    all_goals exact g_fin ⟨.inl rfl, id, _, rfl, .refl _, trivial, rfl, rfl⟩
  have hN := new_ok (k := 4) (by decide)
  have hk1 : IntKind.i64.wrap (1 + (IntKind.i64.wrap n).tmod 14) = 1 + n % 14 := by rw [wrap64 (n := n) (by omega), Int.tmod_eq_emod_of_nonneg hn.1]; exact wrap64 (by omega)
  obtain ⟨k, hk⟩ : ∃ k : Nat, 1 + n % 14 = (k : Int) := ⟨(1 + n % 14).toNat, by omega⟩
  rw [hk] at hk1
  have hkb : 1 ≤ k ∧ k ≤ 14 := by omega
  refine fn_ok T Try.func6 (by kernel_rfl) rfl rfl rfl rfl fun C hC => ?_
  repeat' first
    | refine g_go T hC true 400 rfl rfl ?_
    | (exfalso; simp at h; done)
    | (exfalso; first | (simp only [decide_eq_true_eq, decide_eq_false_iff_not, List.length_map, Bool.not_eq_true', Bool.not_eq_false'] at *; omega) | (simp at h; done))
    | refine g_cond rfl (fun h => ?_) (fun h => ?_)
    | refine g_end T hC (by kernel_rfl) ?_
    | refine g_splitD (fun h => ?_) (fun h => ?_)
    | refine g_splitG rfl rfl rfl (fun h => ?_) (fun h => ?_)
    | refine g_splitP rfl rfl (fun h => ?_) (fun h => ?_)
    | refine g_call hC (awake_ok) rfl rfl (LeSs.refl _) rfl rfl rfl ?_
    | refine g_call hC (hN) rfl rfl (LeSs.refl _) rfl rfl rfl ?_
    | (refine g_rem hC rfl rfl (by decide) rfl rfl ?_)
    | (rw [hk1]; refine g_mk T hC k rfl rfl rfl rfl rfl rfl rfl rfl (by omega) rfl rfl rfl ?_)
  refine g_loop (fun i : Nat => i ≤ k) (fun i => ([(1, pS (.sl 2 (l.map pairR))), (5, I k), (6, .one (.bx 1006 0)), (8, .one (.ar 1051)), (52, I k), (53, I i)], [(1006, some (.box [.p (ki 4), .p (rowsP (rowsN i))])), (1051, some (.arr 1 ((cI k i).map intR)))])) (fun i => k - i) hC
    0 (Nat.zero_le _) id ⟨rfl, ⟨rfl, rfl, rfl, rfl, rfl, rfl, trivial⟩, ⟨rfl, by rw [cI_zero, List.map_replicate]; rfl, trivial⟩, rfl, fun _ _ => rfl⟩ ?_
  intro i hi
  refine g_run' T hC true 200 rfl ?_
  refine g_cond rfl (fun h => ?_) (fun h => ?_)
  · have hlt : i < k := by have := of_decide_eq_true h; omega
    clear h
    have hA := mApply_yes 4 (rowsN i) ⟨1, []⟩ (rowsN_valid i (by omega)) sets_ok0
    rw [sets_make (by omega)] at hA
    have hQ := sameRes_ok (okR (i : Int)) (okR (i : Int))
    rw [decide_eq_true (rfl : okR (i : Int) = okR (i : Int))] at hQ
    have hcl := cI_len (k := k) (i := i) (by omega)
    repeat' first
      | refine g_go T hC true 400 rfl rfl ?_
      | (exfalso; simp at h; done)
      | refine g_cond rfl (fun h => ?_) (fun h => ?_)
      | refine g_end T hC (by kernel_rfl) ?_
      | refine g_splitD (fun h => ?_) (fun h => ?_)
      | refine g_splitG rfl rfl rfl (fun h => ?_) (fun h => ?_)
      | refine g_splitP rfl rfl (fun h => ?_) (fun h => ?_)
      | (refine g_call hC (op_ok 1 []) rfl rfl (LeSs.cons (.refl _) (LeSs.cons (LeS.one (.nil 1)) .nil)) rfl rfl rfl ?_)
      | refine g_call hC (hA) rfl rfl (LeSs.refl _) rfl rfl rfl ?_
      | refine g_call hC (hQ) rfl rfl (LeSs.refl _) rfl rfl rfl ?_
      | refine g_idxA T hC (rows := (cI k i).map intR) rfl rfl rfl rfl (Int.natCast_nonneg _) (by rw [List.length_map, hcl]; omega) rfl rfl ?_
      | refine g_storeE T hC i 0 (rows := (cI k i).map intR) (row := intR 0) (us := [.k (.int .i64 i)]) (rows' := (cI k (i + 1)).map intR) rfl rfl rfl rfl rfl rfl rfl (map_at (cI_at hlt)) (Nat.le_refl 1) (by rw [← cI_set hlt, ← map_set']; rfl) rfl ?_
    rw [wrapS (by omega)]
    exact g_round (i + 1) (by omega) id (by omega) ⟨rfl, ⟨rfl, rfl, rfl, rfl, rfl, rfl, trivial⟩, ⟨rfl, rfl, trivial⟩, rfl, fun _ _ => rfl⟩
  · have hge : k = i := by have := of_decide_eq_false h; omega
    subst hge
    clear h hi
    rw [cI_full]
    repeat' first
      | refine g_go T hC true 400 rfl rfl ?_
      | refine g_cond rfl (fun h => ?_) (fun h => ?_)
      | refine g_end T hC (by kernel_rfl) ?_
      | refine g_splitD (fun h => ?_) (fun h => ?_)
      | refine g_splitG rfl rfl rfl (fun h => ?_) (fun h => ?_)
      | refine g_splitP rfl rfl (fun h => ?_) (fun h => ?_)
      | refine g_outE ?_
    rw [hll]
    refine g_loop (fun q : Nat × Rws × List Int => q.1 ≤ l.length ∧ Rep q.2.1 q.2.2 ∧ q.2.2.length = k) (fun q => ([(5, I k), (6, .one (.bx 1006 0)), (8, .one (.ar 1051)), (78, pS (.sl 2 (l.map pairR))), (79, I l.length), (80, I q.1)], [(1006, some (.box [.p (ki 4), .p (rowsP q.2.1)])), (1051, some (.arr 1 (q.2.2.map intR)))])) (fun q => l.length - q.1) hC
      (0, rowsN k, rangeI k) ⟨Nat.zero_le _, rowsN_rep (by omega), by simp [rangeI]⟩ id ⟨rfl, ⟨rfl, rfl, rfl, rfl, rfl, rfl, trivial⟩, ⟨rfl, rfl, trivial⟩, rfl, fun _ _ => rfl⟩ ?_
    rintro ⟨i, R, c⟩ ⟨hi, hR, hc⟩
    simp only at hi hR hc
    refine g_run' T hC true 200 rfl ?_
    refine g_cond rfl (fun h => ?_) (fun h => ?_)
    · have hlt : i < l.length := by have := of_decide_eq_true h; omega
      clear h
      obtain ⟨p, hp⟩ := exists_at hlt
      have hb1 := p.1.2
      have hb2 := p.2.2
      have hm : ∀ x : Int, 0 ≤ x ∧ x ≤ 255 → (IntKind.i64.wrap x).tmod k = x % k := fun x hx => by rw [wrap64 (n := x) (by omega), Int.tmod_eq_emod_of_nonneg hx.1]
      have hm1 := hm _ hb1
      have hm2 := hm _ hb2
      have hx0 := Int.emod_nonneg p.1.1 (b := (k : Int)) (by omega)
      have hx1 := Int.emod_lt_of_pos p.1.1 (b := (k : Int)) (by omega)
      have hy0 := Int.emod_nonneg p.2.1 (b := (k : Int)) (by omega)
      have hy1 := Int.emod_lt_of_pos p.2.1 (b := (k : Int)) (by omega)
      obtain ⟨x, hx⟩ : ∃ x : Nat, p.1.1 % (k : Int) = x := ⟨(p.1.1 % (k : Int)).toNat, by omega⟩
      obtain ⟨y, hy⟩ : ∃ y : Nat, p.2.1 % (k : Int) = y := ⟨(p.2.1 % (k : Int)).toNat, by omega⟩
      rw [hx] at hm1 hx1
      rw [hy] at hm2 hy1
      have hxk : x < k := by omega
      have hyk : y < k := by omega
      clear hm hx0 hx1 hy0 hy1 hx hy hb1 hb2
      obtain ⟨u, hu⟩ := exists_at (l := c) (i := x) (by omega)
      obtain ⟨v, hv⟩ := exists_at (l := c) (i := y) (by omega)
      obtain ⟨R', hst, hR'⟩ := sets_union hR hu hv
      have hA := mApply_yes 4 R ⟨2, [(x : Int), (y : Int)]⟩ (mk4 hR.ok) (sets_ok2 (.inl rfl) hkb.2 hxk hyk)
      rw [hst] at hA
      have hO := op_ok 2 [(x : Int), (y : Int)]
      have hcu : (c.map intR)[(x : Int).toNat]? = some (intR u) := by rw [Int.toNat_natCast]; exact map_at hu
      have hcv : (c.map intR)[(y : Int).toNat]? = some (intR v) := by rw [Int.toNat_natCast]; exact map_at hv
      have hcl : (c.map intR).length = k := by rw [List.length_map, hc]
      generalize hz : (if u = v then (0 : Int) else 1) = z at hA
      have hz1 : (!decide (decide (z = 1) = !decide (u = v))) = false := by subst hz; by_cases e : u = v <;> simp [e]
      have hz2 : 0 ≤ z ∧ z ≤ 1 := by subst hz; split <;> omega
      clear hz hst hN hk1 hn hk
      repeat' first
        | refine g_go T hC true 400 rfl rfl ?_
        | refine g_bools hC rfl rfl (by kernel_rfl) rfl rfl ?_
        | (exfalso; have h2 : 1 < z := of_decide_eq_true h; omega)
        | (exfalso; have h2 : z < 0 := of_decide_eq_true h; omega)
        | (exfalso; rw [show ((okR z).n) = z from rfl, hz1] at h; exact Bool.noConfusion h)
        | (exfalso; simp [okR] at h; done)
        | (exfalso; simp at h; done)
        | refine g_cond rfl (fun h => ?_) (fun h => ?_)
        | refine g_end T hC (by kernel_rfl) ?_
        | refine g_splitD (fun h => ?_) (fun h => ?_)
        | refine g_splitG rfl rfl rfl (fun h => ?_) (fun h => ?_)
        | refine g_splitP rfl rfl (fun h => ?_) (fun h => ?_)
        | refine g_idx T hC rfl rfl rfl (Int.natCast_nonneg _) (map_at hp) rfl rfl ?_
        | refine g_idxArr (len := 2) (el := 5) hC rfl rfl (by kernel_rfl) (by kernel_rfl) (by decide) (by decide) rfl rfl ?_
        | (refine g_rem hC rfl rfl (by omega) rfl rfl ?_)
        | (rw [hm1, hm2]; refine g_lit T hC rfl rfl rfl rfl rfl rfl rfl rfl rfl ?_)
        | refine g_call hC (hO) rfl rfl (LeSs.refl _) rfl rfl rfl ?_
        | refine g_call hC (hA) rfl rfl (LeSs.refl _) rfl rfl rfl ?_
        | refine g_idxA T hC (rows := c.map intR) rfl rfl rfl rfl (Int.natCast_nonneg _) (by rw [hcl]; omega) rfl rfl ?_
        | refine g_loadE T hC x 0 (rows := c.map intR) (row := intR u) rfl rfl rfl rfl (map_at hu) rfl rfl rfl ?_
        | refine g_loadE T hC y 0 (rows := c.map intR) (row := intR v) rfl rfl rfl rfl (map_at hv) rfl rfl rfl ?_
      refine g_loop (fun j : Nat => j ≤ k) (fun j => ([(5, I k), (6, .one (.bx 1006 0)), (8, .one (.ar 1051)), (15, I x), (20, I j), (21, I v), (78, pS (.sl 2 (l.map pairR))), (79, I l.length), (80, I i)], [(1006, some (.box [.p (ki 4), .p (rowsP R')])), (1051, some (.arr 1 ((joinT u v c j).map intR)))])) (fun j => k - j) hC
        0 (Nat.zero_le _) id ⟨rfl, ⟨rfl, rfl, rfl, rfl, rfl, rfl, rfl, rfl, rfl, trivial⟩, ⟨rfl, by rw [joinT_zero]; rfl, trivial⟩, rfl, fun _ _ => rfl⟩ ?_
      clear h
      intro j hj
      refine g_run' T hC true 200 rfl ?_
      refine g_cond rfl (fun h => ?_) (fun h => ?_)
      · have hltj : j < k := by have := of_decide_eq_true h; omega
        clear h
        obtain ⟨w, hw⟩ := exists_at (l := c) (i := j) (by omega)
        have hjl : ((joinT u v c j).map intR).length = k := by rw [List.length_map, joinT_len, hc]
        have hwr : ((joinT u v c j).map intR)[j]? = some (intR w) := map_at (joinT_at hw)
        have hur : ((joinT u v c j).map intR)[x]? = some (intR u) := map_at (joinT_u hu)
        by_cases hwv : w = v
        · subst hwv
          have hst : ((joinT u w c j).map intR).set j (setAt (intR w) 0 [.k (.int .i64 u)]) = (joinT u w c (j + 1)).map intR := by
            rw [joinT_step hw, if_pos rfl, ← map_set']; rfl
          repeat' first
            | refine g_go T hC true 400 rfl rfl ?_
            | (exfalso; simp at h; done)
            | refine g_cond rfl (fun h => ?_) (fun h => ?_)
            | refine g_end T hC (by kernel_rfl) ?_
            | refine g_splitD (fun h => ?_) (fun h => ?_)
            | refine g_splitG rfl rfl rfl (fun h => ?_) (fun h => ?_)
            | refine g_splitP rfl rfl (fun h => ?_) (fun h => ?_)
            | refine g_idxA T hC (rows := (joinT u w c j).map intR) rfl rfl rfl rfl (Int.natCast_nonneg _) (by rw [hjl]; omega) rfl rfl ?_
            | refine g_loadE T hC j 0 (rows := (joinT u w c j).map intR) (row := intR w) rfl rfl rfl rfl hwr rfl rfl rfl ?_
            | refine g_loadE T hC x 0 (rows := (joinT u w c j).map intR) (row := intR u) rfl rfl rfl rfl hur rfl rfl rfl ?_
            | refine g_storeE T hC j 0 (rows := (joinT u w c j).map intR) (row := intR w) (us := [.k (.int .i64 u)]) (rows' := (joinT u w c (j + 1)).map intR) rfl rfl rfl rfl rfl rfl rfl hwr (Nat.le_refl 1) hst rfl ?_
          rw [wrapS (by omega)]
          exact g_round (j + 1) (by omega) id (by omega) ⟨rfl, ⟨rfl, rfl, rfl, rfl, rfl, rfl, rfl, rfl, rfl, trivial⟩, ⟨rfl, rfl, trivial⟩, rfl, fun _ _ => rfl⟩
        · repeat' first
            | refine g_go T hC true 400 rfl rfl ?_
            | (exact absurd (of_decide_eq_true h) hwv)
            | refine g_cond rfl (fun h => ?_) (fun h => ?_)
            | refine g_end T hC (by kernel_rfl) ?_
            | refine g_splitD (fun h => ?_) (fun h => ?_)
            | refine g_splitG rfl rfl rfl (fun h => ?_) (fun h => ?_)
            | refine g_splitP rfl rfl (fun h => ?_) (fun h => ?_)
            | refine g_idxA T hC (rows := (joinT u v c j).map intR) rfl rfl rfl rfl (Int.natCast_nonneg _) (by rw [hjl]; omega) rfl rfl ?_
            | refine g_loadE T hC j 0 (rows := (joinT u v c j).map intR) (row := intR w) rfl rfl rfl rfl hwr rfl rfl rfl ?_
          rw [wrapS (by omega), ← joinT_keep hw hwv]
          exact g_round (j + 1) (by omega) id (by omega) ⟨rfl, ⟨rfl, rfl, rfl, rfl, rfl, rfl, rfl, rfl, rfl, trivial⟩, ⟨rfl, rfl, trivial⟩, rfl, fun _ _ => rfl⟩
      · have hge : k = j := by have := of_decide_eq_false h; omega
        subst hge
        rw [joinT_full u v c (by omega)]
        repeat' first
          | refine g_go T hC true 400 rfl rfl ?_
          | refine g_cond rfl (fun h => ?_) (fun h => ?_)
          | refine g_end T hC (by kernel_rfl) ?_
          | refine g_splitD (fun h => ?_) (fun h => ?_)
          | refine g_splitG rfl rfl rfl (fun h => ?_) (fun h => ?_)
          | refine g_splitP rfl rfl (fun h => ?_) (fun h => ?_)
          | refine g_outE ?_
        rw [wrapS (by omega)]
        exact g_round (i + 1, R', joinC u v c) ⟨by simp only; omega, hR', by simp [joinC, hc]⟩ id (by simp only; omega) ⟨rfl, ⟨rfl, rfl, rfl, rfl, rfl, rfl, trivial⟩, ⟨rfl, rfl, trivial⟩, rfl, fun _ _ => rfl⟩
    · have hge : i = l.length := by have := of_decide_eq_false h; omega
      subst hge
      clear h hi
      have hval := mk4 hR.ok
      refine g_freeze rfl (id := 1051) (e := 1) (rows := c.map intR) rfl [(8, pS (intsP c))] ⟨⟨_, rfl, FrS.ar⟩, trivial⟩ [] trivial ?_
      repeat' first
        | refine g_go T hC true 400 rfl rfl ?_
        | refine g_cond rfl (fun h => ?_) (fun h => ?_)
        | refine g_end T hC (by kernel_rfl) ?_
        | refine g_splitD (fun h => ?_) (fun h => ?_)
        | refine g_splitG rfl rfl rfl (fun h => ?_) (fun h => ?_)
        | refine g_splitP rfl rfl (fun h => ?_) (fun h => ?_)
        | refine g_outE ?_
      refine g_loop (fun a : Nat => a ≤ k) (fun a => ([(5, I k), (6, .one (.bx 1006 0)), (8, pS (intsP c)), (22, I (firstC c a)), (160, I k), (161, I a)], [(1006, some (.box [.p (ki 4), .p (rowsP R)]))])) (fun a => k - a) hC
        0 (Nat.zero_le _) id ⟨rfl, ⟨rfl, rfl, rfl, rfl, rfl, rfl, trivial⟩, ⟨rfl, trivial⟩, rfl, fun _ _ => rfl⟩ ?_
      intro a ha
      refine g_run' T hC true 200 rfl ?_
      refine g_cond rfl (fun h => ?_) (fun h => ?_)
      · have hlta : a < k := by have := of_decide_eq_true h; omega
        clear h
        obtain ⟨u, hu⟩ := exists_at (l := c) (i := a) (by omega)
        repeat' first
          | refine g_go T hC true 400 rfl rfl ?_
          | refine g_cond rfl (fun h => ?_) (fun h => ?_)
          | refine g_end T hC (by kernel_rfl) ?_
          | refine g_splitD (fun h => ?_) (fun h => ?_)
          | refine g_splitG rfl rfl rfl (fun h => ?_) (fun h => ?_)
          | refine g_splitP rfl rfl (fun h => ?_) (fun h => ?_)
        refine g_loop (fun b : Nat => b ≤ k) (fun b => ([(5, I k), (6, .one (.bx 1006 0)), (8, pS (intsP c)), (22, I (firstC c a)), (23, I a), (24, I (sizeC (c.take b) u)), (160, I k), (161, I a), (164, I k), (165, I b)], [(1006, some (.box [.p (ki 4), .p (rowsP R)]))])) (fun b => k - b) hC
          0 (Nat.zero_le _) id ⟨rfl, ⟨rfl, rfl, rfl, rfl, rfl, rfl, rfl, rfl, rfl, rfl, trivial⟩, ⟨rfl, trivial⟩, rfl, fun _ _ => rfl⟩ ?_
        intro b hb
        refine g_run' T hC true 200 rfl ?_
        refine g_cond rfl (fun h => ?_) (fun h => ?_)
        · have hltb : b < k := by have := of_decide_eq_true h; omega
          clear h
          obtain ⟨v, hv⟩ := exists_at (l := c) (i := b) (by omega)
          have hA := ask_ok 4 R 3 [(a : Int), (b : Int)] _ hval (sets_ok2 (.inr rfl) hkb.2 hlta hltb) (sets_same hR hu hv)
          have hsz := sizeC_next (u := u) hv
          have hsl := sizeC_le (c.take b) u
          rw [List.length_take] at hsl
          have hz1 : (!decide (decide ((if u = v then (1 : Int) else 0) = 1) = decide (u = v))) = false := by by_cases e : u = v <;> simp [e]
          generalize (if u = v then (1 : Int) else 0) = z at hA hz1
          have hcu : (c.map intR)[(a : Int).toNat]? = some (intR u) := by rw [Int.toNat_natCast]; exact map_at hu
          have hcv : (c.map intR)[(b : Int).toNat]? = some (intR v) := by rw [Int.toNat_natCast]; exact map_at hv
          by_cases huv : u = v
          · subst huv
            rw [if_pos rfl] at hsz
            repeat' first
              | refine g_go T hC true 400 rfl rfl ?_
              | refine g_boolsE hC rfl rfl (by kernel_rfl) rfl rfl ?_
              | refine g_bools hC rfl rfl (by kernel_rfl) rfl rfl ?_
              | (exfalso; rw [show ((okR z).n) = z from rfl, hz1] at h; exact Bool.noConfusion h)
              | (exfalso; simp [okR] at h; done)
              | (exfalso; simp at h; done)
              | refine g_cond rfl (fun h => ?_) (fun h => ?_)
              | refine g_end T hC (by kernel_rfl) ?_
              | refine g_splitD (fun h => ?_) (fun h => ?_)
              | refine g_splitG rfl rfl rfl (fun h => ?_) (fun h => ?_)
              | refine g_splitP rfl rfl (fun h => ?_) (fun h => ?_)
              | refine g_lit T hC rfl rfl rfl rfl rfl rfl rfl rfl rfl ?_
              | refine g_call hC (hA) rfl rfl (LeSs.refl _) rfl rfl rfl ?_
              | refine g_idx T hC (rows := c.map intR) (i := (a : Int)) rfl rfl rfl (Int.natCast_nonneg _) hcu rfl rfl ?_
              | refine g_idx T hC (rows := c.map intR) (i := (b : Int)) rfl rfl rfl (Int.natCast_nonneg _) hcv rfl rfl ?_
            rw [wrapS (by omega), wrapS (by omega), ← hsz]
            exact g_round (b + 1) (by omega) id (by omega) ⟨rfl, ⟨rfl, rfl, rfl, rfl, rfl, rfl, rfl, rfl, rfl, rfl, trivial⟩, ⟨rfl, trivial⟩, rfl, fun _ _ => rfl⟩
          · have hsz : sizeC (c.take (b + 1)) u = sizeC (c.take b) u := by rw [hsz, if_neg fun e => huv e.symm]; rfl
            repeat' first
              | refine g_go T hC true 400 rfl rfl ?_
              | refine g_boolsE hC rfl rfl (by kernel_rfl) rfl rfl ?_
              | refine g_bools hC rfl rfl (by kernel_rfl) rfl rfl ?_
              | (exfalso; rw [show ((okR z).n) = z from rfl, hz1] at h; exact Bool.noConfusion h)
              | (exfalso; simp [okR] at h; done)
              | (exfalso; simp at h; done)
              | (exact absurd (of_decide_eq_true h) huv)
              | refine g_cond rfl (fun h => ?_) (fun h => ?_)
              | refine g_end T hC (by kernel_rfl) ?_
              | refine g_splitD (fun h => ?_) (fun h => ?_)
              | refine g_splitG rfl rfl rfl (fun h => ?_) (fun h => ?_)
              | refine g_splitP rfl rfl (fun h => ?_) (fun h => ?_)
              | refine g_lit T hC rfl rfl rfl rfl rfl rfl rfl rfl rfl ?_
              | refine g_call hC (hA) rfl rfl (LeSs.refl _) rfl rfl rfl ?_
              | refine g_idx T hC (rows := c.map intR) (i := (a : Int)) rfl rfl rfl (Int.natCast_nonneg _) hcu rfl rfl ?_
              | refine g_idx T hC (rows := c.map intR) (i := (b : Int)) rfl rfl rfl (Int.natCast_nonneg _) hcv rfl rfl ?_
            rw [wrapS (by omega), ← hsz]
            exact g_round (b + 1) (by omega) id (by omega) ⟨rfl, ⟨rfl, rfl, rfl, rfl, rfl, rfl, rfl, rfl, rfl, rfl, trivial⟩, ⟨rfl, trivial⟩, rfl, fun _ _ => rfl⟩
        · have hge : k = b := by have := of_decide_eq_false h; omega
          subst hge
          clear h
          rw [List.take_of_length_le (by omega)]
          have hA := ask_ok 4 R 4 [(a : Int)] _ hval (sets_ok1 hkb.2 hlta) (sets_size hR hu)
          have hQ := sameRes_ok (okR (sizeC c u : Int)) (okR (sizeC c u : Int))
          rw [decide_eq_true (rfl : okR (sizeC c u : Int) = okR (sizeC c u : Int))] at hQ
          have hI := index_ok c u
          have hf := firstC_succ c a
          have hfl := firstC_le c a
          rw [hu] at hf
          have hcu : (c.map intR)[(a : Int).toNat]? = some (intR u) := by rw [Int.toNat_natCast]; exact map_at hu
          by_cases hp : posI u c 0 = (a : Int)
          · rw [show (some u).getD 0 = u from rfl, if_pos hp] at hf
            repeat' first
              | refine g_go T hC true 400 rfl rfl ?_
              | (exfalso; simp at h; done)
              | (exact absurd hp (of_decide_eq_false h))
              | refine g_cond rfl (fun h => ?_) (fun h => ?_)
              | refine g_end T hC (by kernel_rfl) ?_
              | refine g_splitD (fun h => ?_) (fun h => ?_)
              | refine g_splitG rfl rfl rfl (fun h => ?_) (fun h => ?_)
              | refine g_splitP rfl rfl (fun h => ?_) (fun h => ?_)
              | refine g_outE ?_
              | refine g_lit T hC rfl rfl rfl rfl rfl rfl rfl rfl rfl ?_
              | refine g_call hC (hA) rfl rfl (LeSs.refl _) rfl rfl rfl ?_
              | refine g_call hC (hQ) rfl rfl (LeSs.refl _) rfl rfl rfl ?_
              | refine g_call hC (hI) rfl rfl (LeSs.refl _) rfl rfl rfl ?_
              | refine g_idx T hC (rows := c.map intR) (i := (a : Int)) rfl rfl rfl (Int.natCast_nonneg _) hcu rfl rfl ?_
            rw [wrapS (by omega), wrapS (by omega), ← hf]
            exact g_round (a + 1) (by omega) id (by omega) ⟨rfl, ⟨rfl, rfl, rfl, rfl, rfl, rfl, trivial⟩, ⟨rfl, trivial⟩, rfl, fun _ _ => rfl⟩
          · have hf : firstC c (a + 1) = firstC c a := by rw [hf, show (some u).getD 0 = u from rfl, if_neg hp]; rfl
            repeat' first
              | refine g_go T hC true 400 rfl rfl ?_
              | (exfalso; simp at h; done)
              | (exact absurd (of_decide_eq_true h) hp)
              | refine g_cond rfl (fun h => ?_) (fun h => ?_)
              | refine g_end T hC (by kernel_rfl) ?_
              | refine g_splitD (fun h => ?_) (fun h => ?_)
              | refine g_splitG rfl rfl rfl (fun h => ?_) (fun h => ?_)
              | refine g_splitP rfl rfl (fun h => ?_) (fun h => ?_)
              | refine g_outE ?_
              | refine g_lit T hC rfl rfl rfl rfl rfl rfl rfl rfl rfl ?_
              | refine g_call hC (hA) rfl rfl (LeSs.refl _) rfl rfl rfl ?_
              | refine g_call hC (hQ) rfl rfl (LeSs.refl _) rfl rfl rfl ?_
              | refine g_call hC (hI) rfl rfl (LeSs.refl _) rfl rfl rfl ?_
              | refine g_idx T hC (rows := c.map intR) (i := (a : Int)) rfl rfl rfl (Int.natCast_nonneg _) hcu rfl rfl ?_
            rw [wrapS (by omega), ← hf]
            exact g_round (a + 1) (by omega) id (by omega) ⟨rfl, ⟨rfl, rfl, rfl, rfl, rfl, rfl, trivial⟩, ⟨rfl, trivial⟩, rfl, fun _ _ => rfl⟩
      · have hge : k = a := by have := of_decide_eq_false h; omega
        subst hge
        clear h
        have hA := ask_ok 4 R 5 [] _ hval (by decide) (sets_count hR)
        rw [hc] at hA
        have hQ := sameRes_ok (okR (firstC c k : Int)) (okR (firstC c k : Int))
        rw [decide_eq_true (rfl : okR (firstC c k : Int) = okR (firstC c k : Int))] at hQ
        repeat' first
          | refine g_go T hC true 400 rfl rfl ?_
          | (exfalso; simp at h; done)
          | refine g_cond rfl (fun h => ?_) (fun h => ?_)
          | refine g_end T hC (by kernel_rfl) ?_
          | refine g_splitD (fun h => ?_) (fun h => ?_)
          | refine g_splitG rfl rfl rfl (fun h => ?_) (fun h => ?_)
          | refine g_splitP rfl rfl (fun h => ?_) (fun h => ?_)
          | refine g_outE ?_
          | (refine g_call hC hA rfl rfl (LeSs.cons (.refl _) (LeSs.cons (.refl _) (LeSs.cons (LeS.one (.nil 1)) .nil))) rfl rfl rfl ?_)
          | refine g_call hC (hQ) rfl rfl (LeSs.refl _) rfl rfl rfl ?_
        all_goals exact g_fin ⟨.inl rfl, id, _, rfl, by first | exact .refl _ | exact LeS.qb rfl | exact LeS.qq rfl, trivial, rfl, rfl⟩
theorem modelSets_row (n : U8) (l : List (U8 × U8)) : FnOK Try.prog 6 [.one (.p (.k (.int .u8 n.1))), pS (.sl 2 (l.map pairR))] [] (.bq true) [] := modelSets_ok n.1 n.2 l
end Hw.Mo
