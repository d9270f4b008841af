/- The engine and the contracts. -/
import Derived.Test.YtnijeifpjjeccaaC14
set_option linter.unusedVariables false
set_option linter.unusedSimpArgs false
namespace Hw.Mo
open Go Go.Proofs Go.Shelf Hw.M

/-! models: classes, plain -/
def samR (R : Rws) (x y : Int) : Prop := ∃ r ∈ R, x ∈ r ∧ y ∈ r
theorem cls_at {R : Rws} (h : SetsOk R) {i : Nat} {r : Rw} {x : Int} (hi : R[i]? = some r) (hx : x ∈ r) : clsI x R 0 = i := by
  rcases clsI_spec x R 0 with ⟨_, h2⟩ | ⟨j, s, h1, h2, h3, _⟩
  · exact absurd hx (h2 r (List.mem_of_getElem? hi))
  · rw [h1, Nat.zero_add]
    by_cases e : j = i
    · rw [e]
    · rcases Nat.lt_or_ge j i with h4 | h4
      · exact absurd hx (h.dis h2 hi h4 x h3)
      · exact absurd h3 (h.dis hi h2 (by omega) x hx)
/-- R has the classes that the numbers c tell. -/
structure Rep (R : Rws) (c : List Int) : Prop where
  ok : SetsOk R
  len : R.flatten.length = c.length
  sam : ∀ (x y : Nat) (u v : Int), c[x]? = some u → c[y]? = some v → (samR R x y ↔ u = v)
theorem Rep.row {R : Rws} {c : List Int} (h : Rep R c) {x : Nat} {u : Int} (hx : c[x]? = some u) : ∃ (i : Nat) (r : Rw), R[i]? = some r ∧ (x : Int) ∈ r ∧ clsI x R 0 = i := by
  obtain ⟨r, hr, h1, _⟩ := (h.sam x x u u hx hx).2 rfl
  obtain ⟨i, hi⟩ := List.mem_iff_getElem?.1 hr
  exact ⟨i, r, hi, h1, cls_at h.ok hi h1⟩
theorem Rep.cls {R : Rws} {c : List Int} (h : Rep R c) {x y : Nat} {u v : Int} (hx : c[x]? = some u) (hy : c[y]? = some v) : clsI x R 0 = clsI y R 0 ↔ u = v := by
  obtain ⟨i, r, h1, h2, h3⟩ := h.row hx
  obtain ⟨j, s, h4, h5, h6⟩ := h.row hy
  rw [← h.sam x y u v hx hy, h3, h6]
  constructor
  · intro e
    have e : i = j := by omega
    subst e
    rw [h1] at h4; cases h4
    exact ⟨r, List.mem_of_getElem? h1, h2, h5⟩
  · rintro ⟨t, ht, h7, h8⟩
    obtain ⟨m, hm⟩ := List.mem_iff_getElem?.1 ht
    have := cls_at h.ok hm h7
    have := cls_at h.ok hm h8
    omega
theorem Rep.mem {R : Rws} {c : List Int} (h : Rep R c) {x y : Nat} {u v : Int} {i : Nat} {r : Rw} (hx : c[x]? = some u) (hy : c[y]? = some v) (hi : R[i]? = some r) (hr : (x : Int) ∈ r) : (y : Int) ∈ r ↔ v = u := by
  rw [← h.sam y x v u hy hx]
  constructor
  · intro hq; exact ⟨r, List.mem_of_getElem? hi, hq, hr⟩
  · rintro ⟨s, hs, h1, h2⟩
    obtain ⟨j, hj⟩ := List.mem_iff_getElem?.1 hs
    have e1 := cls_at h.ok hj h2
    have e2 := cls_at h.ok hi hr
    have e : j = i := by omega
    subst e
    rw [hi] at hj; cases hj
    exact h1
def rowsN (n : Nat) : Rws := (List.range n).map fun i : Nat => [(i : Int)]
theorem rowsN_succ (n : Nat) : rowsN (n + 1) = rowsN n ++ [[(n : Int)]] := by
  unfold rowsN; rw [List.range_succ, List.map_append]; rfl
theorem rowsN_flat : ∀ n : Nat, (rowsN n).flatten.length = n
  | 0 => rfl
  | n + 1 => by rw [rowsN_succ, List.flatten_append, List.length_append, rowsN_flat n]; rfl
theorem rowsN_len (n : Nat) : (rowsN n).length = n := by unfold rowsN; rw [List.length_map, List.length_range]
theorem step4 (R : Rws) (o : OpT) : stepS 4 R o = setsS R o := rfl
theorem sets_make {n : Nat} (h : n < 500) : stepS 4 (rowsN n) ⟨1, []⟩ = (rowsN (n + 1), okR n) := by
  rw [step4]
  unfold setsS
  rw [if_neg (by decide), if_pos rfl, rowsN_flat, if_neg (by omega), rowsN_succ]
theorem rowsN_valid : ∀ n : Nat, n ≤ 500 → validS 4 (rowsN n) = true
  | 0, _ => by decide
  | n + 1, h => by
    have := step_valid (k := 4) (o := ⟨1, []⟩) (rowsN_valid n (by omega)) (by decide)
    rw [sets_make (by omega)] at this
    exact this
theorem rowsN_at {n i : Nat} (h : i < n) : (rowsN n)[i]? = some [(i : Int)] := by
  unfold rowsN; rw [List.getElem?_map, List.getElem?_range h]; rfl
theorem rowsN_rep {n : Nat} (h : n ≤ 500) : Rep (rowsN n) (rangeI n) := by
  have hrl : (rangeI n).length = n := by simp [rangeI]
  have hat : ∀ (x : Nat) (u : Int), (rangeI n)[x]? = some u → x < n ∧ u = x := fun x u hx => by
    unfold rangeI at hx
    rw [List.getElem?_map] at hx
    rcases Nat.lt_or_ge x n with hlt | hge
    · rw [List.getElem?_range hlt] at hx
      simp only [Option.map_some, Option.some.injEq] at hx
      exact ⟨hlt, hx.symm⟩
    · rw [List.getElem?_eq_none (by simpa using hge)] at hx
      cases hx
  refine ⟨(valid4 (rowsN_valid n h)).2, by rw [rowsN_flat, hrl], fun x y u v hx hy => ?_⟩
  obtain ⟨h1, rfl⟩ := hat x u hx
  obtain ⟨h2, rfl⟩ := hat y v hy
  constructor
  · rintro ⟨r, hr, h3, h4⟩
    obtain ⟨j, _, rfl⟩ := List.mem_map.1 hr
    have := List.mem_singleton.1 h3
    have := List.mem_singleton.1 h4
    omega
  · intro e
    exact ⟨[(x : Int)], List.mem_of_getElem? (rowsN_at h1), by simp, by simp; omega⟩
/-- Classes u and v become one. -/
def joinC (u v : Int) (c : List Int) : List Int := c.map fun w => if w = v then u else w
theorem joinC_at {u v : Int} {c : List Int} {x : Nat} {w : Int} (h : c[x]? = some w) : (joinC u v c)[x]? = some (if w = v then u else w) := by
  unfold joinC; rw [List.getElem?_map, h]; rfl
theorem joinC_inv {u v : Int} {c : List Int} {x : Nat} {z : Int} (h : (joinC u v c)[x]? = some z) : ∃ w, c[x]? = some w ∧ z = if w = v then u else w := by
  unfold joinC at h
  rw [List.getElem?_map] at h
  cases hc : c[x]? with
  | none => rw [hc] at h; cases h
  | some w =>
    rw [hc] at h
    simp only [Option.map_some, Option.some.injEq] at h
    exact ⟨w, rfl, h.symm⟩
theorem joinC_same {u : Int} {c : List Int} : joinC u u c = c := by
  unfold joinC
  conv => rhs; rw [← List.map_id c]
  refine List.map_congr_left fun w _ => ?_
  simp only [id]
  split
  · omega
  · rfl
theorem Rep.union {R : Rws} {c : List Int} (h : Rep R c) {x y : Nat} {u v : Int} (hx : c[x]? = some u) (hy : c[y]? = some v) {a b : Nat} {A B : Rw} (ha : R[a]? = some A) (hb : R[b]? = some B) (hab : a < b)
    (hm : ((x : Int) ∈ A ∧ (y : Int) ∈ B) ∨ ((x : Int) ∈ B ∧ (y : Int) ∈ A)) : Rep ((R.set a (mergeI A B)).eraseIdx b) (joinC u v c) := by
  obtain ⟨Pr, Qr, Sr, e1, e2⟩ := two_split ha hb hab
  have hmp := mergeI_perm _ A B (Nat.le_refl _)
  have hfl := flat_two Pr Qr Sr A B _ hmp
  rw [← e1, ← e2] at hfl
  refine ⟨h.ok.union ha hb hab, by rw [hfl.length_eq, h.len]; simp [joinC], fun p q z w hp hq => ?_⟩
  obtain ⟨p1, hp1, rfl⟩ := joinC_inv hp
  obtain ⟨q1, hq1, rfl⟩ := joinC_inv hq
  have hAB : ∀ (t : Nat) (t1 : Int), c[t]? = some t1 → ((t : Int) ∈ mergeI A B ↔ t1 = u ∨ t1 = v) := fun t t1 ht => by
    rw [hmp.mem_iff, List.mem_append]
    rcases hm with ⟨h1, h2⟩ | ⟨h1, h2⟩
    · rw [h.mem hx ht ha h1, h.mem hy ht hb h2]
    · rw [h.mem hx ht hb h1, h.mem hy ht ha h2]
      exact Or.comm
  have hs := h.sam p q p1 q1 hp1 hq1
  have hmem : ∀ r, r ∈ (R.set a (mergeI A B)).eraseIdx b ↔ r = mergeI A B ∨ r ∈ Pr ∨ r ∈ Qr ∨ r ∈ Sr := fun r => by
    rw [e2]
    simp only [List.mem_append, List.mem_cons]
    constructor
    · rintro (h | h | h | h) <;> simp [h]
    · rintro (h | h | h | h) <;> simp [h]
  have hmem0 : ∀ r, r ∈ R ↔ r = A ∨ r = B ∨ r ∈ Pr ∨ r ∈ Qr ∨ r ∈ Sr := fun r => by
    rw [e1]
    simp only [List.mem_append, List.mem_cons]
    constructor
    · rintro (h | h | h | h | h) <;> simp [h]
    · rintro (h | h | h | h | h) <;> simp [h]
  have key : samR ((R.set a (mergeI A B)).eraseIdx b) p q ↔ p1 = q1 ∨ ((p1 = u ∨ p1 = v) ∧ (q1 = u ∨ q1 = v)) := by
    rw [← hs, ← hAB p p1 hp1, ← hAB q q1 hq1]
    constructor
    · rintro ⟨r, hr, h1, h2⟩
      rcases (hmem r).1 hr with rfl | hr
      · exact .inr ⟨h1, h2⟩
      · exact .inl ⟨r, (hmem0 r).2 (.inr (.inr hr)), h1, h2⟩
    · rintro (⟨r, hr, h1, h2⟩ | ⟨h1, h2⟩)
      · rcases (hmem0 r).1 hr with rfl | rfl | hr
        · exact ⟨_, (hmem _).2 (.inl rfl), hmp.mem_iff.2 (List.mem_append_left _ h1), hmp.mem_iff.2 (List.mem_append_left _ h2)⟩
        · exact ⟨_, (hmem _).2 (.inl rfl), hmp.mem_iff.2 (List.mem_append_right _ h1), hmp.mem_iff.2 (List.mem_append_right _ h2)⟩
        · exact ⟨r, (hmem r).2 (.inr hr), h1, h2⟩
      · exact ⟨_, (hmem _).2 (.inl rfl), h1, h2⟩
  rw [key]
  split <;> split <;> constructor <;> intro _ <;> omega
/-- What uniting answers, and what it leaves. -/
theorem sets_union {R : Rws} {c : List Int} (h : Rep R c) {x y : Nat} {u v : Int} (hx : c[x]? = some u) (hy : c[y]? = some v) :
    ∃ R', stepS 4 R ⟨2, [(x : Int), (y : Int)]⟩ = (R', okR (if u = v then 0 else 1)) ∧ Rep R' (joinC u v c) := by
  obtain ⟨i, A, h1, h2, h3⟩ := h.row hx
  obtain ⟨j, B, h4, h5, h6⟩ := h.row hy
  have hc := h.cls hx hy
  rw [h3, h6] at hc
  rw [step4]
  unfold setsS
  rw [if_neg (show ¬ (_ : Int) = 5 by simp), if_neg (show ¬ (_ : Int) = 1 by simp)]
  simp only [show at0 [(x : Int), (y : Int)] 0 = x from rfl, show at0 [(x : Int), (y : Int)] 1 = y from rfl, h3, h6]
  rw [if_neg (by decide), if_neg (by omega), if_neg (by decide)]
  by_cases huv : u = v
  · rw [if_pos (hc.2 huv), if_pos huv]
    exact ⟨R, rfl, by rw [huv, joinC_same]; exact h⟩
  · have hij : ¬ (i : Int) = j := fun e => huv (hc.1 e)
    rw [if_neg hij, if_neg huv]
    refine ⟨_, rfl, ?_⟩
    rw [Int.toNat_natCast, Int.toNat_natCast, rowA_of h1, rowA_of h4]
    rcases Nat.lt_or_ge i j with hlt | hge
    · rw [Int.min_eq_left (by omega), Int.max_eq_right (by omega), Int.toNat_natCast, Int.toNat_natCast]
      exact h.union hx hy h1 h4 hlt (.inl ⟨h2, h5⟩)
    · rw [Int.min_eq_right (by omega), Int.max_eq_left (by omega), Int.toNat_natCast, Int.toNat_natCast, mergeI_comm (h.ok.asc _ (List.mem_of_getElem? h1)) (h.ok.asc _ (List.mem_of_getElem? h4)) fun w hw hy => h.ok.dis h4 h1 (by omega) w hy hw]
      exact h.union hx hy h4 h1 (by omega) (.inr ⟨h2, h5⟩)
theorem sets_same {R : Rws} {c : List Int} (h : Rep R c) {x y : Nat} {u v : Int} (hx : c[x]? = some u) (hy : c[y]? = some v) : stepS 4 R ⟨3, [(x : Int), (y : Int)]⟩ = (R, okR (if u = v then 1 else 0)) := by
  obtain ⟨i, A, h1, h2, h3⟩ := h.row hx
  obtain ⟨j, B, h4, h5, h6⟩ := h.row hy
  have hc := h.cls hx hy
  rw [step4]
  unfold setsS
  rw [if_neg (show ¬ (_ : Int) = 5 by simp), if_neg (show ¬ (_ : Int) = 1 by simp)]
  simp only [show at0 [(x : Int), (y : Int)] 0 = x from rfl, show at0 [(x : Int), (y : Int)] 1 = y from rfl]
  rw [if_neg (by decide), if_neg (by omega), if_pos trivial]
  by_cases huv : u = v
  · rw [if_pos (hc.2 huv), if_pos huv]
  · rw [if_neg fun e => huv (hc.1 e), if_neg huv]
def sizeC (c : List Int) (u : Int) : Nat := (c.filter fun v => decide (v = u)).length
theorem filter_range (p : Int → Bool) : ∀ (c : List Int), (c.filter p).length = ((List.range c.length).filter fun i => p ((c[i]?).getD 0)).length := by
  intro c
  have e : c = (List.range c.length).map fun i => (c[i]?).getD 0 := by
    apply List.ext_getElem?
    intro i
    rw [List.getElem?_map]
    rcases Nat.lt_or_ge i c.length with h | h
    · rw [List.getElem?_range h, Option.map_some, List.getElem?_eq_getElem h]; rfl
    · rw [List.getElem?_eq_none h, List.getElem?_eq_none (by simpa using h)]; rfl
  conv => lhs; rw [e, List.filter_map, List.length_map]
  rfl
theorem sets_size {R : Rws} {c : List Int} (h : Rep R c) {x : Nat} {u : Int} (hx : c[x]? = some u) : stepS 4 R ⟨4, [(x : Int)]⟩ = (R, okR (sizeC c u)) := by
  obtain ⟨i, A, h1, h2, h3⟩ := h.row hx
  rw [step4]
  unfold setsS
  rw [if_neg (show ¬ (_ : Int) = 5 by simp), if_neg (show ¬ (_ : Int) = 1 by simp)]
  simp only [show at0 [(x : Int)] 0 = x from rfl, h3]
  rw [if_pos trivial, if_neg (by omega), Int.toNat_natCast, rowA_of h1]
  have hlen : A.length = sizeC c u := by
    unfold sizeC
    rw [filter_range]
    rw [← List.length_map (f := fun i : Nat => (i : Int))]
    refine List.Perm.length_eq ((List.perm_ext_iff_of_nodup ?_ ?_).2 fun z => ?_)
    · exact ((h.ok.asc _ (List.mem_of_getElem? h1)).imp fun h => by omega)
    · rw [List.nodup_iff_pairwise_ne, List.pairwise_map]
      exact (List.pairwise_lt_range.filter _).imp fun h => by omega
    · rw [List.mem_map]
      constructor
      · intro hz
        have hr := h.ok.rng z (List.mem_flatten.2 ⟨A, List.mem_of_getElem? h1, hz⟩)
        rw [h.len] at hr
        have hzl : z.toNat < c.length := by omega
        have hzc := List.getElem?_eq_getElem hzl
        have hz2 : ((z.toNat : Nat) : Int) = z := by omega
        have := (h.mem hx hzc h1 h2).1 (by rw [hz2]; exact hz)
        exact ⟨z.toNat, List.mem_filter.2 ⟨List.mem_range.2 hzl, by rw [hzc]; exact decide_eq_true this⟩, hz2⟩
      · rintro ⟨j, hj, rfl⟩
        obtain ⟨h4, h5⟩ := List.mem_filter.1 hj
        have hjl := List.mem_range.1 h4
        have hjc := List.getElem?_eq_getElem hjl
        rw [hjc] at h5
        exact (h.mem hx hjc h1 h2).2 (of_decide_eq_true h5)
  rw [hlen]
theorem posI_first : ∀ (l : List Int) (k i : Nat) (u : Int), l[i]? = some u → (posI u l k = ((k + i : Nat) : Int) ↔ ∀ j, j < i → l[j]? ≠ some u)
  | [], _, _, _, h => by simp at h
  | y :: l, k, 0, u, h => by
    simp only [List.getElem?_cons_zero, Option.some.injEq] at h
    subst h
    simp [posI]
  | y :: l, k, i + 1, u, h => by
    simp only [List.getElem?_cons_succ] at h
    have ih := posI_first l (k + 1) i u h
    simp only [posI]
    split
    · rename_i e
      constructor
      · intro h2; omega
      · intro h2; exact absurd (by rw [e]; rfl) (h2 0 (by omega))
    · rename_i e
      rw [show ((k + (i + 1) : Nat) : Int) = ((k + 1 + i : Nat) : Int) by omega, ih]
      constructor
      · intro h2 j hj
        cases j with
        | zero => simpa using fun h3 : y = u => e h3.symm
        | succ j => simpa using h2 j (by omega)
      · intro h2 j hj
        simpa using h2 (j + 1) (by omega)
/-- How many of the first i are the first ones of their class. -/
def firstC (c : List Int) (i : Nat) : Nat := ((List.range i).filter fun j : Nat => decide (posI ((c[j]?).getD 0) c 0 = (j : Int))).length
theorem firstC_succ (c : List Int) (i : Nat) : firstC c (i + 1) = firstC c i + (if posI ((c[i]?).getD 0) c 0 = (i : Int) then 1 else 0) := by
  unfold firstC
  rw [List.range_succ, List.filter_append, List.length_append]
  congr 1
  simp only [List.filter_cons, List.filter_nil, decide_eq_true_eq]
  split <;> rfl
theorem sets_count {R : Rws} {c : List Int} (h : Rep R c) : stepS 4 R ⟨5, []⟩ = (R, okR (firstC c c.length)) := by
  have hlen : R.length = firstC c c.length := by
    unfold firstC
    have e0 : R.length = (R.map fun r => at0 r 0).length := (List.length_map _).symm
    rw [e0, ← List.length_map (f := fun i : Nat => (i : Int))]
    refine List.Perm.length_eq ((List.perm_ext_iff_of_nodup ?_ ?_).2 fun z => ?_)
    · exact h.ok.fst.imp fun h => by omega
    · rw [List.nodup_iff_pairwise_ne, List.pairwise_map]
      exact (List.pairwise_lt_range.filter _).imp fun h => by omega
    · have hd : ∀ r ∈ R, at0 r 0 ∈ r ∧ ∀ y ∈ r, at0 r 0 ≤ y := fun r hr => by
        have hne := h.ok.ne r hr
        have ha := h.ok.asc r hr
        cases r with
        | nil => exact absurd rfl hne
        | cons w r =>
          refine ⟨List.mem_cons_self .., fun y hy => ?_⟩
          show w ≤ y
          rcases List.mem_cons.1 hy with rfl | hy
          · omega
          · have := (List.pairwise_cons.1 ha).1 y hy; omega
      rw [List.mem_map, List.mem_map]
      constructor
      · rintro ⟨r, hr, rfl⟩
        obtain ⟨h1, h2⟩ := hd r hr
        obtain ⟨i, hi⟩ := List.mem_iff_getElem?.1 hr
        have hb := h.ok.rng _ (List.mem_flatten.2 ⟨r, hr, h1⟩)
        rw [h.len] at hb
        have hzl : (at0 r 0).toNat < c.length := by omega
        have hzc := List.getElem?_eq_getElem hzl
        have hz2 : (((at0 r 0).toNat : Nat) : Int) = at0 r 0 := by omega
        refine ⟨(at0 r 0).toNat, List.mem_filter.2 ⟨List.mem_range.2 hzl, decide_eq_true ?_⟩, hz2⟩
        rw [hzc]
        have := (posI_first c 0 (at0 r 0).toNat _ hzc).2 fun (j : Nat) hj e => ?_
        · rw [Nat.zero_add] at this; exact this
        · have := (h.mem hzc e hi (by rw [hz2]; exact h1)).2 rfl
          have := h2 _ this
          omega
      · rintro ⟨j, hj, rfl⟩
        obtain ⟨h4, h5⟩ := List.mem_filter.1 hj
        have hjl := List.mem_range.1 h4
        have hjc := List.getElem?_eq_getElem hjl
        rw [hjc] at h5
        have h6 := of_decide_eq_true h5
        have h7 := (posI_first c 0 j _ hjc).1 (by rw [Nat.zero_add]; exact h6)
        obtain ⟨i, r, hi, hm, _⟩ := h.row hjc
        have hr := List.mem_of_getElem? hi
        obtain ⟨h1, h2⟩ := hd r hr
        refine ⟨r, hr, ?_⟩
        have hle := h2 _ hm
        have hb := h.ok.rng _ (List.mem_flatten.2 ⟨r, hr, h1⟩)
        rw [h.len] at hb
        have hzl : (at0 r 0).toNat < c.length := by omega
        have hzc := List.getElem?_eq_getElem hzl
        have hz2 : (((at0 r 0).toNat : Nat) : Int) = at0 r 0 := by omega
        by_cases e : at0 r 0 = (j : Int)
        · exact e
        · exfalso
          have := (h.mem hjc hzc hi hm).1 (by rw [hz2]; exact h1)
          exact h7 (at0 r 0).toNat (by omega) (by rw [hzc, this])
  rw [step4]
  unfold setsS
  rw [if_pos rfl, hlen]
end Hw.Mo
