/- The engine and the contracts. -/
import Derived.Test.YtmnhegkogibipaaGreatDoorC11
import Derived.Test.YtmnhegkogibipaaGreatDoorC13
import Derived.Test.YtmnhegkogibipaaGreatDoorC12
set_option linter.unusedVariables false
set_option linter.unusedSimpArgs false
namespace Hw.Z
open Go Go.Proofs Hw.M

/-! Memories of the run's own: clone, place, Write -/
def wRows : List Nd → Nat → List (List PC)
  | [], _ => []
  | x :: r, j => [.p (ki x.t), .n 0 j] :: wRows r (j + 1)
theorem wRows_len : ∀ (l : List Nd) (j : Nat), (wRows l j).length = l.length
  | [], _ => rfl
  | _ :: r, j => by simp only [wRows, List.length_cons, wRows_len r]
theorem wRows_at : ∀ (l : List Nd) (j i : Nat), (wRows l j)[i]? = (l[i]?).map fun x => [PC.p (ki x.t), PC.n 0 (j + i)]
  | [], _, _ => by simp [wRows]
  | x :: r, j, 0 => by simp [wRows]
  | x :: r, j, i + 1 => by
    simp only [wRows, List.getElem?_cons_succ, wRows_at r]
    rw [show j + 1 + i = j + (i + 1) by omega]
theorem wRows_two (l : List Nd) (j : Nat) : ∀ r ∈ wRows l j, r.length = 2 := fun r hr => by
  obtain ⟨i, hi⟩ := List.mem_iff_getElem?.1 hr
  rw [wRows_at, Option.map_eq_some_iff] at hi
  obtain ⟨x, _, rfl⟩ := hi
  rfl
theorem wRows_types {l l' : List Nd} (hl : l.length = l'.length) (h : ∀ (i : Nat) x y, l[i]? = some x → l'[i]? = some y → x.t = y.t) (j : Nat) : wRows l j = wRows l' j := by
  refine List.ext_getElem? fun i => ?_
  rw [wRows_at, wRows_at]
  cases e : l[i]? with
  | none =>
    have : l'[i]? = none := by rw [List.getElem?_eq_none_iff] at e ⊢; omega
    rw [this]
  | some x =>
    have hlt := (List.getElem?_eq_some_iff.1 e).1
    obtain ⟨y, hy⟩ := exists_at (l := l') (i := i) (by omega)
    rw [hy, Option.map_some, Option.map_some, h i x y e hy]
theorem wRows_set (l : List Nd) {k : Nat} {x : Nd} (hx : l[k]? = some x) (f : List Int) : wRows (l.set k ⟨x.t, f⟩) 0 = wRows l 0 := by
  refine wRows_types (by rw [List.length_set]) (fun i y z hy hz => ?_) 0
  by_cases e : k = i
  · subst e
    rw [hx] at hz
    rw [List.getElem?_set_self (List.getElem?_eq_some_iff.1 hx).1] at hy
    rw [← Option.some.inj hy, ← Option.some.inj hz]
  · rw [List.getElem?_set_ne e, hz] at hy
    rw [Option.some.inj hy]
def zeroW : List PC := [.p (ki 0), .p (.k (.slice none 0 0))]
/-- The rows while they are laid. -/
def layW (l : List Nd) (i : Nat) : List (List PC) := wRows (l.take i) 0 ++ List.replicate (l.length - i) zeroW
theorem layW_len (l : List Nd) {i : Nat} (h : i ≤ l.length) : (layW l i).length = l.length := by simp only [layW, List.length_append, wRows_len, List.length_take, List.length_replicate]; omega
theorem layW_two (l : List Nd) (i : Nat) : ∀ r ∈ layW l i, r.length = 2 := fun r hr => by
  rcases List.mem_append.1 hr with hr | hr
  · exact wRows_two _ _ r hr
  · rw [List.eq_of_mem_replicate hr]; rfl
theorem layW_at (l : List Nd) {i j : Nat} (hi : i ≤ l.length) : (layW l i)[j]? = if j < i then (l[j]?).map (fun x => [PC.p (ki x.t), PC.n 0 j]) else if j < l.length then some zeroW else none := by
  have hl : (wRows (l.take i) 0).length = i := by rw [wRows_len, List.length_take]; omega
  unfold layW
  by_cases h : j < i
  · rw [if_pos h, List.getElem?_append_left (by omega), wRows_at, List.getElem?_take, if_pos h, Nat.zero_add]
  · rw [if_neg h, List.getElem?_append_right (by omega), hl, List.getElem?_replicate]
    by_cases h2 : j < l.length
    · rw [if_pos h2, if_pos (by omega)]
    · rw [if_neg h2, if_neg (by omega)]
theorem layW_all (l : List Nd) {i : Nat} (h : l.length ≤ i) : layW l i = wRows l 0 := by
  unfold layW
  rw [List.take_of_length_le h, show l.length - i = 0 by omega]; simp
theorem layW_zero (l : List Nd) : (List.replicate l.length zeroNd).map (·.map PC.p) = layW l 0 := by
  simp only [layW, List.take_zero, wRows, List.nil_append, Nat.sub_zero, List.map_replicate]; rfl
def bagF (l : List Nd) : List (List (List PV)) := l.map fun x => x.f.map intR
theorem bagF_at {l : List Nd} {k : Nat} {x : Nd} (h : l[k]? = some x) : (bagF l)[k]? = some (x.f.map intR) := by unfold bagF; rw [List.getElem?_map, h]; rfl
theorem lay_take {l : List Nd} {i : Nat} {x : Nd} (hx : l[i]? = some x) : RwR (TkF 150 140 151 i) (.vw [150, 140] 2 ((layW l i).set i [.p (ki x.t), .a 1])) (.vw [151] 2 (layW l (i + 1))) := by
  have hlt : i < l.length := (List.getElem?_eq_some_iff.1 hx).1
  refine RwR.vw (by rw [List.length_set, layW_len l (by omega), layW_len l (by omega)]) (layW_two _ _) (flat_rel (len_set (layW_two _ _) rfl) (layW_two _ _) fun j row' hj => ?_)
  rw [layW_at l (by omega)] at hj
  rw [List.getElem?_set]
  by_cases h1 : i = j
  · subst h1
    rw [if_pos (by omega), hx] at hj
    simp only [Option.map_some, Option.some.injEq] at hj
    subst hj
    rw [if_pos rfl, if_pos (by rw [layW_len l (by omega)]; exact hlt)]
    refine ⟨_, rfl, fun c x' hc => ?_⟩
    match c, hc with
    | 0, hc => simp only [List.getElem?_cons_zero, Option.some.injEq] at hc; subst hc; exact ⟨_, rfl, RwV.refl _⟩
    | 1, hc => simp only [List.getElem?_cons_succ, List.getElem?_cons_zero, Option.some.injEq] at hc; subst hc; exact ⟨_, rfl, TkF.ar⟩
    | c + 2, hc => simp at hc
  · rw [if_neg h1, layW_at l (by omega)]
    by_cases h2 : j < i
    · rw [if_pos (by omega)] at hj
      rw [if_pos h2]
      rw [Option.map_eq_some_iff] at hj
      obtain ⟨y, hy, rfl⟩ := hj
      rw [hy]
      refine ⟨_, rfl, fun c x' hc => ?_⟩
      match c, hc with
      | 0, hc => simp only [List.getElem?_cons_zero, Option.some.injEq] at hc; subst hc; exact ⟨_, rfl, RwV.refl _⟩
      | 1, hc => simp only [List.getElem?_cons_succ, List.getElem?_cons_zero, Option.some.injEq] at hc; subst hc; exact ⟨_, rfl, TkF.nv⟩
      | c + 2, hc => simp at hc
    · rw [if_neg (by omega)] at hj
      rw [if_neg h2, hj]
      refine ⟨_, rfl, fun c x' hc => ⟨x', hc, ?_⟩⟩
      have hz : row' = zeroW := by
        split at hj
        · exact (Option.some.inj hj).symm
        · cases hj
      subst hz
      match c, hc with
      | 0, hc => simp only [zeroW, List.getElem?_cons_zero, Option.some.injEq] at hc; subst hc; exact RwV.refl _
      | 1, hc => simp only [zeroW, List.getElem?_cons_succ, List.getElem?_cons_zero, Option.some.injEq] at hc; subst hc; exact RwV.refl _
      | c + 2, hc => simp [zeroW] at hc
theorem lay_ids {l : List Nd} {i : Nat} (h : i ≤ l.length) : ∀ x ∈ (layW l i).flatten, toV [150] x = toV [150, 140] x := fun x hx => by
  obtain ⟨r, hr, hxr⟩ := List.mem_flatten.1 hx
  obtain ⟨j, hj⟩ := List.mem_iff_getElem?.1 hr
  rw [layW_at l h] at hj
  split at hj
  · rw [Option.map_eq_some_iff] at hj
    obtain ⟨y, _, rfl⟩ := hj
    simp only [List.mem_cons, List.not_mem_nil, or_false] at hxr
    rcases hxr with rfl | rfl <;> rfl
  · split at hj
    · obtain rfl := Option.some.inj hj
      simp only [zeroW, List.mem_cons, List.not_mem_nil, or_false] at hxr
      rcases hxr with rfl | rfl <;> rfl
    · cases hj
theorem cloneO_ok (m : Hp) (hg : m.g.length ≤ 1000000) (hn : m.n.length ≤ 1000000) (hf : ∀ x ∈ m.n, x.f.length ≤ 1000000) :
    FnOK Tryz.prog 77 [aggS (memR m)] [] (.agg [.ar 0, .ar 1]) [(0, .arr 1 (m.g.map intR)), (1, .vw [2] 2 (wRows m.n 0)), (2, .bag 1 (bagF m.n))] := by
  have hC1 := clone_ok m.g hg
  refine fn_ok T Tryz.func77 (by kernel_rfl) rfl rfl rfl rfl fun C hC => ?_
  repeat' first
    | refine g_go T hC true 400 rfl rfl ?_
    | refine g_cond rfl (fun h => ?_) (fun h => ?_)
    | refine g_end T hC (by kernel_rfl) ?_
    | refine g_splitD (fun h => ?_) (fun h => ?_)
    | refine g_splitG rfl rfl rfl (fun h => ?_) (fun h => ?_)
    | refine g_splitP rfl rfl (fun h => ?_) (fun h => ?_)
    | refine g_callR hC (hC1) (nm [141]) rfl rfl (LeSs.refl _) rfl rfl rfl rfl rfl rfl rfl rfl ?_
    | (refine g_mk T hC (bytes := 32) (m.n.map nodeR).length rfl rfl rfl rfl rfl rfl (by kernel_rfl) rfl (by rw [List.length_map]; exact hn) rfl rfl rfl ?_)
  rw [List.length_map]
  refine g_bag hC rfl 150 1 rfl ?_
  refine g_toW rfl 1012 [150] (rows := List.replicate m.n.length zeroNd) rfl (layW_zero m.n) ?_
  refine g_loop (fun i : Nat => i ≤ m.n.length) (fun i => ([(2, .one (.bx 1002 0)), (3, .one (.bx 1003 0)), (15, pS (nodesP m.n)), (16, I m.n.length), (17, I i)],
      [(1002, some (Res.box [.p (.k (.slice none 0 0)), .p (.k (.slice none 0 0))])), (1003, some (Res.box [.ar 141, .ar 1012])), (141, some (Res.arr 1 (m.g.map intR))), (1012, some (Res.vw [150] 2 (layW m.n i))), (150, some (Res.bag 1 (bagF (m.n.take i))))])) (fun i => m.n.length - i) hC
    0 (Nat.zero_le _) id ⟨rfl, ⟨rfl, rfl, rfl, rfl, rfl, trivial⟩, ⟨rfl, rfl, rfl, rfl, rfl, trivial⟩, rfl, fun _ _ => rfl⟩ ?_
  intro i hi
  refine g_run' T hC true 200 rfl ?_
  refine g_cond rfl (fun h => ?_) (fun h => ?_)
  rotate_left
  · have hge : ¬ i < m.n.length := by simpa using h
    rw [layW_all _ (by omega), List.take_of_length_le (by omega)]
    repeat' first
      | refine g_go T hC true 400 rfl rfl ?_
      | refine g_cond rfl (fun h => ?_) (fun h => ?_)
      | refine g_end T hC (by kernel_rfl) ?_
      | refine g_splitD (fun h => ?_) (fun h => ?_)
      | refine g_splitG rfl rfl rfl (fun h => ?_) (fun h => ?_)
      | refine g_splitP rfl rfl (fun h => ?_) (fun h => ?_)
      | refine g_outE ?_
    exact g_fin ⟨.inl rfl, nm [141, 1012, 150], _, rfl, .refl _, ⟨rfl, rfl, rfl, trivial⟩, rfl, rfl⟩
  have hlt : i < m.n.length := by simpa using h
  clear h
  obtain ⟨x, hx⟩ := exists_at hlt
  have hC2 := clone_ok x.f (hf x (List.mem_of_getElem? hx))
  have hll := layW_len m.n (i := i) (by omega)
  have h2 := layW_two m.n i
  have htl : (bagF (m.n.take i)).length = i := by unfold bagF; rw [List.length_map, List.length_take]; omega
  have hbt : bagF (m.n.take i) ++ [x.f.map intR] = bagF (m.n.take (i + 1)) := by unfold bagF; rw [take_snoc' hx, List.map_append]; rfl
  have hst := row_store (i := i) (ids := [150]) (ids' := [150, 140]) (row' := [PC.p (ki x.t), PC.a 1]) h2 rfl (lay_ids (by omega))
  repeat' first
    | refine g_go T hC true 400 rfl rfl ?_
    | refine g_cond rfl (fun h => ?_) (fun h => ?_)
    | refine g_end T hC (by kernel_rfl) ?_
    | refine g_splitD (fun h => ?_) (fun h => ?_)
    | refine g_splitG rfl rfl rfl (fun h => ?_) (fun h => ?_)
    | refine g_splitP rfl rfl (fun h => ?_) (fun h => ?_)
    | refine g_idx T hC rfl rfl rfl (Int.natCast_nonneg _) (map_at hx) rfl rfl ?_
    | refine g_callR hC (hC2) (nm [140]) rfl rfl (LeSs.refl _) rfl rfl rfl rfl rfl rfl rfl rfl ?_
    | (refine g_idxW T hC rfl rfl rfl rfl (Int.natCast_nonneg _) (by rw [hll]; omega) rfl rfl ?_)
    | (refine g_storeW T hC (us := [.p (ki x.t), .ar 140]) ((layW m.n i).set i [.p (ki x.t), .a 1]) [150, 140] rfl rfl rfl rfl rfl rfl (by rw [List.length_set]) (len_set h2 rfl) (by rw [hll]; simp only [Int.toNat_natCast, List.length_cons, List.length_nil]; omega) (by simp only [Int.toNat_natCast]; exact hst) rfl ?_)
  rw [wrapS (by omega)]
  refine g_take hC rfl 150 140 151 rfl rfl rfl rfl [] trivial [(1012, .vw [151] 2 (layW m.n (i + 1)))] ⟨⟨_, rfl, rfl, by rw [htl]; exact lay_take hx⟩, trivial⟩ ?_
  exact g_round (i + 1) (by omega) (mv 150 151) (by omega) ⟨rfl, ⟨rfl, rfl, rfl, rfl, rfl, trivial⟩, ⟨rfl, rfl, rfl, rfl, by (rw [← hbt]; rfl), trivial⟩, rfl, fun i hi => mv_low (by omega) hi⟩
theorem wNode {l : List Nd} {k : Nat} {x : Nd} (hx : l[k]? = some x) : ∀ (j : Nat) (v : V), ([.p (ki x.t), .nv 2 k] : List V)[j]? = some v → ∃ p, (wRows l 0).flatten[k * 2 + j]? = some p ∧ toV [2] p = v := by
  have hr : (wRows l 0)[k]? = some [PC.p (ki x.t), PC.n 0 k] := by rw [wRows_at, hx, Option.map_some, Nat.zero_add]
  intro j v hj
  match j, hj with
  | 0, hj =>
    simp only [List.getElem?_cons_zero, Option.some.injEq] at hj; subst hj
    exact ⟨.p (ki x.t), by rw [flat_at (wRows_two l 0) (by omega), hr]; rfl, rfl⟩
  | 1, hj =>
    simp only [List.getElem?_cons_succ, List.getElem?_cons_zero, Option.some.injEq] at hj; subst hj
    exact ⟨.n 0 k, by rw [flat_at (wRows_two l 0) (by omega), hr]; rfl, rfl⟩
  | j + 2, hj => simp at hj
theorem placeO_ok {d : Desc} {m : Hp} (hw : WF d m) {node : Int} (h0 : node ≠ 0) (ho : ¬ outN m node) (L : List (List (List PV))) :
    FnOK Tryz.prog 75 [aggS (descR d), .agg [.ar 0, .ar 1], I node] [(1, .vw [2] 2 (wRows m.n 0)), (2, .bag 1 L)] (.tup [pS (fieldsP (plF d m node)), .one (.nv 2 (node - 1).toNat)]) [(1, .vw [2] 2 (wRows m.n 0)), (2, .bag 1 L)] := by
  obtain ⟨hw1, hn0, x, ty, hx, ht, hty, hlen⟩ := at_in hw h0 ho
  rw [(pl_in h0 ho hx hty).1]
  have hlt : (node - 1).toNat < m.n.length := (List.getElem?_eq_some_iff.1 hx).1
  have hwl := wRows_len m.n 0
  unfold outN at ho
  refine fn_ok T Tryz.func75 (by kernel_rfl) rfl rfl rfl rfl fun C hC => ?_
  repeat' first
    | refine g_go T hC true 400 rfl rfl ?_
    | refine g_cond rfl (fun h => ?_) (fun h => ?_)
    | refine g_end T hC (by kernel_rfl) ?_
    | refine g_splitD (fun h => ?_) (fun h => ?_)
    | refine g_splitG rfl rfl rfl (fun h => ?_) (fun h => ?_)
    | refine g_splitP rfl rfl (fun h => ?_) (fun h => ?_)
    | refine g_lenW T hC rfl rfl rfl rfl rfl ?_
    | (rw [hw1]; refine g_idxW T hC rfl rfl rfl rfl hn0 (by rw [hwl]; omega) rfl rfl ?_)
    | (refine g_loadW T hC [.p (ki x.t), .nv 2 (node - 1).toNat] rfl rfl rfl (wNode hx) rfl rfl rfl ?_)
    | refine g_idx T hC rfl rfl rfl ht (map_atI hty) rfl rfl ?_
  all_goals first
    | exact g_fin ⟨.inl rfl, id, _, rfl, .refl _, ⟨rfl, rfl, trivial⟩, rfl, rfl⟩
    | (exfalso; simp only [hwl, List.length_map, decide_eq_true_eq, decide_eq_false_iff_not] at *; omega)
theorem bagF_set (l : List Nd) (k : Nat) (x : Nd) (f : List Int) : (bagF l).set k (f.map intR) = bagF (l.set k ⟨x.t, f⟩) := by unfold bagF; rw [List.map_set]
theorem ints_two (l : List Int) : ∀ r ∈ l.map intR, r.length = 1 := fun r hr => by obtain ⟨y, _, rfl⟩ := List.mem_map.1 hr; rfl
theorem int_store (l : List Int) (k : Nat) (v : Int) : ∀ m p, ((l.set k v).map intR).flatten[m]? = some p → (k * 1 ≤ m ∧ ([ki v] : List PV)[m - k * 1]? = some p) ∨ ((m < k * 1 ∨ k * 1 + 1 ≤ m) ∧ (l.map intR).flatten[m]? = some p) := fun m p h => by
  rw [List.map_set] at h
  rcases flat_set (ints_two l) rfl h with ⟨c, h1, h2, h3⟩ | ⟨h1, h2⟩
  · have hc : c = 0 := by omega
    subst hc
    refine .inl ⟨by omega, ?_⟩
    rw [show m - k * 1 = 0 by omega]; exact h3
  · exact .inr ⟨h1, h2⟩
theorem writeO_ok {d : Desc} {m : Hp} (hval : validM d m = true) {node field v : Int} (ho : ¬ offF (plV m node).length field) {f : Fld} (hf : (plF d m node)[field.toNat]? = some f) (hr : rightM d m f.t v = true) :
    FnOK Tryz.prog 31 [aggS (descR d), aggS (memR m), I node, I field, I v] [] (.tup [.agg [.ar 0, .ar 1], I 0]) [(0, .arr 1 ((writeM m node field v).g.map intR)), (1, .vw [2] 2 (wRows (writeM m node field v).n 0)), (2, .bag 1 (bagF (writeM m node field v).n))] := by
  have h0 : hasTypes d = true := by simp only [validM, Bool.and_eq_true] at hval; exact hval.1.1.1.1.1
  have hT := typesOf_ok d
  simp only [tyRes, tyRL, h0, if_true] at hT
  have hVT := validT_ok d m
  rw [validMM_V h0, hval] at hVT
  have hw := wg_of hval
  have hP := place_ok hw node
  have hR := right12_ok d m f.t v
  rw [hr] at hR
  have hz := sizes_of hval
  have hsm := hw.small
  obtain ⟨y, hy⟩ := exists_at (l := plV m node) (i := field.toNat) (by unfold offF at ho; omega)
  unfold offF at ho
  have hf0 : 0 ≤ field := by omega
  have hC1 := cloneO_ok m hz.1 (by omega) hz.2
  by_cases hn0 : node = 0
  · subst hn0
    rw [(pl_zero d m).2] at hy ho hP
    rw [(pl_zero d m).1] at hf hP
    have hlt : field.toNat < m.g.length := (List.getElem?_eq_some_iff.1 hy).1
    have hG := placeG_ok d (m.g.map intR)
    have hwm : writeM m 0 field v = ⟨m.g.set field.toNat v, m.n⟩ := by simp only [writeM, if_true]
    rw [hwm]
    refine fn_ok T Tryz.func31 (by kernel_rfl) rfl rfl rfl rfl fun C hC => ?_
    repeat' first
      | refine g_go T hC true 400 rfl rfl ?_
      | refine g_cond rfl (fun h => ?_) (fun h => ?_)
      | refine g_end T hC (by kernel_rfl) ?_
      | refine g_splitD (fun h => ?_) (fun h => ?_)
      | refine g_splitG rfl rfl rfl (fun h => ?_) (fun h => ?_)
      | refine g_splitP rfl rfl (fun h => ?_) (fun h => ?_)
      | (refine g_callR hC hT (nm [150]) rfl rfl (LeSs.refl _) rfl rfl rfl rfl rfl rfl rfl rfl ?_)
      | refine g_callR hC (hVT) (nm [150]) rfl rfl (LeSs.refl _) rfl rfl rfl rfl rfl rfl rfl rfl ?_
      | refine g_call hC (hP) rfl rfl (LeSs.refl _) rfl rfl rfl ?_
      | (refine g_idx T hC rfl rfl rfl hf0 (map_atI hf) rfl rfl ?_)
      | refine g_callR hC (hR) (nm [150]) rfl rfl (LeSs.refl _) rfl rfl rfl rfl rfl rfl rfl rfl ?_
      | refine g_callR hC (hC1) (nm [141, 142, 143]) rfl rfl (LeSs.refl _) rfl rfl rfl rfl rfl rfl rfl rfl ?_
      | refine g_callR hC (hG) (nm [141, 142]) rfl rfl (LeSs.refl _) rfl rfl rfl rfl rfl rfl rfl rfl ?_
      | (refine g_idxA T hC (rows := m.g.map intR) rfl rfl rfl rfl hf0 (by rw [List.length_map]; omega) rfl rfl ?_)
      | (refine g_storeE T hC field.toNat 0 (rows := m.g.map intR) (row := intR y) (us := [ki v]) (rows' := (m.g.set field.toNat v).map intR) rfl rfl rfl rfl rfl rfl (by simp) (intsAt hy) (Nat.le_refl 1) (set_mapI _ _ _ _) rfl ?_)
    all_goals first
      | (exfalso; cases h; done)
      | (exfalso; simp only [List.length_map, decide_eq_true_eq, decide_eq_false_iff_not] at *; simp_all; done)
      | (exfalso; cases h; done)
      | (exfalso; simp only [List.length_map, decide_eq_true_eq, decide_eq_false_iff_not] at *; omega)
      | skip
    exact g_fin ⟨.inl rfl, nm [141, 142, 143], _, rfl, .refl _, ⟨rfl, rfl, rfl, trivial⟩, rfl, rfl⟩
  · by_cases hno : outN m node
    · rw [(pl_out (d := d) hn0 hno).2] at hy; simp at hy
    · obtain ⟨_, hn1, x, ty, hx, ht, hty, hlen⟩ := at_in hw.toWF hn0 hno
      have hN := placeO_ok hw.toWF hn0 hno (bagF m.n)
      rw [(pl_in hn0 hno hx hty).2] at hy ho hP
      rw [(pl_in hn0 hno hx hty).1] at hf hP hN
      have hlt : field.toNat < x.f.length := (List.getElem?_eq_some_iff.1 hy).1
      rw [writeM_in hn0 hx, wRows_set _ hx]
      refine fn_ok T Tryz.func31 (by kernel_rfl) rfl rfl rfl rfl fun C hC => ?_
      repeat' first
        | refine g_go T hC true 400 rfl rfl ?_
        | refine g_cond rfl (fun h => ?_) (fun h => ?_)
        | refine g_end T hC (by kernel_rfl) ?_
        | refine g_splitD (fun h => ?_) (fun h => ?_)
        | refine g_splitG rfl rfl rfl (fun h => ?_) (fun h => ?_)
        | refine g_splitP rfl rfl (fun h => ?_) (fun h => ?_)
        | (refine g_callR hC hT (nm [150]) rfl rfl (LeSs.refl _) rfl rfl rfl rfl rfl rfl rfl rfl ?_)
        | refine g_callR hC (hVT) (nm [150]) rfl rfl (LeSs.refl _) rfl rfl rfl rfl rfl rfl rfl rfl ?_
        | refine g_call hC (hP) rfl rfl (LeSs.refl _) rfl rfl rfl ?_
        | (refine g_idx T hC rfl rfl rfl hf0 (map_atI hf) rfl rfl ?_)
        | refine g_callR hC (hR) (nm [150]) rfl rfl (LeSs.refl _) rfl rfl rfl rfl rfl rfl rfl rfl ?_
        | refine g_callR hC (hC1) (nm [141, 142, 143]) rfl rfl (LeSs.refl _) rfl rfl rfl rfl rfl rfl rfl rfl ?_
        | refine g_callR hC (hN) (nm [141, 142, 143]) rfl rfl (LeSs.refl _) rfl rfl rfl rfl rfl rfl rfl rfl ?_
        | (refine g_idxB T hC rfl rfl rfl (bagF_at hx) rfl hf0 (by rw [List.length_map]; omega) rfl rfl ?_)
        | (refine g_storeB T hC ((x.f.set field.toNat v).map intR) (us := [ki v]) rfl rfl rfl rfl rfl rfl (bagF_at hx) (by simp) (ints_two _) (by simp; omega) (int_store _ _ _) rfl ?_)
      all_goals first
        | (exfalso; cases h; done)
        | (exfalso; simp only [List.length_map, decide_eq_true_eq, decide_eq_false_iff_not] at *; simp_all; done)
        | (exfalso; cases h; done)
        | (exfalso; simp only [List.length_map, decide_eq_true_eq, decide_eq_false_iff_not] at *; omega)
        | skip
      rw [bagF_set _ _ x]
      exact g_fin ⟨.inl rfl, nm [141, 142, 143], _, rfl, .refl _, ⟨rfl, rfl, rfl, trivial⟩, rfl, rfl⟩
end Hw.Z
namespace Hw.Z
open Go Go.Proofs Hw.M

/-! What was written is read: plain -/
/-- The same nodes, but for their values. -/
structure SameT (m m' : Hp) : Prop where
  len : m'.n.length = m.n.length
  ty : ∀ (i : Nat), (m'.n[i]?).map (·.t) = (m.n[i]?).map (·.t)
theorem rightV_same {m m' : Hp} (h : SameT m m') (d : Desc) (t : Str) (v : Int) : rightV d m' t v = rightV d m t v := by
  unfold rightV; rw [h.len, h.ty]
theorem pairOk_same {m m' : Hp} (h : SameT m m') (d : Desc) : pairOk d m' = pairOk d m := by
  funext p; exact rightV_same h d _ _
theorem zip_set {l : List Fld} {g : List Int} {k : Nat} {v : Int} {p : Fld × Int → Bool} (h : (l.zip g).all p = true) (hk : ∀ f, l[k]? = some f → p (f, v) = true) : (l.zip (g.set k v)).all p = true := by
  rw [List.all_eq_true] at h ⊢
  intro q hq
  obtain ⟨i, hi⟩ := List.mem_iff_getElem?.1 hq
  rw [List.getElem?_zip_eq_some] at hi
  obtain ⟨h1, h2⟩ := hi
  rw [List.getElem?_set] at h2
  split at h2
  · rename_i e; subst e
    split at h2
    · have := Option.some.inj h2
      obtain ⟨a, b⟩ := q
      simp only at h1 this
      subst this
      exact hk a h1
    · cases h2
  · exact h q (List.mem_of_getElem? (i := i) (by rw [List.getElem?_zip_eq_some]; exact ⟨h1, h2⟩))
theorem sameT_g (m : Hp) (g : List Int) : SameT m ⟨g, m.n⟩ := ⟨rfl, fun _ => rfl⟩
theorem sameT_n {m : Hp} {k : Nat} {x : Nd} (hx : m.n[k]? = some x) (f : List Int) : SameT m ⟨m.g, m.n.set k ⟨x.t, f⟩⟩ := ⟨by simp, fun i => by
  simp only
  by_cases e : k = i
  · subst e
    rw [List.getElem?_set_self (List.getElem?_eq_some_iff.1 hx).1, hx]; rfl
  · rw [List.getElem?_set_ne e]⟩
theorem write_valid {d : Desc} {m : Hp} (hval : validM d m = true) {node field v : Int} {f : Fld} (ho : ¬ offF (plV m node).length field) (hf : (plF d m node)[field.toNat]? = some f) (hr : rightV d m f.t v = true) : validM d (writeM m node field v) = true := by
  have hw := wg_of hval
  have hv := hval
  simp only [validM, Bool.and_eq_true, decide_eq_true_eq, Bool.not_eq_true', decide_eq_false_iff_not] at hv
  obtain ⟨⟨⟨⟨⟨h1, h2⟩, h3⟩, h4⟩, h5⟩, h6⟩ := hv
  by_cases hn0 : node = 0
  · subst hn0
    have hwm : writeM m 0 field v = ⟨m.g.set field.toNat v, m.n⟩ := by simp only [writeM, if_true]
    rw [(pl_zero d m).1] at hf
    rw [hwm]
    have hp := pairOk_same (sameT_g m (m.g.set field.toNat v)) d
    have hq : nodeRight d ⟨m.g.set field.toNat v, m.n⟩ = nodeRight d m := by funext x; unfold nodeRight; rw [hp]
    simp only [validM, Bool.and_eq_true, decide_eq_true_eq, Bool.not_eq_true', decide_eq_false_iff_not]
    refine ⟨⟨⟨⟨⟨h1, by rw [List.length_set]; exact h2⟩, h3⟩, h4⟩, ?_⟩, by rw [hq]; exact h6⟩
    rw [hp]
    refine zip_set h5 fun f' hf' => ?_
    rw [hf] at hf'
    rw [← Option.some.inj hf']; exact hr
  · by_cases hno : outN m node
    · rw [(pl_out (d := d) hn0 hno).1] at hf; simp at hf
    · obtain ⟨_, hn1, x, ty, hx, ht, hty, hlen⟩ := at_in hw.toWF hn0 hno
      rw [(pl_in hn0 hno hx hty).1] at hf
      rw [writeM_in hn0 hx]
      have hp := pairOk_same (sameT_n hx (x.f.set field.toNat v)) d
      have hxm := List.mem_of_getElem? hx
      simp only [validM, Bool.and_eq_true, decide_eq_true_eq, Bool.not_eq_true', decide_eq_false_iff_not]
      refine ⟨⟨⟨⟨⟨h1, h2⟩, by rw [List.length_set]; exact h3⟩, ?_⟩, by rw [hp]; exact h5⟩, ?_⟩
      · rw [List.all_eq_true] at h4 ⊢
        intro y hy
        rcases List.mem_or_eq_of_mem_set hy with hy | rfl
        · exact h4 y hy
        · have := h4 x hxm
          simp only [nodeShape, List.length_set] at this ⊢; exact this
      · rw [List.all_eq_true] at h6 ⊢
        intro y hy
        unfold nodeRight
        rw [hp]
        rcases List.mem_or_eq_of_mem_set hy with hy | rfl
        · exact h6 y hy
        · have := h6 x hxm
          unfold nodeRight at this
          simp only
          refine zip_set this fun f' hf' => ?_
          rw [hty, Option.map_some, Option.getD_some, hf] at hf'
          rw [← Option.some.inj hf']; exact hr
theorem plV_write {d : Desc} {m : Hp} (hval : validM d m = true) {node field v : Int} (ho : ¬ offF (plV m node).length field) (other : Int) : plV (writeM m node field v) other = if other = node then (plV m node).set field.toNat v else plV m other := by
  have hw := wg_of hval
  by_cases hn0 : node = 0
  · subst hn0
    have hwm : writeM m 0 field v = ⟨m.g.set field.toNat v, m.n⟩ := by simp only [writeM, if_true]
    rw [hwm]
    by_cases h : other = 0
    · subst h; simp only [plV, if_true]
    · simp only [plV, if_neg h, outN, fAt]
  · by_cases hno : outN m node
    · rw [(pl_out (d := d) hn0 hno).2] at ho
      exfalso; unfold offF at ho; simp only [List.length_nil] at ho; omega
    · obtain ⟨_, hn1, x, ty, hx, ht, hty, hlen⟩ := at_in hw.toWF hn0 hno
      rw [writeM_in hn0 hx]
      have hpx := (pl_in hn0 hno hx hty).2
      have hno' := hno
      unfold outN at hno'
      by_cases h : other = node
      · subst h
        rw [if_pos rfl, hpx]
        simp only [plV, if_neg hn0, outN, List.length_set, if_neg hno', fAt]
        rw [List.getElem?_set_self (List.getElem?_eq_some_iff.1 hx).1]; rfl
      · rw [if_neg h]
        by_cases h0 : other = 0
        · subst h0; simp only [plV, if_true]
        · simp only [plV, if_neg h0, fAt]
          have hiff : outN ⟨m.g, m.n.set (node - 1).toNat ⟨x.t, x.f.set field.toNat v⟩⟩ other ↔ outN m other := by unfold outN; rw [List.length_set]
          by_cases hoo : outN m other
          · rw [if_pos hoo, if_pos (hiff.2 hoo)]
          · rw [if_neg hoo, if_neg (fun e => hoo (hiff.1 e)), List.getElem?_set_ne (by unfold outN at hoo; omega)]
/-- What Read answers. -/
def rdS (m : Hp) (node field : Int) : Int × Int := (if offF (plV m node).length field then 0 else ((plV m node)[field.toNat]?).getD 0, if offF (plV m node).length field then 2 else 0)
theorem rd_here {d : Desc} {m : Hp} (hval : validM d m = true) {node field v : Int} (ho : ¬ offF (plV m node).length field) : rdS (writeM m node field v) node field = (v, 0) := by
  have e := plV_write hval (v := v) ho node
  rw [if_pos rfl] at e
  unfold rdS
  rw [e, List.length_set, if_neg ho, if_neg ho]
  unfold offF at ho
  rw [List.getElem?_set_self (by omega)]; rfl
theorem rd_there {d : Desc} {m : Hp} (hval : validM d m = true) {node field v : Int} (ho : ¬ offF (plV m node).length field) (other at' : Int) :
    (rdS (writeM m node field v) other at').2 = (rdS m other at').2 ∧ ((other ≠ node ∨ at' ≠ field) → (rdS (writeM m node field v) other at').1 = (rdS m other at').1) := by
  have e := plV_write hval (v := v) ho other
  unfold rdS
  by_cases h : other = node
  · subst h
    rw [if_pos rfl] at e
    rw [e, List.length_set]
    refine ⟨rfl, fun hne => ?_⟩
    by_cases hoo : offF (plV m other).length at'
    · simp only [if_pos hoo]
    · simp only [if_neg hoo]
      have hat : at' ≠ field := by rcases hne with h | h; exact absurd rfl h; exact h
      unfold offF at hoo ho
      rw [List.getElem?_set_ne (by omega)]
  · rw [if_neg h] at e
    rw [e]
    exact ⟨rfl, fun _ => rfl⟩
end Hw.Z
namespace Hw.Z
open Go Go.Proofs Hw.M

/-! HeapWrites: the law -/
theorem lend_rel (B : RL) (id : Nat) (l : List Nd) (hm : (id, .bag 1 (bagF l)) ∈ B) : ∀ (j : Nat) (x' : PV), (l.map nodeR).flatten[j]? = some x' → ∃ x, (wRows l 0).flatten[j]? = some x ∧ LnV B (toV [id] x) (.p x') := by
  refine flat_rel (wRows_two l 0) (rows_two l) fun i row' hi => ?_
  rw [List.getElem?_map, Option.map_eq_some_iff] at hi
  obtain ⟨y, hy, rfl⟩ := hi
  refine ⟨[PC.p (ki y.t), PC.n 0 i], by rw [wRows_at, hy, Option.map_some, Nat.zero_add], fun c x' hc => ?_⟩
  match c, hc with
  | 0, hc => simp only [nodeR, List.getElem?_cons_zero, Option.some.injEq] at hc; subst hc; exact ⟨_, rfl, LnV.refl _⟩
  | 1, hc => simp only [nodeR, List.getElem?_cons_succ, List.getElem?_cons_zero, Option.some.injEq] at hc; subst hc; exact ⟨_, rfl, LnV.nv hm (bagF_at hy)⟩
  | c + 2, hc => simp [nodeR] at hc
theorem lend_mem (x : Hp) : LnS [(161, .arr 1 (x.g.map intR)), (162, .vw [163] 2 (wRows x.n 0)), (163, .bag 1 (bagF x.n))] (.agg [.ar 161, .ar 162]) (aggS (memR x)) :=
  LnS.agg (.cons (LnV.ar (by simp)) (.cons (LnV.vw (ids := [163]) (rows := wRows x.n 0) (by simp) (by rw [List.length_map, wRows_len]) (rows_two _) (lend_rel _ 163 x.n (by simp))) .nil))
theorem wCell {l : List Nd} {i : Nat} (hi : i < l.length) : ∀ (j : Nat) (v : V), ([.nv 163 i] : List V)[j]? = some v → ∃ p, (wRows l 0).flatten[i * 2 + 1 + j]? = some p ∧ toV [163] p = v := by
  obtain ⟨x, hx⟩ := exists_at hi
  have hr : (wRows l 0)[i]? = some [PC.p (ki x.t), PC.n 0 i] := by rw [wRows_at, hx, Option.map_some, Nat.zero_add]
  intro j v hj
  match j, hj with
  | 0, hj =>
    simp only [List.getElem?_cons_zero, Option.some.injEq] at hj; subst hj
    exact ⟨.n 0 i, by rw [Nat.add_zero, flat_at (wRows_two l 0) (by omega), hr]; rfl, rfl⟩
  | j + 1, hj => simp at hj
theorem bag_at {L : List (List Int)} {i : Nat} {r : List Int} (h : L[i]? = some r) : (L.map (List.map intR))[i]? = some (r.map intR) := by rw [List.getElem?_map, h]; rfl
set_option maxHeartbeats 16000000 in
theorem heapWrites_ok (d : Desc) (m : Hp) (node field value other at' : Int) : FnOK Tryz.prog 6 [aggS (descR d), aggS (memR m), I node, I field, I value, I other, I at'] [] (.bq true) [] := by
  cases hg : (greatS d || [m].any manyS) with
  | true =>
    have hL := large_ok d [m]
    rw [hg] at hL
    refine fn_ok T Tryz.func6 (by kernel_rfl) rfl rfl rfl rfl fun C hC => ?_
    repeat' first
      | refine g_go T hC true 400 rfl rfl ?_
      | refine g_cond rfl (fun h => ?_) (fun h => ?_)
      | refine g_end T hC (by kernel_rfl) ?_
      | refine g_splitD (fun h => ?_) (fun h => ?_)
      | refine g_splitG rfl rfl rfl (fun h => ?_) (fun h => ?_)
      | refine g_splitP rfl rfl (fun h => ?_) (fun h => ?_)
      | refine g_call hC (awake_ok) rfl rfl (LeSs.refl _) rfl rfl rfl ?_
      | refine g_lit T hC rfl rfl rfl rfl rfl rfl rfl rfl rfl ?_
      | refine g_call hC (hL) rfl rfl (LeSs.refl _) rfl rfl rfl ?_
      | refine g_retq T (.inl rfl) rfl ?_
      | refine g_retl T (.inl rfl) rfl ?_
    all_goals clear hL
    all_goals first | rfl | (exfalso; simp_all; done)
  | false =>
  have hL := large_ok d [m]
  rw [hg] at hL
  have hV := valid12_ok d m
  cases hval : validM d m with
  | false =>
    rw [hval] at hV
    refine fn_ok T Tryz.func6 (by kernel_rfl) rfl rfl rfl rfl fun C hC => ?_
    repeat' first
      | refine g_go T hC true 400 rfl rfl ?_
      | refine g_cond rfl (fun h => ?_) (fun h => ?_)
      | refine g_end T hC (by kernel_rfl) ?_
      | refine g_splitD (fun h => ?_) (fun h => ?_)
      | refine g_splitG rfl rfl rfl (fun h => ?_) (fun h => ?_)
      | refine g_splitP rfl rfl (fun h => ?_) (fun h => ?_)
      | refine g_call hC (awake_ok) rfl rfl (LeSs.refl _) rfl rfl rfl ?_
      | refine g_lit T hC rfl rfl rfl rfl rfl rfl rfl rfl rfl ?_
      | refine g_call hC (hL) rfl rfl (LeSs.refl _) rfl rfl rfl ?_
      | refine g_call hC (hV) rfl rfl (LeSs.refl _) rfl rfl rfl ?_
      | refine g_retq T (.inl rfl) rfl ?_
      | refine g_retl T (.inl rfl) rfl ?_
    all_goals clear hL hV
    all_goals first | rfl | (exfalso; simp_all; done)
  | true =>
  rw [hval] at hV
  have hw := wg_of hval
  have h0 : hasTypes d = true := by simp only [validM, Bool.and_eq_true] at hval; exact hval.1.1.1.1.1
  have hz := sizes_of hval
  have hsm := hw.small
  have hCp := copy12_ok m m.n.length hz.1 (by omega) hz.2
  have hQ := equal_ok m m
  rw [decide_eq_true rfl] at hQ
  have hl := pl_len hw node
  have hN := none_ok ⟨[], []⟩
  rw [show noneS ⟨[], []⟩ = true from rfl] at hN
  -- the writings that fail
  have fails : ∀ e : Int, e ≠ 0 → FnOK Tryz.prog 31 [aggS (descR d), aggS (memR m), I node, I field, I value] [] (.tup [aggS (memR ⟨[], []⟩), I e]) [] →
      FnOK Tryz.prog 6 [aggS (descR d), aggS (memR m), I node, I field, I value, I other, I at'] [] (.bq true) [] := fun e he hW => by
    refine fn_ok T Tryz.func6 (by kernel_rfl) rfl rfl rfl rfl fun C hC => ?_
    repeat' first
      | refine g_go T hC true 400 rfl rfl ?_
      | (exfalso; simp at h; exact he h)
      | (exfalso; simp at h; done)
      | refine g_cond rfl (fun h => ?_) (fun h => ?_)
      | refine g_end T hC (by kernel_rfl) ?_
      | refine g_splitD (fun h => ?_) (fun h => ?_)
      | refine g_splitG rfl rfl rfl (fun h => ?_) (fun h => ?_)
      | refine g_splitP rfl rfl (fun h => ?_) (fun h => ?_)
      | refine g_call hC (awake_ok) rfl rfl (LeSs.refl _) rfl rfl rfl ?_
      | refine g_lit T hC rfl rfl rfl rfl rfl rfl rfl rfl rfl ?_
      | refine g_call hC (hL) rfl rfl (LeSs.refl _) rfl rfl rfl ?_
      | refine g_call hC (hV) rfl rfl (LeSs.refl _) rfl rfl rfl ?_
      | (refine g_callR hC hCp (nm [141, 142, 143]) rfl rfl (LeSs.refl _) rfl rfl rfl rfl rfl rfl rfl rfl ?_; refine g_dropX rfl 142 rfl (drop_out m.n 143) ?_; refine g_freeze rfl (id := 142) (e := 2) (rows := m.n.map nodeR) rfl [(40, .agg [.ar 141, .p (nodesP m.n)])] ⟨⟨_, rfl, FrS.agg (.cons (.refl _) (.cons .ar .nil))⟩, trivial⟩ [] trivial ?_; refine g_freeze rfl (id := 141) (e := 1) (rows := m.g.map intR) rfl [(40, aggS (memR m))] ⟨⟨_, rfl, FrS.agg (.cons .ar (.cons (.refl _) .nil))⟩, trivial⟩ [] trivial ?_)
      | refine g_call hC (hW) rfl rfl (LeSs.refl _) rfl rfl rfl ?_
      | refine g_call hC (hQ) rfl rfl (LeSs.refl _) rfl rfl rfl ?_
      | refine g_call hC (hN) rfl rfl (LeSs.refl _) rfl rfl rfl ?_
      | refine g_retq T (.inl rfl) rfl ?_
      | refine g_retl T (.inl rfl) rfl ?_
    all_goals clear hL hV hCp hQ hN hW
    all_goals first | rfl | (exfalso; simp_all; done)
  by_cases ho : offF (plV m node).length field
  · exact fails 2 (by decide) (write_off hval value ho)
  have ho' : ¬ offF (plF d m node).length field := by rw [hl]; exact ho
  obtain ⟨y, hy⟩ := exists_at (l := plV m node) (i := field.toNat) (by unfold offF at ho; omega)
  obtain ⟨f, hf⟩ := exists_at (l := plF d m node) (i := field.toNat) (by unfold offF at ho'; omega)
  have hk := pl_known hval node f (List.mem_of_getElem? hf)
  have hrv := rightM_V (m := m) (v := value) hk
  cases hr : rightV d m f.t value with
  | false => exact fails 11 (by decide) (write_bad hval ho hf (hrv.trans hr))
  | true =>
  clear fails hN
  have hW := writeO_ok hval ho hf (hrv.trans hr)
  have hvx := write_valid hval ho hf hr
  have hR1 : FnOK Tryz.prog 32 [aggS (descR d), aggS (memR (writeM m node field value)), I node, I field] [] (.tup [I (rdS (writeM m node field value) node field).1, I (rdS (writeM m node field value) node field).2]) [] := read_ok hvx node field
  have hR2 : FnOK Tryz.prog 32 [aggS (descR d), aggS (memR m), I other, I at'] [] (.tup [I (rdS m other at').1, I (rdS m other at').2]) [] := read_ok hval other at'
  have hR3 : FnOK Tryz.prog 32 [aggS (descR d), aggS (memR (writeM m node field value)), I other, I at'] [] (.tup [I (rdS (writeM m node field value) other at').1, I (rdS (writeM m node field value) other at').2]) [] := read_ok hvx other at'
  rw [rd_here hval ho] at hR1
  obtain ⟨hc1, hc2⟩ := rd_there hval (v := value) ho other at'
  rw [hc1] at hR3
  simp only at hR1
  have hsx := (wg_of hvx).small
  have hzx := sizes_of hvx
  clear hc1 hvx hval hr hrv hk hf hy
  generalize (rdS m other at').1 = a at hR2 hc2
  generalize (rdS m other at').2 = e at hR2 hR3
  generalize (rdS (writeM m node field value) other at').1 = b at hR3 hc2
  generalize writeM m node field value = x at hW hR1 hR3 hsx hzx
  have hwl := wRows_len x.n 0
  have hgx := hzx.1
  have hfx := hzx.2
  clear hzx
  refine fn_ok T Tryz.func6 (by kernel_rfl) rfl rfl rfl rfl fun C hC => ?_
  repeat' first
    | refine g_go T hC true 400 rfl rfl ?_
    | (exfalso; simp at h; done)
    | refine g_cond rfl (fun h => ?_) (fun h => ?_)
    | refine g_end T hC (by kernel_rfl) ?_
    | refine g_splitD (fun h => ?_) (fun h => ?_)
    | refine g_splitG rfl rfl rfl (fun h => ?_) (fun h => ?_)
    | refine g_splitP rfl rfl (fun h => ?_) (fun h => ?_)
    | refine g_call hC (awake_ok) rfl rfl (LeSs.refl _) rfl rfl rfl ?_
    | refine g_lit T hC rfl rfl rfl rfl rfl rfl rfl rfl rfl ?_
    | refine g_call hC (hL) rfl rfl (LeSs.refl _) rfl rfl rfl ?_
    | refine g_call hC (hV) rfl rfl (LeSs.refl _) rfl rfl rfl ?_
    | (refine g_callR hC hCp (nm [141, 142, 143]) rfl rfl (LeSs.refl _) rfl rfl rfl rfl rfl rfl rfl rfl ?_; refine g_dropX rfl 142 rfl (drop_out m.n 143) ?_; refine g_freeze rfl (id := 142) (e := 2) (rows := m.n.map nodeR) rfl [(40, .agg [.ar 141, .p (nodesP m.n)])] ⟨⟨_, rfl, FrS.agg (.cons (.refl _) (.cons .ar .nil))⟩, trivial⟩ [] trivial ?_; refine g_freeze rfl (id := 141) (e := 1) (rows := m.g.map intR) rfl [(40, aggS (memR m))] ⟨⟨_, rfl, FrS.agg (.cons .ar (.cons (.refl _) .nil))⟩, trivial⟩ [] trivial ?_)
    | refine g_callR hC (hW) (nm [161, 162, 163]) rfl rfl (LeSs.refl _) rfl rfl rfl rfl rfl rfl rfl rfl ?_
    | refine g_call hC (hQ) rfl rfl (LeSs.refl _) rfl rfl rfl ?_
    | refine g_call hC (hR2) rfl rfl (LeSs.refl _) rfl rfl rfl ?_
    | (refine g_callN hC hR1 [(161, .arr 1 (x.g.map intR)), (162, .vw [163] 2 (wRows x.n 0)), (163, .bag 1 (bagF x.n))] rfl rfl (LnSs.cons (.refl _) (LnSs.cons (lend_mem x) (LnSs.refl _))) rfl rfl rfl rfl ?_)
    | (refine g_callN hC hR3 [(161, .arr 1 (x.g.map intR)), (162, .vw [163] 2 (wRows x.n 0)), (163, .bag 1 (bagF x.n))] rfl rfl (LnSs.cons (.refl _) (LnSs.cons (lend_mem x) (LnSs.refl _))) rfl rfl rfl rfl ?_)
    | refine g_retq T (.inl rfl) rfl ?_
    | refine g_retl T (.inl rfl) rfl ?_
  all_goals clear hL hV hCp hQ hW hR1 hR2 hR3
  all_goals first
    | (exfalso; simp_all; done)
    | skip
  all_goals
    rw [List.length_map]
    refine g_loop (fun q : Nat × List Int => q.1 ≤ x.g.length ∧ q.2.length = x.g.length) (fun q => ([(8, .one (.bx 1008 0)), (15, .one (.bx 1015 0)), (16, .one (.bx 1016 0)), (111, I x.g.length), (112, I q.1)],
        [(1008, some (Res.box ((memR m).map V.p))), (1015, some (Res.box ((memR m).map V.p))), (1016, some (Res.box [.ar 161, .ar 162])), (161, some (Res.arr 1 (q.2.map intR))), (162, some (Res.vw [163] 2 (wRows x.n 0))), (163, some (Res.bag 1 (bagF x.n)))])) (fun q => x.g.length - q.1) hC
      (0, x.g) ⟨Nat.zero_le _, rfl⟩ id ⟨rfl, ⟨rfl, rfl, rfl, rfl, rfl, trivial⟩, ⟨rfl, rfl, rfl, rfl, rfl, rfl, trivial⟩, rfl, fun _ _ => rfl⟩ ?_
    rintro ⟨i, g⟩ ⟨hi, hgl⟩
    simp only at hi hgl
    refine g_run' T hC true 200 rfl ?_
    refine g_cond rfl (fun hlt => ?_) (fun hlt => ?_)
    · have hlt' : i < g.length := by have := of_decide_eq_true hlt; omega
      obtain ⟨z, hz'⟩ := exists_at hlt'
      repeat' first
        | refine g_go T hC true 400 rfl rfl ?_
        | refine g_cond rfl (fun h => ?_) (fun h => ?_)
        | refine g_end T hC (by kernel_rfl) ?_
        | refine g_splitD (fun h => ?_) (fun h => ?_)
        | refine g_splitG rfl rfl rfl (fun h => ?_) (fun h => ?_)
        | refine g_splitP rfl rfl (fun h => ?_) (fun h => ?_)
        | (refine g_idxA T hC (rows := g.map intR) rfl rfl rfl rfl (Int.natCast_nonneg _) (by rw [List.length_map]; omega) rfl rfl ?_)
        | (refine g_storeE T hC i 0 (rows := g.map intR) (row := intR z) (us := [ki (-5)]) (rows' := (g.set i (-5)).map intR) rfl rfl rfl rfl rfl rfl (by simp) (by rw [List.getElem?_map, hz']; rfl) (Nat.le_refl 1) (set_mapI _ _ _ _) rfl ?_)
      rw [wrapS (by omega)]
      exact g_round (i + 1, g.set i (-5)) ⟨by simp only; omega, by simp only [List.length_set]; exact hgl⟩ id (by simp only; omega) ⟨rfl, ⟨rfl, rfl, rfl, rfl, rfl, trivial⟩, ⟨rfl, rfl, rfl, rfl, rfl, rfl, trivial⟩, rfl, fun _ _ => rfl⟩
    clear hlt
    repeat' first
      | refine g_go T hC true 400 rfl rfl ?_
      | refine g_cond rfl (fun h => ?_) (fun h => ?_)
      | refine g_end T hC (by kernel_rfl) ?_
      | refine g_splitD (fun h => ?_) (fun h => ?_)
      | refine g_splitG rfl rfl rfl (fun h => ?_) (fun h => ?_)
      | refine g_splitP rfl rfl (fun h => ?_) (fun h => ?_)
      | refine g_outE ?_
      | refine g_lenW T hC rfl rfl rfl rfl rfl ?_
    rw [hwl]
    refine g_loop (fun q : Nat × List (List Int) => q.1 ≤ x.n.length ∧ q.2.length = x.n.length ∧ ∀ r ∈ q.2, r.length ≤ 1000000) (fun q => ([(8, .one (.bx 1008 0)), (15, .one (.bx 1015 0)), (16, .one (.bx 1016 0)), (122, I x.n.length), (123, I q.1)],
        [(1008, some (Res.box ((memR m).map V.p))), (1015, some (Res.box ((memR m).map V.p))), (1016, some (Res.box [.ar 161, .ar 162])), (162, some (Res.vw [163] 2 (wRows x.n 0))), (163, some (Res.bag 1 (q.2.map (List.map intR))))])) (fun q => x.n.length - q.1) hC
      (0, x.n.map (·.f)) ⟨Nat.zero_le _, by simp, fun r hr => by obtain ⟨z, hz', rfl⟩ := List.mem_map.1 hr; exact hfx z hz'⟩ id ⟨rfl, ⟨rfl, rfl, rfl, rfl, rfl, trivial⟩, ⟨rfl, rfl, rfl, rfl, by (rw [show bagF x.n = (x.n.map (·.f)).map (List.map intR) by unfold bagF; rw [List.map_map]; rfl]; rfl), trivial⟩, rfl, fun _ _ => rfl⟩ ?_
    rintro ⟨i, L⟩ ⟨hi, hLl, hLs⟩
    simp only at hi hLl hLs
    refine g_run' T hC true 200 rfl ?_
    refine g_cond rfl (fun hlt => ?_) (fun hlt => ?_)
    rotate_left
    · clear hlt
      repeat' first
        | refine g_go T hC true 400 rfl rfl ?_
        | refine g_cond rfl (fun h => ?_) (fun h => ?_)
        | refine g_end T hC (by kernel_rfl) ?_
        | refine g_splitD (fun h => ?_) (fun h => ?_)
        | refine g_splitG rfl rfl rfl (fun h => ?_) (fun h => ?_)
        | refine g_splitP rfl rfl (fun h => ?_) (fun h => ?_)
        | refine g_outE ?_
        | refine g_call hC (equal_ok m m) rfl rfl (LeSs.refl _) rfl rfl rfl ?_
        | refine g_retq T (.inl rfl) rfl ?_
        | refine g_retl T (.inl rfl) rfl ?_
      exact decide_eq_true rfl
    have hlt' : i < L.length := by have := of_decide_eq_true hlt; omega
    clear hlt
    obtain ⟨r, hr'⟩ := exists_at hlt'
    have hrl := hLs r (List.mem_of_getElem? hr')
    repeat' first
      | refine g_go T hC true 400 rfl rfl ?_
      | refine g_cond rfl (fun h => ?_) (fun h => ?_)
      | refine g_end T hC (by kernel_rfl) ?_
      | refine g_splitD (fun h => ?_) (fun h => ?_)
      | refine g_splitG rfl rfl rfl (fun h => ?_) (fun h => ?_)
      | refine g_splitP rfl rfl (fun h => ?_) (fun h => ?_)
      | (refine g_idxW T hC rfl rfl rfl rfl (Int.natCast_nonneg _) (by rw [hwl]; omega) rfl rfl ?_)
      | (refine g_loadW T hC [.nv 163 i] rfl rfl rfl (wCell (by omega)) rfl rfl rfl ?_)
      | (refine g_lenB T hC rfl rfl (bag_at hr') rfl rfl rfl ?_)
    rw [List.length_map]
    refine g_loop (fun q : Nat × List (List Int) => q.1 ≤ r.length ∧ q.2.length = x.n.length ∧ (∀ r ∈ q.2, r.length ≤ 1000000) ∧ ∃ r', q.2[i]? = some r' ∧ r'.length = r.length) (fun q => ([(8, .one (.bx 1008 0)), (15, .one (.bx 1015 0)), (16, .one (.bx 1016 0)), (122, I x.n.length), (123, I i), (25, I i), (132, I r.length), (133, I q.1)],
        [(1008, some (Res.box ((memR m).map V.p))), (1015, some (Res.box ((memR m).map V.p))), (1016, some (Res.box [.ar 161, .ar 162])), (162, some (Res.vw [163] 2 (wRows x.n 0))), (163, some (Res.bag 1 (q.2.map (List.map intR))))])) (fun q => r.length - q.1) hC
      (0, L) ⟨Nat.zero_le _, hLl, hLs, r, hr', rfl⟩ id ⟨rfl, ⟨rfl, rfl, rfl, rfl, rfl, rfl, rfl, rfl, trivial⟩, ⟨rfl, rfl, rfl, rfl, rfl, trivial⟩, rfl, fun _ _ => rfl⟩ ?_
    clear hLl hLs hr' hlt'
    rintro ⟨k, L2⟩ ⟨hk', hLl, hLs, r', hr', hrr⟩
    simp only at hk' hLl hLs hr'
    have hlt' : i < L2.length := (List.getElem?_eq_some_iff.1 hr').1
    refine g_run' T hC true 200 rfl ?_
    refine g_cond rfl (fun hlt => ?_) (fun hlt => ?_)
    rotate_left
    · clear hlt
      repeat' first
        | refine g_go T hC true 400 rfl rfl ?_
        | refine g_cond rfl (fun h => ?_) (fun h => ?_)
        | refine g_end T hC (by kernel_rfl) ?_
        | refine g_splitD (fun h => ?_) (fun h => ?_)
        | refine g_splitG rfl rfl rfl (fun h => ?_) (fun h => ?_)
        | refine g_splitP rfl rfl (fun h => ?_) (fun h => ?_)
        | refine g_outE ?_
      rw [wrapS (by omega)]
      exact g_round (i + 1, L2) ⟨by simp only; omega, hLl, hLs⟩ id (by simp only; omega) ⟨rfl, ⟨rfl, rfl, rfl, rfl, rfl, trivial⟩, ⟨rfl, rfl, rfl, rfl, rfl, trivial⟩, rfl, fun _ _ => rfl⟩
    have hkl : k < r'.length := by have := of_decide_eq_true hlt; omega
    clear hlt
    repeat' first
      | refine g_go T hC true 400 rfl rfl ?_
      | refine g_cond rfl (fun h => ?_) (fun h => ?_)
      | refine g_end T hC (by kernel_rfl) ?_
      | refine g_splitD (fun h => ?_) (fun h => ?_)
      | refine g_splitG rfl rfl rfl (fun h => ?_) (fun h => ?_)
      | refine g_splitP rfl rfl (fun h => ?_) (fun h => ?_)
      | (refine g_idxW T hC rfl rfl rfl rfl (Int.natCast_nonneg _) (by rw [hwl]; omega) rfl rfl ?_)
      | (refine g_loadW T hC [.nv 163 i] rfl rfl rfl (wCell (by omega)) rfl rfl rfl ?_)
      | (refine g_idxB T hC rfl rfl rfl (bag_at hr') rfl (Int.natCast_nonneg _) (by rw [List.length_map]; omega) rfl rfl ?_)
      | (refine g_storeB T hC ((r'.set k (-5)).map intR) (us := [ki (-5)]) rfl rfl rfl rfl rfl rfl (bag_at hr') (by simp) (ints_two _) (by simp; omega) (int_store _ _ _) rfl ?_)
    rw [wrapS (by omega)]
    exact g_round (k + 1, L2.set i (r'.set k (-5))) ⟨by simp only; omega, by simp only [List.length_set]; exact hLl, fun q hq => (List.mem_or_eq_of_mem_set hq).elim (hLs q) (fun e => by subst e; rw [List.length_set]; omega), r'.set k (-5), by simp only; rw [List.getElem?_set_self hlt'], by rw [List.length_set]; exact hrr⟩ id (by simp only; omega) ⟨rfl, ⟨rfl, rfl, rfl, rfl, rfl, rfl, rfl, rfl, trivial⟩, ⟨rfl, rfl, rfl, rfl, by (rw [show (L2.set i (r'.set k (-5))).map (List.map intR) = (L2.map (List.map intR)).set i ((r'.set k (-5)).map intR) by rw [List.map_set]]; rfl), trivial⟩, rfl, fun _ _ => rfl⟩
end Hw.Z
