/- The engine and the contracts. -/
import Derived.Test.YtnijeifpjjeccaaGreatDoorC11
import Derived.Test.YtnijeifpjjeccaaGreatDoorC3
set_option linter.unusedVariables false
set_option linter.unusedSimpArgs false
namespace Hw.Mq
open Go Go.Proofs Go.Shelf Hw.M

/-! models: unions on rows of the run's own -/
/-- The rows of a grid of which the lo-th one lies outside the bag. -/
def grS (n lo : Nat) : List (List PC) := (List.range n).map fun j => [if j = lo then PC.a 1 else PC.n 0 j]
theorem grS_len (n lo : Nat) : (grS n lo).length = n := by rw [grS, List.length_map, List.length_range]
theorem grS_one (n lo : Nat) : ∀ r ∈ grS n lo, r.length = 1 := fun r hr => by obtain ⟨_, _, rfl⟩ := List.mem_map.1 hr; rfl
theorem grS_flat (n lo : Nat) : (grS n lo).flatten = (List.range n).map fun j => if j = lo then PC.a 1 else PC.n 0 j := by
  unfold grS
  induction List.range n with
  | nil => rfl
  | cons a l ih => simp only [List.map_cons, List.flatten_cons, ih]; rfl
theorem grS_get {n lo j : Nat} {x : PC} (h : (grS n lo).flatten[j]? = some x) : j < n ∧ x = if j = lo then PC.a 1 else PC.n 0 j := by
  rw [grS_flat, List.getElem?_map, Option.map_eq_some_iff] at h
  obtain ⟨q, hq, rfl⟩ := h
  have hlt := (List.getElem?_eq_some_iff.1 hq).1
  rw [List.length_range] at hlt
  rw [List.getElem?_range hlt] at hq
  obtain rfl := Option.some.inj hq
  exact ⟨hlt, rfl⟩
theorem grS_at {n lo j : Nat} (h : j < n) : (grS n lo).flatten[j]? = some (if j = lo then PC.a 1 else PC.n 0 j) := by
  rw [grS_flat, List.getElem?_map, List.getElem?_range h]; rfl
theorem rw_open (n lo : Nat) : RwR (OpF 1 110 111 lo) (vg 1 n) (.vw [110, 111] 1 (grS n lo)) := RwR.vw (by rw [grS_len, gr_len]) (grS_one _ _) fun j x' hj => by
  obtain ⟨hlt, rfl⟩ := grS_get hj
  refine ⟨_, gr_at hlt, ?_⟩
  by_cases h : j = lo
  · subst h; rw [if_pos rfl]; exact OpF.ar
  · rw [if_neg h]; exact OpF.nv h
theorem lend_open {R : Rws} {lo : Nat} {A : Rw} (ha : R[lo]? = some A) : LnV [(0, .vw [110, 111] 1 (grS R.length lo)), (110, .bag 1 ((R.map fun r => r.map intR).set lo [])), (111, .arr 1 (A.map intR))] (.ar 0) (.p (rowsP R)) :=
  LnV.vw (.head _) (by rw [List.length_map, grS_len]) (fun r hr => by obtain ⟨_, _, rfl⟩ := List.mem_map.1 hr; rfl) fun j x' hj => by
    have hfl : (R.map rowR).flatten = R.map intsP := by
      clear hj ha
      induction R with
      | nil => rfl
      | cons a l ih => simp only [List.map_cons, List.flatten_cons, ih]; rfl
    rw [hfl, List.getElem?_map, Option.map_eq_some_iff] at hj
    obtain ⟨r, hr, rfl⟩ := hj
    have hlt := (List.getElem?_eq_some_iff.1 hr).1
    refine ⟨_, grS_at hlt, ?_⟩
    by_cases h : j = lo
    · subst h
      rw [if_pos rfl]
      rw [ha] at hr
      obtain rfl := Option.some.inj hr
      exact LnV.ar (.tail _ (.tail _ (.head _)))
    · rw [if_neg h]
      exact LnV.nv (.tail _ (.head _)) (by rw [List.getElem?_set_ne (fun e => h e.symm)]; exact bg_at hr)
section
variable {P : Program} {C : Ctx} {k : List Frm} {n : Nat} {sl : Slots} {tab : Tab} {Q : Exit → St → Prop} {all : Array Oper} {rest : List Oper}
theorem g_idxO (T : Ty P) {d : Nat} {x y : Operand} {t : TypeId} {ty : TypeId} {ps : String} {af : Array Edge} {g0 : Option (Nat × Bool)} {gs : Slots} {md : Mode} (hC : C.low) {id : Nat} {ids : List Nat} {rows : List (List PC)} {el : TypeId} {z : Int} (i : Nat)
    (hx : ev sl x = some (.one (.ar id))) (hy : ev sl y = some (I z)) (hz : z = i) (hT : tg tab id = some (.vw ids 1 rows)) (he : T.es t = some (el, 1)) (hi : i < rows.length) (hm : metL all sl g0 = some gs) (hd : Nat.blt d n = true)
    (g : Goal P C (.ops all rest (nx md ⟨some d, gs ++ (rq x (.one (.ar id)) ++ rq y (I z)), [(id, .vw ids 1 rows)], [], .one (.el id i), []⟩)) k n ((d, .one (.el id i)) :: sl) tab Q) :
    Goal P C (.ops all (⟨some d, .indexAddr t x y, ty, ps, af, g0⟩ :: rest) md) k n sl tab Q := by
  subst hz
  refine g_idxW T hC hx hy hT he (Int.natCast_nonneg _) (by omega) hm hd ?_
  rw [Int.toNat_natCast, Nat.mul_one]
  exact g
end
theorem ld_lo {n lo i2 : Nat} (h : lo < n) : ∀ (j : Nat) v, [V.ar i2][j]? = some v → ∃ p, (grS n lo).flatten[lo + j]? = some p ∧ toV [110, i2] p = v := fun j v hj => by
  match j, hj with
  | 0, hj => exact ⟨_, grS_at h, by simp at hj; rw [← hj, Nat.add_zero, if_pos rfl]; rfl⟩
  | j + 1, hj => simp at hj
theorem ld_hi {n lo hi i2 : Nat} (h : hi < n) (hne : hi ≠ lo) : ∀ (j : Nat) v, [V.nv 110 hi][j]? = some v → ∃ p, (grS n lo).flatten[hi + j]? = some p ∧ toV [110, i2] p = v := fun j v hj => by
  match j, hj with
  | 0, hj => exact ⟨_, grS_at h, by simp at hj; rw [← hj, Nat.add_zero, if_neg hne]; rfl⟩
  | j + 1, hj => simp at hj
theorem st_lo {n lo : Nat} : ∀ (q : Nat) p, (grS n lo).flatten[q]? = some p → (lo ≤ q ∧ [V.ar 112][q - lo]? = some (toV [110, 112] p)) ∨ ((q < lo ∨ lo + [V.ar 112].length ≤ q) ∧ ∃ p0, (grS n lo).flatten[q]? = some p0 ∧ toV [110, 111] p0 = toV [110, 112] p) := fun q p hq => by
  obtain ⟨hlt, rfl⟩ := grS_get hq
  by_cases h : q = lo
  · subst h
    exact .inl ⟨Nat.le_refl _, by rw [Nat.sub_self, if_pos rfl]; rfl⟩
  · refine .inr ⟨by simp only [List.length_cons, List.length_nil]; omega, _, hq, ?_⟩
    rw [if_neg h]; rfl
theorem rw_take (n lo : Nat) : RwR (TkF 110 112 113 n) (.vw [110, 112] 1 (grS n lo)) (.vw [113] 1 (grJ ((List.range n).set lo n))) := RwR.vw (by rw [grS_len, grJ_len, List.length_set, List.length_range]) (grJ_one _) fun j x' hj => by
  rw [grJ_flat, List.getElem?_map, Option.map_eq_some_iff] at hj
  obtain ⟨q, hq, rfl⟩ := hj
  have hlt := (List.getElem?_eq_some_iff.1 hq).1
  rw [List.length_set, List.length_range] at hlt
  refine ⟨_, grS_at hlt, ?_⟩
  by_cases h : j = lo
  · subst h
    rw [List.getElem?_set_self (by rw [List.length_range]; exact hlt)] at hq
    obtain rfl := Option.some.inj hq
    rw [if_pos rfl]
    exact TkF.ar
  · rw [List.getElem?_set_ne (fun e => h e.symm), List.getElem?_range hlt] at hq
    obtain rfl := Option.some.inj hq
    rw [if_neg h]
    exact TkF.nv
theorem range_set_nodup (n lo : Nat) : ((List.range n).set lo n).Nodup := by
  rw [List.nodup_iff_pairwise_ne, List.pairwise_iff_getElem]
  intro i j hi hj hij
  rw [List.length_set, List.length_range] at hi hj
  rw [List.getElem_set, List.getElem_set]
  split <;> split <;> (try simp only [List.getElem_range]) <;> omega
theorem norm_at {L : List (List (List PV))} {lo : Nat} {M : List (List PV)} (hlo : lo < L.length) : ∀ (i q : Nat), ((List.range L.length).set lo L.length)[i]? = some q → q < (L.set lo [] ++ [M]).length ∧ (L.set lo M)[i]? = (L.set lo [] ++ [M])[q]? := fun i q hq => by
  have hlt := (List.getElem?_eq_some_iff.1 hq).1
  rw [List.length_set, List.length_range] at hlt
  by_cases h : i = lo
  · subst h
    rw [List.getElem?_set_self (by rw [List.length_range]; exact hlt)] at hq
    obtain rfl := Option.some.inj hq
    rw [List.getElem?_set_self hlt, List.getElem?_append_right (by rw [List.length_set]; exact Nat.le_refl _), List.length_set, Nat.sub_self]
    exact ⟨by simp, rfl⟩
  · rw [List.getElem?_set_ne (fun e => h e.symm), List.getElem?_range hlt] at hq
    obtain rfl := Option.some.inj hq
    rw [List.getElem?_set_ne (fun e => h e.symm), List.getElem?_append_left (by rw [List.length_set]; exact hlt), List.getElem?_set_ne (fun e => h e.symm)]
    exact ⟨by simp; omega, rfl⟩

theorem set2l (R : Rws) (hR : R.length ≤ 500) (x y : Int) (lo hi : Nat) (A B : Rw) (ha : R[lo]? = some A) (hb : R[hi]? = some B) (hlt : lo < hi) (hl : A.length + B.length ≤ 1000) (hA : FnOK Tryz.prog 81 [pS (rowsP R), I x] [] (I lo) []) (hB : FnOK Tryz.prog 81 [pS (rowsP R), I y] [] (I hi) []) :
    FnOK Tryz.prog 58 [.one (.ar 0), aggS [ki 2, intsP [x, y]]] [(0, vg 1 R.length), (1, bg R)] (.tup [.one (.ar 2), aggS (rsR (okR 1))]) [(2, vg 3 (R.length - 1)), (3, bg ((R.set lo (sortI (A ++ B))).eraseIdx hi))] := by
  have hN := result_ok 1
  have hhi : hi < R.length := (List.getElem?_eq_some_iff.1 hb).1
  have hAl : (A.map intR).length = A.length := List.length_map _
  have hBl : (B.map intR).length = B.length := List.length_map _
  have hLl : (R.map fun r => r.map intR).length = R.length := List.length_map _
  have hS := sort_ok (A ++ B) (by rw [List.length_append]; omega)
  have hsetl : (R.set lo (sortI (A ++ B))).length = R.length := List.length_set
  have hD := del_ok (R.set lo (sortI (A ++ B))) hi (by rw [hsetl]; exact hhi) (by rw [hsetl]; omega)
  rw [hsetl] at hD
  have hbh : ((R.map fun r => r.map intR).set lo [])[hi]? = some (B.map intR) := by rw [List.getElem?_set_ne (by omega)]; exact bg_at hb
  have hsl : ((R.map fun r => r.map intR).set lo []).length = R.length := by rw [List.length_set, hLl]
  have hjl : ((List.range R.length).set lo R.length).length = R.length := by rw [List.length_set, List.length_range]
  have hna : ∀ (i q : Nat), ((List.range R.length).set lo R.length)[i]? = some q → q < ((R.map fun r => r.map intR).set lo [] ++ [(sortI (A ++ B)).map intR]).length ∧ ((R.set lo (sortI (A ++ B))).map fun r => r.map intR)[i]? = ((R.map fun r => r.map intR).set lo [] ++ [(sortI (A ++ B)).map intR])[q]? := by
    have := norm_at (L := R.map fun r => r.map intR) (lo := lo) (M := (sortI (A ++ B)).map intR) (by omega)
    rw [hLl, bg_set] at this
    exact this
  refine fn_ok T Tryz.func58 (by kernel_rfl) rfl rfl rfl rfl fun C hC => ?_
  refine g_open hC rfl 1 110 111 lo (e := 1) (rs := A.map intR) rfl (bg_at ha) rfl rfl rfl [] trivial [(0, .vw [110, 111] 1 (grS R.length lo))] ⟨⟨_, rfl, rfl, rw_open _ _⟩, trivial⟩ ?_
  repeat' first
    | refine g_go T hC true 400 rfl rfl ?_
    | (exfalso; first | (simp only [decide_eq_true_eq, decide_eq_false_iff_not, List.length_map, Bool.not_eq_true', Bool.not_eq_false'] at *; omega) | (simp at h; done))
    | refine g_cond rfl (fun h => ?_) (fun h => ?_)
    | refine g_end T hC (by kernel_rfl) ?_
    | refine g_splitD (fun h => ?_) (fun h => ?_)
    | refine g_splitG rfl rfl rfl (fun h => ?_) (fun h => ?_)
    | refine g_splitP rfl rfl (fun h => ?_) (fun h => ?_)
    | refine g_idx T hC rfl rfl rfl (by decide) rfl rfl rfl ?_
    | refine g_callN hC hA [(0, .vw [110, 111] 1 (grS R.length lo)), (110, .bag 1 ((R.map fun r => r.map intR).set lo [])), (111, .arr 1 (A.map intR))] rfl rfl (LnSs.cons (LnS.one (lend_open ha)) (LnSs.refl _)) rfl rfl rfl rfl ?_
    | refine g_callN hC hB [(0, .vw [110, 111] 1 (grS R.length lo)), (110, .bag 1 ((R.map fun r => r.map intR).set lo [])), (111, .arr 1 (A.map intR))] rfl rfl (LnSs.cons (LnS.one (lend_open ha)) (LnSs.refl _)) rfl rfl rfl rfl ?_
    | (refine g_idxO T hC lo rfl rfl rfl rfl rfl (by rw [grS_len]; omega) rfl rfl ?_; refine g_loadW T hC [.ar 111] rfl rfl rfl (ld_lo (by omega)) rfl rfl rfl ?_)
    | (refine g_idxO T hC hi rfl rfl rfl rfl rfl (by rw [grS_len]; omega) rfl rfl ?_; refine g_loadW T hC [.nv 110 hi] rfl rfl rfl (ld_hi hhi (by omega)) rfl rfl rfl ?_)
    | (refine g_idxO T hC lo rfl rfl rfl rfl rfl (by rw [grS_len]; omega) rfl rfl ?_; refine g_loadW T hC [.ar 112] rfl rfl rfl (ld_lo (by omega)) rfl rfl rfl ?_)
    | refine g_append T 112 hC (id := 111) (rows := A.map intR) (rows2 := B.map intR) (rows3 := (A ++ B).map intR) (bytes := 8) rfl rfl rfl rfl (SrcS.nv (T.es_ok _ _ rfl) hbh (fun r hr => by obtain ⟨_, _, rfl⟩ := List.mem_map.1 hr; rfl)) (List.map_append).symm rfl rfl rfl (by kernel_rfl) (by omega) (by omega) rfl rfl rfl ?_
    | (refine g_idxO T hC lo rfl rfl rfl rfl rfl (by rw [grS_len]; omega) rfl rfl ?_; refine g_storeW T hC (us := [.ar 112]) (grS R.length lo) [110, 112] rfl rfl rfl rfl rfl rfl rfl (grS_one _ _) (by rw [grS_len]; simp only [List.length_cons, List.length_nil]; omega) st_lo rfl ?_)
    | refine g_callR hC hS (nm [112]) rfl rfl (LeSs.refl _) rfl rfl rfl rfl rfl rfl rfl rfl ?_
    | (rw [wrapS (by omega)]; refine g_take hC rfl 110 112 113 (e := 1) (L := (R.map fun r => r.map intR).set lo []) (rs := (sortI (A ++ B)).map intR) rfl rfl rfl rfl [] trivial [(0, .vw [113] 1 (grJ ((List.range R.length).set lo R.length)))] ⟨⟨_, rfl, rfl, by rw [hsl]; exact rw_take _ _⟩, trivial⟩ ?_; refine g_norm hC rfl 0 113 114 ((List.range R.length).set lo R.length) (e := 1) (L := (R.map fun r => r.map intR).set lo [] ++ [(sortI (A ++ B)).map intR]) ((R.set lo (sortI (A ++ B))).map fun r => r.map intR) rfl rfl (range_set_nodup _ _) (by rw [List.length_map, hsetl, hjl]) hna rfl rfl ?_; rw [hjl]; refine g_callR hC hD (nm [0, 114, 122, 123]) rfl rfl (LeSs.refl _) rfl rfl rfl rfl rfl rfl rfl rfl ?_)
    | refine g_call hC (hN) rfl rfl (LeSs.refl _) rfl rfl rfl ?_
  exact g_fin ⟨.inl rfl, nm [0, 1, 122, 123], _, rfl, .refl _, ⟨rfl, rfl, trivial⟩, rfl, rfl⟩

theorem set2g (R : Rws) (hR : R.length ≤ 500) (x y : Int) (lo hi : Nat) (A B : Rw) (ha : R[lo]? = some A) (hb : R[hi]? = some B) (hlt : lo < hi) (hl : A.length + B.length ≤ 1000) (hA : FnOK Tryz.prog 81 [pS (rowsP R), I x] [] (I hi) []) (hB : FnOK Tryz.prog 81 [pS (rowsP R), I y] [] (I lo) []) :
    FnOK Tryz.prog 58 [.one (.ar 0), aggS [ki 2, intsP [x, y]]] [(0, vg 1 R.length), (1, bg R)] (.tup [.one (.ar 2), aggS (rsR (okR 1))]) [(2, vg 3 (R.length - 1)), (3, bg ((R.set lo (sortI (A ++ B))).eraseIdx hi))] := by
  have hN := result_ok 1
  have hhi : hi < R.length := (List.getElem?_eq_some_iff.1 hb).1
  have hAl : (A.map intR).length = A.length := List.length_map _
  have hBl : (B.map intR).length = B.length := List.length_map _
  have hLl : (R.map fun r => r.map intR).length = R.length := List.length_map _
  have hS := sort_ok (A ++ B) (by rw [List.length_append]; omega)
  have hsetl : (R.set lo (sortI (A ++ B))).length = R.length := List.length_set
  have hD := del_ok (R.set lo (sortI (A ++ B))) hi (by rw [hsetl]; exact hhi) (by rw [hsetl]; omega)
  rw [hsetl] at hD
  have hbh : ((R.map fun r => r.map intR).set lo [])[hi]? = some (B.map intR) := by rw [List.getElem?_set_ne (by omega)]; exact bg_at hb
  have hsl : ((R.map fun r => r.map intR).set lo []).length = R.length := by rw [List.length_set, hLl]
  have hjl : ((List.range R.length).set lo R.length).length = R.length := by rw [List.length_set, List.length_range]
  have hna : ∀ (i q : Nat), ((List.range R.length).set lo R.length)[i]? = some q → q < ((R.map fun r => r.map intR).set lo [] ++ [(sortI (A ++ B)).map intR]).length ∧ ((R.set lo (sortI (A ++ B))).map fun r => r.map intR)[i]? = ((R.map fun r => r.map intR).set lo [] ++ [(sortI (A ++ B)).map intR])[q]? := by
    have := norm_at (L := R.map fun r => r.map intR) (lo := lo) (M := (sortI (A ++ B)).map intR) (by omega)
    rw [hLl, bg_set] at this
    exact this
  refine fn_ok T Tryz.func58 (by kernel_rfl) rfl rfl rfl rfl fun C hC => ?_
  refine g_open hC rfl 1 110 111 lo (e := 1) (rs := A.map intR) rfl (bg_at ha) rfl rfl rfl [] trivial [(0, .vw [110, 111] 1 (grS R.length lo))] ⟨⟨_, rfl, rfl, rw_open _ _⟩, trivial⟩ ?_
  repeat' first
    | refine g_go T hC true 400 rfl rfl ?_
    | (exfalso; first | (simp only [decide_eq_true_eq, decide_eq_false_iff_not, List.length_map, Bool.not_eq_true', Bool.not_eq_false'] at *; omega) | (simp at h; done))
    | refine g_cond rfl (fun h => ?_) (fun h => ?_)
    | refine g_end T hC (by kernel_rfl) ?_
    | refine g_splitD (fun h => ?_) (fun h => ?_)
    | refine g_splitG rfl rfl rfl (fun h => ?_) (fun h => ?_)
    | refine g_splitP rfl rfl (fun h => ?_) (fun h => ?_)
    | refine g_idx T hC rfl rfl rfl (by decide) rfl rfl rfl ?_
    | refine g_callN hC hA [(0, .vw [110, 111] 1 (grS R.length lo)), (110, .bag 1 ((R.map fun r => r.map intR).set lo [])), (111, .arr 1 (A.map intR))] rfl rfl (LnSs.cons (LnS.one (lend_open ha)) (LnSs.refl _)) rfl rfl rfl rfl ?_
    | refine g_callN hC hB [(0, .vw [110, 111] 1 (grS R.length lo)), (110, .bag 1 ((R.map fun r => r.map intR).set lo [])), (111, .arr 1 (A.map intR))] rfl rfl (LnSs.cons (LnS.one (lend_open ha)) (LnSs.refl _)) rfl rfl rfl rfl ?_
    | (refine g_idxO T hC lo rfl rfl rfl rfl rfl (by rw [grS_len]; omega) rfl rfl ?_; refine g_loadW T hC [.ar 111] rfl rfl rfl (ld_lo (by omega)) rfl rfl rfl ?_)
    | (refine g_idxO T hC hi rfl rfl rfl rfl rfl (by rw [grS_len]; omega) rfl rfl ?_; refine g_loadW T hC [.nv 110 hi] rfl rfl rfl (ld_hi hhi (by omega)) rfl rfl rfl ?_)
    | (refine g_idxO T hC lo rfl rfl rfl rfl rfl (by rw [grS_len]; omega) rfl rfl ?_; refine g_loadW T hC [.ar 112] rfl rfl rfl (ld_lo (by omega)) rfl rfl rfl ?_)
    | refine g_append T 112 hC (id := 111) (rows := A.map intR) (rows2 := B.map intR) (rows3 := (A ++ B).map intR) (bytes := 8) rfl rfl rfl rfl (SrcS.nv (T.es_ok _ _ rfl) hbh (fun r hr => by obtain ⟨_, _, rfl⟩ := List.mem_map.1 hr; rfl)) (List.map_append).symm rfl rfl rfl (by kernel_rfl) (by omega) (by omega) rfl rfl rfl ?_
    | (refine g_idxO T hC lo rfl rfl rfl rfl rfl (by rw [grS_len]; omega) rfl rfl ?_; refine g_storeW T hC (us := [.ar 112]) (grS R.length lo) [110, 112] rfl rfl rfl rfl rfl rfl rfl (grS_one _ _) (by rw [grS_len]; simp only [List.length_cons, List.length_nil]; omega) st_lo rfl ?_)
    | refine g_callR hC hS (nm [112]) rfl rfl (LeSs.refl _) rfl rfl rfl rfl rfl rfl rfl rfl ?_
    | (rw [wrapS (by omega)]; refine g_take hC rfl 110 112 113 (e := 1) (L := (R.map fun r => r.map intR).set lo []) (rs := (sortI (A ++ B)).map intR) rfl rfl rfl rfl [] trivial [(0, .vw [113] 1 (grJ ((List.range R.length).set lo R.length)))] ⟨⟨_, rfl, rfl, by rw [hsl]; exact rw_take _ _⟩, trivial⟩ ?_; refine g_norm hC rfl 0 113 114 ((List.range R.length).set lo R.length) (e := 1) (L := (R.map fun r => r.map intR).set lo [] ++ [(sortI (A ++ B)).map intR]) ((R.set lo (sortI (A ++ B))).map fun r => r.map intR) rfl rfl (range_set_nodup _ _) (by rw [List.length_map, hsetl, hjl]) hna rfl rfl ?_; rw [hjl]; refine g_callR hC hD (nm [0, 114, 122, 123]) rfl rfl (LeSs.refl _) rfl rfl rfl rfl rfl rfl rfl rfl ?_)
    | refine g_call hC (hN) rfl rfl (LeSs.refl _) rfl rfl rfl ?_
  exact g_fin ⟨.inl rfl, nm [0, 1, 122, 123], _, rfl, .refl _, ⟨rfl, rfl, trivial⟩, rfl, rfl⟩

end Hw.Mq
namespace Hw.Mq
open Go Go.Proofs Go.Shelf Hw.M

/-! models: texts on rows of the run's own -/
theorem rw_open2 (n lo : Nat) : RwR (OpF 1 110 112 lo) (vg 1 n) (.vw [110, 112] 1 (grS n lo)) := RwR.vw (by rw [grS_len, gr_len]) (grS_one _ _) fun j x' hj => by
  obtain ⟨hlt, rfl⟩ := grS_get hj
  refine ⟨_, gr_at hlt, ?_⟩
  by_cases h : j = lo
  · subst h; rw [if_pos rfl]; exact OpF.ar
  · rw [if_neg h]; exact OpF.nv h
section
variable {P : Program} {C : Ctx} {k : List Frm} {n : Nat} {sl : Slots} {tab : Tab} {Q : Exit → St → Prop} {all : Array Oper} {rest : List Oper}
theorem g_lenO (T : Ty P) {d : Nat} {x : Operand} {t : TypeId} {ty : TypeId} {ps : String} {af : Array Edge} {g0 : Option (Nat × Bool)} {gs : Slots} {md : Mode} (hC : C.low) {id e : Nat} {rows : List (List PC)} {ids : List Nat} {el : TypeId} {m : Nat} (r : Nat) (hr : rows.length = r)
    (hx : ev sl x = some (.one (.ar id))) (hT : tg tab id = some (.vw ids e rows)) (he : T.es t = some (el, m)) (hm : metL all sl g0 = some gs) (hd : Nat.blt d n = true)
    (g : Goal P C (.ops all rest (nx md ⟨some d, gs ++ rq x (.one (.ar id)), [(id, .vw ids e rows)], [], I r, []⟩)) k n ((d, I r) :: sl) tab Q) :
    Goal P C (.ops all (⟨some d, .call ⟨.builtin .len, #[x], #[t]⟩, ty, ps, af, g0⟩ :: rest) md) k n sl tab Q := by
  subst hr
  exact g_lenW T hC hx hT he hm hd g
end
/-- The first of some places, or -1. -/
def hdI (l : List Nat) : Int := match l.head? with
  | some i => i
  | none => -1
theorem hdI_snoc (l : List Nat) (i : Nat) : hdI (l ++ [i]) = if hdI l < 0 then (i : Int) else hdI l := by
  cases l with
  | nil => simp [hdI]
  | cons a l => simp [hdI] <;> omega
theorem hdI_nonneg {l : List Nat} : hdI l < 0 ↔ l = [] := by
  cases l with
  | nil => simp [hdI]
  | cons a l => simp [hdI] <;> omega
theorem hdI_le {l : List Nat} {n : Nat} (h : ∀ x ∈ l, x < n) : hdI l < n := by
  cases l with
  | nil => simp [hdI]; omega
  | cons a l => have := h a (by simp); simp [hdI]; omega
def occT (l p : List Int) (i : Nat) : List Nat := (List.range i).filter (occL l p)
theorem occT_yes {l p : List Int} {i : Nat} (h : occL l p i = true) : occT l p (i + 1) = occT l p i ++ [i] := by
  simp [occT, List.range_succ, List.filter_append, h]
theorem occT_no {l p : List Int} {i : Nat} (h : occL l p i = false) : occT l p (i + 1) = occT l p i := by
  simp [occT, List.range_succ, List.filter_append, h]
theorem occT_len (l p : List Int) (i : Nat) : (occT l p i).length ≤ i := by
  have := List.length_filter_le (occL l p) (List.range i)
  rw [List.length_range] at this; exact this
theorem occT_lt {l p : List Int} {i x : Nat} (h : x ∈ occT l p i) : x < i := List.mem_range.1 (List.mem_filter.1 h).1
/-- Where no room is left, nothing occurs. -/
theorem occL_room {l p : List Int} {j : Nat} (hp : 1 ≤ p.length) (h : l.length < j + p.length) : occL l p j = false := by
  unfold occL
  refine decide_eq_false fun e => ?_
  have := congrArg List.length e
  rw [List.length_take, List.length_drop] at this
  omega
theorem occT_all {l p : List Int} {i : Nat} (hp : 1 ≤ p.length) (hi : i ≤ l.length) (h : l.length < i + p.length) : occT l p i = occs l p := by
  unfold occT occs
  obtain ⟨m, hm⟩ : ∃ m, l.length = i + m := ⟨l.length - i, by omega⟩
  rw [hm, List.range_add, List.filter_append]
  have : ((List.range m).map (i + ·)).filter (occL l p) = [] := by
    rw [List.filter_eq_nil_iff]
    intro a ha
    obtain ⟨b, _, rfl⟩ := List.mem_map.1 ha
    rw [occL_room hp (by omega)]
    exact Bool.false_ne_true
  rw [this, List.append_nil]

theorem text4n  : FnOK Tryz.prog 60 [.one (.ar 0), aggS [ki 4, intsP []]] [(0, vg 1 0), (1, bg [])] (.tup [.one (.ar 2), aggS (rsR (okR 0))]) [(2, vg 3 0), (3, bg [])] := by
  have hN := result_ok 0
  refine fn_ok T Tryz.func60 (by kernel_rfl) rfl rfl rfl rfl fun C hC => ?_
  repeat' first
    | refine g_go T hC true 400 rfl rfl ?_
    | (exfalso; first | (simp only [decide_eq_true_eq, decide_eq_false_iff_not, List.length_map, Bool.not_eq_true', Bool.not_eq_false'] at *; omega) | (simp at h; done))
    | refine g_cond rfl (fun h => ?_) (fun h => ?_)
    | refine g_end T hC (by kernel_rfl) ?_
    | refine g_splitD (fun h => ?_) (fun h => ?_)
    | refine g_splitG rfl rfl rfl (fun h => ?_) (fun h => ?_)
    | refine g_splitP rfl rfl (fun h => ?_) (fun h => ?_)
    | refine g_lenG T hC rfl rfl rfl rfl rfl rfl ?_
    | refine g_call hC (hN) rfl rfl (LeSs.refl _) rfl rfl rfl ?_
  all_goals exact g_fin ⟨.inl rfl, nm [0, 1, 0, 1], _, rfl, .refl _, ⟨rfl, rfl, trivial⟩, rfl, rfl⟩

theorem text4 (r : Rw) (hr : 1 ≤ r.length ∧ r.length ≤ 500)  : FnOK Tryz.prog 60 [.one (.ar 0), aggS [ki 4, intsP []]] [(0, vg 1 1), (1, bg [r])] (.tup [.one (.ar 2), aggS (rsR (okR r.length))]) [(2, vg 3 1), (3, bg [r])] := by
  have hN := result_ok r.length
  refine fn_ok T Tryz.func60 (by kernel_rfl) rfl rfl rfl rfl fun C hC => ?_
  repeat' first
    | refine g_go T hC true 400 rfl rfl ?_
    | (exfalso; first | (simp only [decide_eq_true_eq, decide_eq_false_iff_not, List.length_map, Bool.not_eq_true', Bool.not_eq_false'] at *; omega) | (simp at h; done))
    | refine g_cond rfl (fun h => ?_) (fun h => ?_)
    | refine g_end T hC (by kernel_rfl) ?_
    | refine g_splitD (fun h => ?_) (fun h => ?_)
    | refine g_splitG rfl rfl rfl (fun h => ?_) (fun h => ?_)
    | refine g_splitP rfl rfl (fun h => ?_) (fun h => ?_)
    | refine g_lenG T hC rfl rfl rfl rfl rfl rfl ?_
    | (refine g_idxR T hC 0 rfl rfl rfl rfl rfl (by decide) rfl rfl ?_; refine g_loadR T hC rfl rfl rfl (by decide) rfl rfl ?_)
    | refine g_lenC T hC (R := [r]) (r := r) rfl rfl rfl rfl rfl rfl ?_
    | refine g_call hC (hN) rfl rfl (LeSs.refl _) rfl rfl rfl ?_
  all_goals exact g_fin ⟨.inl rfl, nm [0, 1, 0, 1], _, rfl, .refl _, ⟨rfl, rfl, trivial⟩, rfl, rfl⟩

theorem text1f (r : Rw) (hr : 1 ≤ r.length ∧ r.length ≤ 500) (p : List Int) (hp : 1 ≤ p.length ∧ p.length ≤ 64) (h5 : 500 < r.length + p.length) : FnOK Tryz.prog 60 [.one (.ar 0), aggS [ki 1, intsP p]] [(0, vg 1 1), (1, bg [r])] (.tup [.one (.ar 2), aggS (rsR (erR 4))]) [(2, vg 3 1), (3, bg [r])] := by
  have hpl : (p.map intR).length = p.length := List.length_map _
  have wr : ∀ x y : Nat, x ≤ 1000 → y ≤ 1000 → IntKind.i64.wrap ((x : Int) + (y : Int)) = ((x + y : Nat) : Int) := fun x y _ _ => by rw [wrap64 (by omega)]; omega
  have hN := failed_ok 4
  have wr1 : IntKind.i64.wrap ((r.length : Int) + ((p.map intR).length : Int)) = ((r.length + p.length : Nat) : Int) := by rw [hpl]; exact wr _ _ (by omega) (by omega)
  refine fn_ok T Tryz.func60 (by kernel_rfl) rfl rfl rfl rfl fun C hC => ?_
  repeat' first
    | refine g_go T hC true 400 rfl rfl ?_
    | (exfalso; first | (simp only [decide_eq_true_eq, decide_eq_false_iff_not, List.length_map, Bool.not_eq_true', Bool.not_eq_false'] at *; omega) | (simp at h; done))
    | (exfalso; simp only [wr1, decide_eq_true_eq, decide_eq_false_iff_not] at h; omega)
    | refine g_cond rfl (fun h => ?_) (fun h => ?_)
    | refine g_end T hC (by kernel_rfl) ?_
    | refine g_splitD (fun h => ?_) (fun h => ?_)
    | refine g_splitG rfl rfl rfl (fun h => ?_) (fun h => ?_)
    | refine g_splitP rfl rfl (fun h => ?_) (fun h => ?_)
    | refine g_lenG T hC rfl rfl rfl rfl rfl rfl ?_
    | (refine g_idxR T hC 0 rfl rfl rfl rfl rfl (by decide) rfl rfl ?_; refine g_loadR T hC rfl rfl rfl (by decide) rfl rfl ?_)
    | refine g_lenC T hC (R := [r]) (r := r) rfl rfl rfl rfl rfl rfl ?_
    | refine g_call hC (hN) rfl rfl (LeSs.refl _) rfl rfl rfl ?_
  all_goals exact g_fin ⟨.inl rfl, nm [0, 1, 0, 1], _, rfl, .refl _, ⟨rfl, rfl, trivial⟩, rfl, rfl⟩

theorem text1n (p : List Int) (hp : 1 ≤ p.length ∧ p.length ≤ 64) : FnOK Tryz.prog 60 [.one (.ar 0), aggS [ki 1, intsP p]] [(0, vg 1 0), (1, bg [])] (.tup [.one (.ar 2), aggS (rsR (okR 0))]) [(2, vg 3 1), (3, bg [p])] := by
  have hpl : (p.map intR).length = p.length := List.length_map _
  have wr : ∀ x y : Nat, x ≤ 1000 → y ≤ 1000 → IntKind.i64.wrap ((x : Int) + (y : Int)) = ((x + y : Nat) : Int) := fun x y _ _ => by rw [wrap64 (by omega)]; omega
  have hrl : ([] : List (List PV)).length = 0 := rfl
  have hN := result_ok 0
  have wr0 : IntKind.i64.wrap (0 + ((p.map intR).length : Int)) = (p.length : Int) := by rw [hpl, wrap64 (by omega)]; omega
  refine fn_ok T Tryz.func60 (by kernel_rfl) rfl rfl rfl rfl fun C hC => ?_
  repeat' first
    | refine g_go T hC true 400 rfl rfl ?_
    | (exfalso; first | (simp only [decide_eq_true_eq, decide_eq_false_iff_not, List.length_map, Bool.not_eq_true', Bool.not_eq_false'] at *; omega) | (simp at h; done))
    | (exfalso; simp only [wr0, decide_eq_true_eq] at h; omega)
    | refine g_cond rfl (fun h => ?_) (fun h => ?_)
    | refine g_end T hC (by kernel_rfl) ?_
    | refine g_splitD (fun h => ?_) (fun h => ?_)
    | refine g_splitG rfl rfl rfl (fun h => ?_) (fun h => ?_)
    | refine g_splitP rfl rfl (fun h => ?_) (fun h => ?_)
    | refine g_lenG T hC rfl rfl rfl rfl rfl rfl ?_
    | (refine g_adopt hC rfl 103 1 rfl [(35, .one (.ar 103))] ⟨⟨_, rfl, AdS.nil⟩, trivial⟩ [] trivial ?_; refine g_append T 115 hC (id := 103) (rows := []) (rows2 := p.map intR) (rows3 := p.map intR) (bytes := 8) rfl rfl rfl rfl (SrcS.sl (T.es_ok _ _ rfl)) rfl rfl rfl rfl (by kernel_rfl) (by simp only [List.length_nil, hpl, hrl]; omega) (by simp only [List.length_nil, hpl, hrl]; omega) rfl rfl rfl ?_)
    | (refine g_bag hC rfl 120 1 rfl ?_; refine g_take hC rfl 120 115 121 (e := 1) (L := []) rfl rfl rfl rfl [(38, .one (.nv 121 0))] ⟨⟨_, rfl, RwS.one TkF.ar⟩, trivial⟩ [] trivial ?_; refine g_litW T hC [PC.n 0 0] [121] rfl rfl rfl rfl rfl rfl rfl rfl rfl rfl rfl rfl ?_)
    | refine g_call hC (hN) rfl rfl (LeSs.refl _) rfl rfl rfl ?_
  all_goals exact g_fin ⟨.inl rfl, nm [0, 1, 1039, 121], _, rfl, .refl _, ⟨rfl, rfl, trivial⟩, rfl, rfl⟩

theorem text1 (r : Rw) (hr : 1 ≤ r.length ∧ r.length ≤ 500) (p : List Int) (hp : 1 ≤ p.length ∧ p.length ≤ 64) (h5 : r.length + p.length ≤ 500) : FnOK Tryz.prog 60 [.one (.ar 0), aggS [ki 1, intsP p]] [(0, vg 1 1), (1, bg [r])] (.tup [.one (.ar 2), aggS (rsR (okR 0))]) [(2, vg 3 1), (3, bg [r ++ p])] := by
  have hpl : (p.map intR).length = p.length := List.length_map _
  have wr : ∀ x y : Nat, x ≤ 1000 → y ≤ 1000 → IntKind.i64.wrap ((x : Int) + (y : Int)) = ((x + y : Nat) : Int) := fun x y _ _ => by rw [wrap64 (by omega)]; omega
  have hrl : (r.map intR).length = r.length := List.length_map _
  have hN := result_ok 0
  have wr1 : IntKind.i64.wrap (((r.map intR).length : Int) + ((p.map intR).length : Int)) = ((r.length + p.length : Nat) : Int) := by rw [hpl, hrl]; exact wr _ _ (by omega) (by omega)
  refine fn_ok T Tryz.func60 (by kernel_rfl) rfl rfl rfl rfl fun C hC => ?_
  refine g_open hC rfl 1 110 112 0 (e := 1) (rs := r.map intR) rfl rfl rfl rfl rfl [] trivial [(0, .vw [110, 112] 1 (grS 1 0))] ⟨⟨_, rfl, rfl, rw_open2 1 0⟩, trivial⟩ ?_
  repeat' first
    | refine g_go T hC true 400 rfl rfl ?_
    | (exfalso; first | (simp only [decide_eq_true_eq, decide_eq_false_iff_not, List.length_map, Bool.not_eq_true', Bool.not_eq_false'] at *; omega) | (simp at h; done))
    | (exfalso; simp only [wr1, decide_eq_true_eq] at h; omega)
    | refine g_cond rfl (fun h => ?_) (fun h => ?_)
    | refine g_end T hC (by kernel_rfl) ?_
    | refine g_splitD (fun h => ?_) (fun h => ?_)
    | refine g_splitG rfl rfl rfl (fun h => ?_) (fun h => ?_)
    | refine g_splitP rfl rfl (fun h => ?_) (fun h => ?_)
    | refine g_lenO T hC 1 (grS_len 1 0) rfl rfl rfl rfl rfl ?_
    | (refine g_idxO T hC 0 rfl rfl rfl rfl rfl (by rw [grS_len]; decide) rfl rfl ?_; refine g_loadW T hC [.ar 112] rfl rfl rfl (ld_lo (by decide)) rfl rfl rfl ?_)
    | refine g_append T 115 hC (id := 112) (rows := r.map intR) (rows2 := p.map intR) (rows3 := (r ++ p).map intR) (bytes := 8) rfl rfl rfl rfl (SrcS.sl (T.es_ok _ _ rfl)) (List.map_append).symm rfl rfl rfl (by kernel_rfl) (by simp only [List.length_nil, hpl, hrl]; omega) (by simp only [List.length_nil, hpl, hrl]; omega) rfl rfl rfl ?_
    | (refine g_bag hC rfl 120 1 rfl ?_; refine g_take hC rfl 120 115 121 (e := 1) (L := []) rfl rfl rfl rfl [(38, .one (.nv 121 0))] ⟨⟨_, rfl, RwS.one TkF.ar⟩, trivial⟩ [] trivial ?_; refine g_litW T hC [PC.n 0 0] [121] rfl rfl rfl rfl rfl rfl rfl rfl rfl rfl rfl rfl ?_)
    | refine g_call hC (hN) rfl rfl (LeSs.refl _) rfl rfl rfl ?_
  all_goals exact g_fin ⟨.inl rfl, nm [0, 1, 1039, 121], _, rfl, .refl _, ⟨rfl, rfl, trivial⟩, rfl, rfl⟩

theorem text2n (p : List Int) (hp : 1 ≤ p.length ∧ p.length ≤ 64) : FnOK Tryz.prog 60 [.one (.ar 0), aggS [ki 2, intsP p]] [(0, vg 1 0), (1, bg [])] (.tup [.one (.ar 2), aggS (rsR (okR 0))]) [(2, vg 3 0), (3, bg [])] := by
  have hpl : (p.map intR).length = p.length := List.length_map _
  have wr : ∀ x y : Nat, x ≤ 1000 → y ≤ 1000 → IntKind.i64.wrap ((x : Int) + (y : Int)) = ((x + y : Nat) : Int) := fun x y _ _ => by rw [wrap64 (by omega)]; omega
  have hN := result_ok 0
  have wr0 : IntKind.i64.wrap (0 + ((p.map intR).length : Int)) = (p.length : Int) := by rw [hpl, wrap64 (by omega)]; omega
  refine fn_ok T Tryz.func60 (by kernel_rfl) rfl rfl rfl rfl fun C hC => ?_
  repeat' first
    | refine g_go T hC true 400 rfl rfl ?_
    | (exfalso; first | (simp only [decide_eq_true_eq, decide_eq_false_iff_not, List.length_map, Bool.not_eq_true', Bool.not_eq_false'] at *; omega) | (simp at h; done))
    | refine g_cond rfl (fun h => ?_) (fun h => ?_)
    | refine g_end T hC (by kernel_rfl) ?_
    | refine g_splitD (fun h => ?_) (fun h => ?_)
    | refine g_splitG rfl rfl rfl (fun h => ?_) (fun h => ?_)
    | refine g_splitP rfl rfl (fun h => ?_) (fun h => ?_)
    | refine g_lenG T hC rfl rfl rfl rfl rfl rfl ?_
  refine g_loop (fun _ : Unit => True) (fun _ => ([(0, .one (.ar 0)), (3, .one (.bx 1003 0)), (5, .one (.bx 1005 0)), (6, .one (.p (.k (.slice none 0 0)))), (7, I (-1)), (8, I 0), (9, I 0)], [(0, some (vg 1 0)), (1, some (bg [])), (1003, some (.box [.p (ki 2), .p (intsP p)])), (1005, some (.box [.p (ki 0), .p (ki 0), .p (.k (.slice none 0 0))]))])) (fun _ => 0) hC
    () trivial id ⟨rfl, ⟨rfl, rfl, rfl, rfl, rfl, rfl, rfl, trivial⟩, ⟨rfl, rfl, rfl, rfl, trivial⟩, rfl, fun _ _ => rfl⟩ ?_
  intro u _
  refine g_run' T hC true 200 rfl ?_
  refine g_cond rfl (fun h => ?_) (fun h => ?_)
  · exfalso; rw [wr0] at h; have := of_decide_eq_true h; omega
  · repeat' first
      | refine g_go T hC true 400 rfl rfl ?_
      | (exfalso; first | (simp only [decide_eq_true_eq, decide_eq_false_iff_not, List.length_map, Bool.not_eq_true', Bool.not_eq_false'] at *; omega) | (simp at h; done))
      | refine g_cond rfl (fun h => ?_) (fun h => ?_)
      | refine g_end T hC (by kernel_rfl) ?_
      | refine g_splitD (fun h => ?_) (fun h => ?_)
      | refine g_splitG rfl rfl rfl (fun h => ?_) (fun h => ?_)
      | refine g_splitP rfl rfl (fun h => ?_) (fun h => ?_)
      | refine g_outE ?_
      | refine g_call hC (hN) rfl rfl (LeSs.refl _) rfl rfl rfl ?_
    all_goals exact g_fin ⟨.inl rfl, nm [0, 1, 0, 1], _, rfl, .refl _, ⟨rfl, rfl, trivial⟩, rfl, rfl⟩

theorem text3n (p : List Int) (hp : 1 ≤ p.length ∧ p.length ≤ 64) : FnOK Tryz.prog 60 [.one (.ar 0), aggS [ki 3, intsP p]] [(0, vg 1 0), (1, bg [])] (.tup [.one (.ar 2), aggS (rsR (erR 12))]) [(2, vg 3 0), (3, bg [])] := by
  have hpl : (p.map intR).length = p.length := List.length_map _
  have wr : ∀ x y : Nat, x ≤ 1000 → y ≤ 1000 → IntKind.i64.wrap ((x : Int) + (y : Int)) = ((x + y : Nat) : Int) := fun x y _ _ => by rw [wrap64 (by omega)]; omega
  have hN := failed_ok 12
  have wr0 : IntKind.i64.wrap (0 + ((p.map intR).length : Int)) = (p.length : Int) := by rw [hpl, wrap64 (by omega)]; omega
  refine fn_ok T Tryz.func60 (by kernel_rfl) rfl rfl rfl rfl fun C hC => ?_
  repeat' first
    | refine g_go T hC true 400 rfl rfl ?_
    | (exfalso; first | (simp only [decide_eq_true_eq, decide_eq_false_iff_not, List.length_map, Bool.not_eq_true', Bool.not_eq_false'] at *; omega) | (simp at h; done))
    | refine g_cond rfl (fun h => ?_) (fun h => ?_)
    | refine g_end T hC (by kernel_rfl) ?_
    | refine g_splitD (fun h => ?_) (fun h => ?_)
    | refine g_splitG rfl rfl rfl (fun h => ?_) (fun h => ?_)
    | refine g_splitP rfl rfl (fun h => ?_) (fun h => ?_)
    | refine g_lenG T hC rfl rfl rfl rfl rfl rfl ?_
  refine g_loop (fun _ : Unit => True) (fun _ => ([(0, .one (.ar 0)), (3, .one (.bx 1003 0)), (5, .one (.bx 1005 0)), (6, .one (.p (.k (.slice none 0 0)))), (7, I (-1)), (8, I 0), (9, I 0)], [(0, some (vg 1 0)), (1, some (bg [])), (1003, some (.box [.p (ki 3), .p (intsP p)])), (1005, some (.box [.p (ki 0), .p (ki 0), .p (.k (.slice none 0 0))]))])) (fun _ => 0) hC
    () trivial id ⟨rfl, ⟨rfl, rfl, rfl, rfl, rfl, rfl, rfl, trivial⟩, ⟨rfl, rfl, rfl, rfl, trivial⟩, rfl, fun _ _ => rfl⟩ ?_
  intro u _
  refine g_run' T hC true 200 rfl ?_
  refine g_cond rfl (fun h => ?_) (fun h => ?_)
  · exfalso; rw [wr0] at h; have := of_decide_eq_true h; omega
  · repeat' first
      | refine g_go T hC true 400 rfl rfl ?_
      | (exfalso; first | (simp only [decide_eq_true_eq, decide_eq_false_iff_not, List.length_map, Bool.not_eq_true', Bool.not_eq_false'] at *; omega) | (simp at h; done))
      | refine g_cond rfl (fun h => ?_) (fun h => ?_)
      | refine g_end T hC (by kernel_rfl) ?_
      | refine g_splitD (fun h => ?_) (fun h => ?_)
      | refine g_splitG rfl rfl rfl (fun h => ?_) (fun h => ?_)
      | refine g_splitP rfl rfl (fun h => ?_) (fun h => ?_)
      | refine g_outE ?_
      | refine g_call hC (hN) rfl rfl (LeSs.refl _) rfl rfl rfl ?_
    all_goals exact g_fin ⟨.inl rfl, nm [0, 1, 0, 1], _, rfl, .refl _, ⟨rfl, rfl, trivial⟩, rfl, rfl⟩

theorem text2 (r : Rw) (hr : 1 ≤ r.length ∧ r.length ≤ 500) (p : List Int) (hp : 1 ≤ p.length ∧ p.length ≤ 64) : FnOK Tryz.prog 60 [.one (.ar 0), aggS [ki 2, intsP p]] [(0, vg 1 1), (1, bg [r])] (.tup [.one (.ar 2), aggS (rsR (okR (occs r p).length))]) [(2, vg 3 1), (3, bg [r])] := by
  have hpl : (p.map intR).length = p.length := List.length_map _
  have wr : ∀ x y : Nat, x ≤ 1000 → y ≤ 1000 → IntKind.i64.wrap ((x : Int) + (y : Int)) = ((x + y : Nat) : Int) := fun x y _ _ => by rw [wrap64 (by omega)]; omega
  have hrl : (r.map intR).length = r.length := List.length_map _
  have hN := result_ok (occs r p).length
  refine fn_ok T Tryz.func60 (by kernel_rfl) rfl rfl rfl rfl fun C hC => ?_
  refine g_open hC rfl 1 110 112 0 (e := 1) (rs := r.map intR) rfl rfl rfl rfl rfl [] trivial [(0, .vw [110, 112] 1 (grS 1 0))] ⟨⟨_, rfl, rfl, rw_open2 1 0⟩, trivial⟩ ?_
  repeat' first
    | refine g_go T hC true 400 rfl rfl ?_
    | (exfalso; first | (simp only [decide_eq_true_eq, decide_eq_false_iff_not, List.length_map, Bool.not_eq_true', Bool.not_eq_false'] at *; omega) | (simp at h; done))
    | refine g_cond rfl (fun h => ?_) (fun h => ?_)
    | refine g_end T hC (by kernel_rfl) ?_
    | refine g_splitD (fun h => ?_) (fun h => ?_)
    | refine g_splitG rfl rfl rfl (fun h => ?_) (fun h => ?_)
    | refine g_splitP rfl rfl (fun h => ?_) (fun h => ?_)
    | refine g_lenO T hC 1 (grS_len 1 0) rfl rfl rfl rfl rfl ?_
    | (refine g_idxO T hC 0 rfl rfl rfl rfl rfl (by rw [grS_len]; decide) rfl rfl ?_; refine g_loadW T hC [.ar 112] rfl rfl rfl (ld_lo (by decide)) rfl rfl rfl ?_)
  refine g_loop (fun i : Nat => i ≤ r.length) (fun i => ([(0, .one (.ar 0)), (3, .one (.bx 1003 0)), (5, .one (.bx 1005 0)), (6, .one (.ar 112)), (7, I (hdI (occT r p i))), (8, I ((occT r p i).length)), (9, I i)], [(0, some (.vw [110, 112] 1 (grS 1 0))), (110, some (.bag 1 [[]])), (112, some (.arr 1 (r.map intR))), (1003, some (.box [.p (ki 2), .p (intsP p)])), (1005, some (.box [.p (ki 0), .p (ki 0), .p (.k (.slice none 0 0))]))])) (fun i => r.length - i) hC
    0 (Nat.zero_le _) id ⟨rfl, ⟨rfl, rfl, rfl, rfl, rfl, rfl, rfl, trivial⟩, ⟨rfl, rfl, rfl, rfl, rfl, trivial⟩, rfl, fun _ _ => rfl⟩ ?_
  intro i hi
  have wri : IntKind.i64.wrap ((i : Int) + ((p.map intR).length : Int)) = ((i + p.length : Nat) : Int) := by rw [hpl]; exact wr _ _ (by omega) (by omega)
  refine g_run' T hC true 200 rfl ?_
  refine g_cond rfl (fun h => ?_) (fun h => ?_)
  · have hlt : i + p.length ≤ r.length := by rw [wri, hrl] at h; have := of_decide_eq_true h; omega
    clear h
    have hE := slEqual_ok ((r.drop i).take p.length) p
    have hol : occL r p i = decide ((r.drop i).take p.length = p) := rfl
    have hcl := occT_len r p i
    have hln : LnV [(112, .arr 1 (r.map intR))] (.sv 112 (i * 1) p.length) (.p (intsP ((r.drop i).take p.length))) := by
      have := LnV.sv (id := 112) (e := 1) (a := i) (m := p.length) (rows := r.map intR) (B := [(112, .arr 1 (r.map intR))]) (.head _) (fun x hx => by obtain ⟨_, _, rfl⟩ := List.mem_map.1 hx; rfl) (by rw [hrl]; exact hlt)
      rw [← List.map_drop, ← List.map_take] at this
      exact this
    repeat' first
      | refine g_go T hC true 400 rfl rfl ?_
      | refine g_cond rfl (fun h => ?_) (fun h => ?_)
      | refine g_end T hC (by kernel_rfl) ?_
      | refine g_splitD (fun h => ?_) (fun h => ?_)
      | refine g_splitG rfl rfl rfl (fun h => ?_) (fun h => ?_)
      | refine g_splitP rfl rfl (fun h => ?_) (fun h => ?_)
      | (rw [wri]; refine g_saLH T hC rfl rfl rfl rfl rfl (Int.natCast_nonneg _) (by omega) (by rw [hrl]; omega) rfl rfl ?_; rw [show ((i : Nat) : Int).toNat * 1 = i * 1 by rw [Int.toNat_natCast], show ((i + p.length : Nat) : Int).toNat - ((i : Nat) : Int).toNat = p.length by rw [Int.toNat_natCast, Int.toNat_natCast]; omega])
      | refine g_callN hC hE [(112, .arr 1 (r.map intR))] rfl rfl (LnSs.cons (LnS.one hln) (LnSs.refl _)) rfl rfl rfl rfl ?_
    · have hb : occL r p i = true := hol.trans (by assumption)
      rw [wrapS (i := i) (by omega), wrapS (i := (occT r p i).length) (by omega)]
      refine g_round (i + 1) (by omega) id (by omega) ?_
      rw [occT_yes hb, hdI_snoc, if_pos (of_decide_eq_true h), List.length_append]
      exact ⟨rfl, ⟨rfl, rfl, rfl, rfl, rfl, rfl, rfl, trivial⟩, ⟨rfl, rfl, rfl, rfl, rfl, trivial⟩, rfl, fun _ _ => rfl⟩
    · have hb : occL r p i = true := hol.trans (by assumption)
      rw [wrapS (i := i) (by omega), wrapS (i := (occT r p i).length) (by omega)]
      refine g_round (i + 1) (by omega) id (by omega) ?_
      rw [occT_yes hb, hdI_snoc, if_neg (of_decide_eq_false h), List.length_append]
      exact ⟨rfl, ⟨rfl, rfl, rfl, rfl, rfl, rfl, rfl, trivial⟩, ⟨rfl, rfl, rfl, rfl, rfl, trivial⟩, rfl, fun _ _ => rfl⟩
    · have hb : occL r p i = false := hol.trans (by assumption)
      rw [wrapS (i := i) (by omega)]
      refine g_round (i + 1) (by omega) id (by omega) ?_
      rw [occT_no hb]
      exact ⟨rfl, ⟨rfl, rfl, rfl, rfl, rfl, rfl, rfl, trivial⟩, ⟨rfl, rfl, rfl, rfl, rfl, trivial⟩, rfl, fun _ _ => rfl⟩
  · have hge : r.length < i + p.length := by rw [wri, hrl] at h; have := of_decide_eq_false h; omega
    rw [occT_all hp.1 hi hge]
    repeat' first
      | refine g_go T hC true 400 rfl rfl ?_
      | (exfalso; first | (simp only [decide_eq_true_eq, decide_eq_false_iff_not, List.length_map, Bool.not_eq_true', Bool.not_eq_false'] at *; omega) | (simp at h; done))
      | refine g_cond rfl (fun h => ?_) (fun h => ?_)
      | refine g_end T hC (by kernel_rfl) ?_
      | refine g_splitD (fun h => ?_) (fun h => ?_)
      | refine g_splitG rfl rfl rfl (fun h => ?_) (fun h => ?_)
      | refine g_splitP rfl rfl (fun h => ?_) (fun h => ?_)
      | refine g_outE ?_
      | refine g_call hC (hN) rfl rfl (LeSs.refl _) rfl rfl rfl ?_
    refine g_take hC rfl 110 112 113 (e := 1) (L := [[]]) (rs := r.map intR) rfl rfl rfl rfl [] trivial [(0, .vw [113] 1 (grJ [1]))] ⟨⟨_, rfl, rfl, rw_take 1 0⟩, trivial⟩ ?_
    refine g_norm hC rfl 0 113 114 [1] (e := 1) (L := [[], r.map intR]) [r.map intR] rfl rfl (by decide) rfl (fun i q hq => by match i, hq with | 0, hq => (obtain rfl := Option.some.inj hq; exact ⟨by simp, rfl⟩) | i + 1, hq => simp at hq) rfl rfl ?_
    exact g_fin ⟨.inl rfl, nm [0, 1, 0, 114], _, rfl, .refl _, ⟨rfl, rfl, trivial⟩, rfl, rfl⟩

theorem text3m (r : Rw) (hr : 1 ≤ r.length ∧ r.length ≤ 500) (p : List Int) (hp : 1 ≤ p.length ∧ p.length ≤ 64) (ho : occs r p = []) : FnOK Tryz.prog 60 [.one (.ar 0), aggS [ki 3, intsP p]] [(0, vg 1 1), (1, bg [r])] (.tup [.one (.ar 2), aggS (rsR (erR 12))]) [(2, vg 3 1), (3, bg [r])] := by
  have hpl : (p.map intR).length = p.length := List.length_map _
  have wr : ∀ x y : Nat, x ≤ 1000 → y ≤ 1000 → IntKind.i64.wrap ((x : Int) + (y : Int)) = ((x + y : Nat) : Int) := fun x y _ _ => by rw [wrap64 (by omega)]; omega
  have hrl : (r.map intR).length = r.length := List.length_map _
  have hN := failed_ok 12
  refine fn_ok T Tryz.func60 (by kernel_rfl) rfl rfl rfl rfl fun C hC => ?_
  refine g_open hC rfl 1 110 112 0 (e := 1) (rs := r.map intR) rfl rfl rfl rfl rfl [] trivial [(0, .vw [110, 112] 1 (grS 1 0))] ⟨⟨_, rfl, rfl, rw_open2 1 0⟩, trivial⟩ ?_
  repeat' first
    | refine g_go T hC true 400 rfl rfl ?_
    | (exfalso; first | (simp only [decide_eq_true_eq, decide_eq_false_iff_not, List.length_map, Bool.not_eq_true', Bool.not_eq_false'] at *; omega) | (simp at h; done))
    | refine g_cond rfl (fun h => ?_) (fun h => ?_)
    | refine g_end T hC (by kernel_rfl) ?_
    | refine g_splitD (fun h => ?_) (fun h => ?_)
    | refine g_splitG rfl rfl rfl (fun h => ?_) (fun h => ?_)
    | refine g_splitP rfl rfl (fun h => ?_) (fun h => ?_)
    | refine g_lenO T hC 1 (grS_len 1 0) rfl rfl rfl rfl rfl ?_
    | (refine g_idxO T hC 0 rfl rfl rfl rfl rfl (by rw [grS_len]; decide) rfl rfl ?_; refine g_loadW T hC [.ar 112] rfl rfl rfl (ld_lo (by decide)) rfl rfl rfl ?_)
  refine g_loop (fun i : Nat => i ≤ r.length) (fun i => ([(0, .one (.ar 0)), (3, .one (.bx 1003 0)), (5, .one (.bx 1005 0)), (6, .one (.ar 112)), (7, I (hdI (occT r p i))), (8, I ((occT r p i).length)), (9, I i)], [(0, some (.vw [110, 112] 1 (grS 1 0))), (110, some (.bag 1 [[]])), (112, some (.arr 1 (r.map intR))), (1003, some (.box [.p (ki 3), .p (intsP p)])), (1005, some (.box [.p (ki 0), .p (ki 0), .p (.k (.slice none 0 0))]))])) (fun i => r.length - i) hC
    0 (Nat.zero_le _) id ⟨rfl, ⟨rfl, rfl, rfl, rfl, rfl, rfl, rfl, trivial⟩, ⟨rfl, rfl, rfl, rfl, rfl, trivial⟩, rfl, fun _ _ => rfl⟩ ?_
  intro i hi
  have wri : IntKind.i64.wrap ((i : Int) + ((p.map intR).length : Int)) = ((i + p.length : Nat) : Int) := by rw [hpl]; exact wr _ _ (by omega) (by omega)
  refine g_run' T hC true 200 rfl ?_
  refine g_cond rfl (fun h => ?_) (fun h => ?_)
  · have hlt : i + p.length ≤ r.length := by rw [wri, hrl] at h; have := of_decide_eq_true h; omega
    clear h
    have hE := slEqual_ok ((r.drop i).take p.length) p
    have hol : occL r p i = decide ((r.drop i).take p.length = p) := rfl
    have hcl := occT_len r p i
    have hln : LnV [(112, .arr 1 (r.map intR))] (.sv 112 (i * 1) p.length) (.p (intsP ((r.drop i).take p.length))) := by
      have := LnV.sv (id := 112) (e := 1) (a := i) (m := p.length) (rows := r.map intR) (B := [(112, .arr 1 (r.map intR))]) (.head _) (fun x hx => by obtain ⟨_, _, rfl⟩ := List.mem_map.1 hx; rfl) (by rw [hrl]; exact hlt)
      rw [← List.map_drop, ← List.map_take] at this
      exact this
    repeat' first
      | refine g_go T hC true 400 rfl rfl ?_
      | refine g_cond rfl (fun h => ?_) (fun h => ?_)
      | refine g_end T hC (by kernel_rfl) ?_
      | refine g_splitD (fun h => ?_) (fun h => ?_)
      | refine g_splitG rfl rfl rfl (fun h => ?_) (fun h => ?_)
      | refine g_splitP rfl rfl (fun h => ?_) (fun h => ?_)
      | (rw [wri]; refine g_saLH T hC rfl rfl rfl rfl rfl (Int.natCast_nonneg _) (by omega) (by rw [hrl]; omega) rfl rfl ?_; rw [show ((i : Nat) : Int).toNat * 1 = i * 1 by rw [Int.toNat_natCast], show ((i + p.length : Nat) : Int).toNat - ((i : Nat) : Int).toNat = p.length by rw [Int.toNat_natCast, Int.toNat_natCast]; omega])
      | refine g_callN hC hE [(112, .arr 1 (r.map intR))] rfl rfl (LnSs.cons (LnS.one hln) (LnSs.refl _)) rfl rfl rfl rfl ?_
    · have hb : occL r p i = true := hol.trans (by assumption)
      rw [wrapS (i := i) (by omega), wrapS (i := (occT r p i).length) (by omega)]
      refine g_round (i + 1) (by omega) id (by omega) ?_
      rw [occT_yes hb, hdI_snoc, if_pos (of_decide_eq_true h), List.length_append]
      exact ⟨rfl, ⟨rfl, rfl, rfl, rfl, rfl, rfl, rfl, trivial⟩, ⟨rfl, rfl, rfl, rfl, rfl, trivial⟩, rfl, fun _ _ => rfl⟩
    · have hb : occL r p i = true := hol.trans (by assumption)
      rw [wrapS (i := i) (by omega), wrapS (i := (occT r p i).length) (by omega)]
      refine g_round (i + 1) (by omega) id (by omega) ?_
      rw [occT_yes hb, hdI_snoc, if_neg (of_decide_eq_false h), List.length_append]
      exact ⟨rfl, ⟨rfl, rfl, rfl, rfl, rfl, rfl, rfl, trivial⟩, ⟨rfl, rfl, rfl, rfl, rfl, trivial⟩, rfl, fun _ _ => rfl⟩
    · have hb : occL r p i = false := hol.trans (by assumption)
      rw [wrapS (i := i) (by omega)]
      refine g_round (i + 1) (by omega) id (by omega) ?_
      rw [occT_no hb]
      exact ⟨rfl, ⟨rfl, rfl, rfl, rfl, rfl, rfl, rfl, trivial⟩, ⟨rfl, rfl, rfl, rfl, rfl, trivial⟩, rfl, fun _ _ => rfl⟩
  · have hge : r.length < i + p.length := by rw [wri, hrl] at h; have := of_decide_eq_false h; omega
    rw [occT_all hp.1 hi hge]
    have hneg : hdI (occs r p) < 0 := hdI_nonneg.2 ho
    repeat' first
      | refine g_go T hC true 400 rfl rfl ?_
      | (exfalso; first | (simp only [decide_eq_true_eq, decide_eq_false_iff_not, List.length_map, Bool.not_eq_true', Bool.not_eq_false'] at *; omega) | (simp at h; done))
      | refine g_cond rfl (fun h => ?_) (fun h => ?_)
      | refine g_end T hC (by kernel_rfl) ?_
      | refine g_splitD (fun h => ?_) (fun h => ?_)
      | refine g_splitG rfl rfl rfl (fun h => ?_) (fun h => ?_)
      | refine g_splitP rfl rfl (fun h => ?_) (fun h => ?_)
      | refine g_outE ?_
      | refine g_call hC (hN) rfl rfl (LeSs.refl _) rfl rfl rfl ?_
    refine g_take hC rfl 110 112 113 (e := 1) (L := [[]]) (rs := r.map intR) rfl rfl rfl rfl [] trivial [(0, .vw [113] 1 (grJ [1]))] ⟨⟨_, rfl, rfl, rw_take 1 0⟩, trivial⟩ ?_
    refine g_norm hC rfl 0 113 114 [1] (e := 1) (L := [[], r.map intR]) [r.map intR] rfl rfl (by decide) rfl (fun i q hq => by match i, hq with | 0, hq => (obtain rfl := Option.some.inj hq; exact ⟨by simp, rfl⟩) | i + 1, hq => simp at hq) rfl rfl ?_
    exact g_fin ⟨.inl rfl, nm [0, 1, 0, 114], _, rfl, .refl _, ⟨rfl, rfl, trivial⟩, rfl, rfl⟩

theorem text3 (r : Rw) (hr : 1 ≤ r.length ∧ r.length ≤ 500) (p : List Int) (hp : 1 ≤ p.length ∧ p.length ≤ 64) (ho : occs r p ≠ []) : FnOK Tryz.prog 60 [.one (.ar 0), aggS [ki 3, intsP p]] [(0, vg 1 1), (1, bg [r])] (.tup [.one (.ar 2), aggS (rsR (okR (hdI (occs r p))))]) [(2, vg 3 1), (3, bg [r])] := by
  have hpl : (p.map intR).length = p.length := List.length_map _
  have wr : ∀ x y : Nat, x ≤ 1000 → y ≤ 1000 → IntKind.i64.wrap ((x : Int) + (y : Int)) = ((x + y : Nat) : Int) := fun x y _ _ => by rw [wrap64 (by omega)]; omega
  have hrl : (r.map intR).length = r.length := List.length_map _
  have hN := result_ok (hdI (occs r p))
  refine fn_ok T Tryz.func60 (by kernel_rfl) rfl rfl rfl rfl fun C hC => ?_
  refine g_open hC rfl 1 110 112 0 (e := 1) (rs := r.map intR) rfl rfl rfl rfl rfl [] trivial [(0, .vw [110, 112] 1 (grS 1 0))] ⟨⟨_, rfl, rfl, rw_open2 1 0⟩, trivial⟩ ?_
  repeat' first
    | refine g_go T hC true 400 rfl rfl ?_
    | (exfalso; first | (simp only [decide_eq_true_eq, decide_eq_false_iff_not, List.length_map, Bool.not_eq_true', Bool.not_eq_false'] at *; omega) | (simp at h; done))
    | refine g_cond rfl (fun h => ?_) (fun h => ?_)
    | refine g_end T hC (by kernel_rfl) ?_
    | refine g_splitD (fun h => ?_) (fun h => ?_)
    | refine g_splitG rfl rfl rfl (fun h => ?_) (fun h => ?_)
    | refine g_splitP rfl rfl (fun h => ?_) (fun h => ?_)
    | refine g_lenO T hC 1 (grS_len 1 0) rfl rfl rfl rfl rfl ?_
    | (refine g_idxO T hC 0 rfl rfl rfl rfl rfl (by rw [grS_len]; decide) rfl rfl ?_; refine g_loadW T hC [.ar 112] rfl rfl rfl (ld_lo (by decide)) rfl rfl rfl ?_)
  refine g_loop (fun i : Nat => i ≤ r.length) (fun i => ([(0, .one (.ar 0)), (3, .one (.bx 1003 0)), (5, .one (.bx 1005 0)), (6, .one (.ar 112)), (7, I (hdI (occT r p i))), (8, I ((occT r p i).length)), (9, I i)], [(0, some (.vw [110, 112] 1 (grS 1 0))), (110, some (.bag 1 [[]])), (112, some (.arr 1 (r.map intR))), (1003, some (.box [.p (ki 3), .p (intsP p)])), (1005, some (.box [.p (ki 0), .p (ki 0), .p (.k (.slice none 0 0))]))])) (fun i => r.length - i) hC
    0 (Nat.zero_le _) id ⟨rfl, ⟨rfl, rfl, rfl, rfl, rfl, rfl, rfl, trivial⟩, ⟨rfl, rfl, rfl, rfl, rfl, trivial⟩, rfl, fun _ _ => rfl⟩ ?_
  intro i hi
  have wri : IntKind.i64.wrap ((i : Int) + ((p.map intR).length : Int)) = ((i + p.length : Nat) : Int) := by rw [hpl]; exact wr _ _ (by omega) (by omega)
  refine g_run' T hC true 200 rfl ?_
  refine g_cond rfl (fun h => ?_) (fun h => ?_)
  · have hlt : i + p.length ≤ r.length := by rw [wri, hrl] at h; have := of_decide_eq_true h; omega
    clear h
    have hE := slEqual_ok ((r.drop i).take p.length) p
    have hol : occL r p i = decide ((r.drop i).take p.length = p) := rfl
    have hcl := occT_len r p i
    have hln : LnV [(112, .arr 1 (r.map intR))] (.sv 112 (i * 1) p.length) (.p (intsP ((r.drop i).take p.length))) := by
      have := LnV.sv (id := 112) (e := 1) (a := i) (m := p.length) (rows := r.map intR) (B := [(112, .arr 1 (r.map intR))]) (.head _) (fun x hx => by obtain ⟨_, _, rfl⟩ := List.mem_map.1 hx; rfl) (by rw [hrl]; exact hlt)
      rw [← List.map_drop, ← List.map_take] at this
      exact this
    repeat' first
      | refine g_go T hC true 400 rfl rfl ?_
      | refine g_cond rfl (fun h => ?_) (fun h => ?_)
      | refine g_end T hC (by kernel_rfl) ?_
      | refine g_splitD (fun h => ?_) (fun h => ?_)
      | refine g_splitG rfl rfl rfl (fun h => ?_) (fun h => ?_)
      | refine g_splitP rfl rfl (fun h => ?_) (fun h => ?_)
      | (rw [wri]; refine g_saLH T hC rfl rfl rfl rfl rfl (Int.natCast_nonneg _) (by omega) (by rw [hrl]; omega) rfl rfl ?_; rw [show ((i : Nat) : Int).toNat * 1 = i * 1 by rw [Int.toNat_natCast], show ((i + p.length : Nat) : Int).toNat - ((i : Nat) : Int).toNat = p.length by rw [Int.toNat_natCast, Int.toNat_natCast]; omega])
      | refine g_callN hC hE [(112, .arr 1 (r.map intR))] rfl rfl (LnSs.cons (LnS.one hln) (LnSs.refl _)) rfl rfl rfl rfl ?_
    · have hb : occL r p i = true := hol.trans (by assumption)
      rw [wrapS (i := i) (by omega), wrapS (i := (occT r p i).length) (by omega)]
      refine g_round (i + 1) (by omega) id (by omega) ?_
      rw [occT_yes hb, hdI_snoc, if_pos (of_decide_eq_true h), List.length_append]
      exact ⟨rfl, ⟨rfl, rfl, rfl, rfl, rfl, rfl, rfl, trivial⟩, ⟨rfl, rfl, rfl, rfl, rfl, trivial⟩, rfl, fun _ _ => rfl⟩
    · have hb : occL r p i = true := hol.trans (by assumption)
      rw [wrapS (i := i) (by omega), wrapS (i := (occT r p i).length) (by omega)]
      refine g_round (i + 1) (by omega) id (by omega) ?_
      rw [occT_yes hb, hdI_snoc, if_neg (of_decide_eq_false h), List.length_append]
      exact ⟨rfl, ⟨rfl, rfl, rfl, rfl, rfl, rfl, rfl, trivial⟩, ⟨rfl, rfl, rfl, rfl, rfl, trivial⟩, rfl, fun _ _ => rfl⟩
    · have hb : occL r p i = false := hol.trans (by assumption)
      rw [wrapS (i := i) (by omega)]
      refine g_round (i + 1) (by omega) id (by omega) ?_
      rw [occT_no hb]
      exact ⟨rfl, ⟨rfl, rfl, rfl, rfl, rfl, rfl, rfl, trivial⟩, ⟨rfl, rfl, rfl, rfl, rfl, trivial⟩, rfl, fun _ _ => rfl⟩
  · have hge : r.length < i + p.length := by rw [wri, hrl] at h; have := of_decide_eq_false h; omega
    rw [occT_all hp.1 hi hge]
    have hpos : ¬ hdI (occs r p) < 0 := fun e => ho (hdI_nonneg.1 e)
    repeat' first
      | refine g_go T hC true 400 rfl rfl ?_
      | (exfalso; first | (simp only [decide_eq_true_eq, decide_eq_false_iff_not, List.length_map, Bool.not_eq_true', Bool.not_eq_false'] at *; omega) | (simp at h; done))
      | refine g_cond rfl (fun h => ?_) (fun h => ?_)
      | refine g_end T hC (by kernel_rfl) ?_
      | refine g_splitD (fun h => ?_) (fun h => ?_)
      | refine g_splitG rfl rfl rfl (fun h => ?_) (fun h => ?_)
      | refine g_splitP rfl rfl (fun h => ?_) (fun h => ?_)
      | refine g_outE ?_
      | refine g_call hC (hN) rfl rfl (LeSs.refl _) rfl rfl rfl ?_
    refine g_take hC rfl 110 112 113 (e := 1) (L := [[]]) (rs := r.map intR) rfl rfl rfl rfl [] trivial [(0, .vw [113] 1 (grJ [1]))] ⟨⟨_, rfl, rfl, rw_take 1 0⟩, trivial⟩ ?_
    refine g_norm hC rfl 0 113 114 [1] (e := 1) (L := [[], r.map intR]) [r.map intR] rfl rfl (by decide) rfl (fun i q hq => by match i, hq with | 0, hq => (obtain rfl := Option.some.inj hq; exact ⟨by simp, rfl⟩) | i + 1, hq => simp at hq) rfl rfl ?_
    exact g_fin ⟨.inl rfl, nm [0, 1, 0, 114], _, rfl, .refl _, ⟨rfl, rfl, trivial⟩, rfl, rfl⟩

end Hw.Mq
