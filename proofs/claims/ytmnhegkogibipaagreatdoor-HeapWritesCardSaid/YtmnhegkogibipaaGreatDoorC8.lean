/- The engine and the contracts. -/
import Derived.Test.YtmnhegkogibipaaGreatDoorC7
set_option linter.unusedVariables false
set_option linter.unusedSimpArgs false
namespace Hw.Z
open Go Go.Proofs Hw.M

theorem clone_ok (v : List Int) (hv : v.length ≤ 1000000) : FnOK Tryz.prog 142 [pS (intsP v)] [] (.one (.ar 0)) [(0, .arr 1 (v.map intR))] := by
  refine fn_ok T Tryz.func142 (by kernel_rfl) rfl rfl rfl rfl fun C hC => ?_
  have hl : (v.map intR).length = v.length := List.length_map _
  repeat' first
    | refine g_go T hC true 400 rfl rfl ?_
    | refine g_cond rfl (fun h => ?_) (fun h => ?_)
    | refine g_end T hC (by kernel_rfl) ?_
    | refine g_splitD (fun h => ?_) (fun h => ?_)
    | refine g_splitG rfl rfl rfl (fun h => ?_) (fun h => ?_)
    | refine g_splitP rfl rfl (fun h => ?_) (fun h => ?_)
  refine g_slnil (rows := v.map intR) (e := 1) (et := 3) rfl (by kernel_rfl) rfl (fun b hb => ?_)
  repeat' first
    | refine g_go T hC true 400 rfl rfl ?_
    | refine g_cond rfl (fun h => ?_) (fun h => ?_)
    | refine g_end T hC (by kernel_rfl) ?_
    | refine g_splitD (fun h => ?_) (fun h => ?_)
    | refine g_splitG rfl rfl rfl (fun h => ?_) (fun h => ?_)
    | refine g_splitP rfl rfl (fun h => ?_) (fun h => ?_)
  · have hv0 : v = [] := List.map_eq_nil_iff.1 (hb h)
    subst hv0
    refine g_adopt hC rfl 101 1 rfl [(2, .one (.ar 101))] ⟨⟨_, rfl, .nil⟩, trivial⟩ [] trivial ?_
    exact g_fin ⟨.inl rfl, nm [101], _, rfl, .refl _, ⟨rfl, trivial⟩, rfl, rfl⟩
  · refine g_litO T hC rfl rfl rfl rfl rfl ?_
    repeat' first
      | refine g_go T hC true 400 rfl rfl ?_
      | refine g_cond rfl (fun h => ?_) (fun h => ?_)
      | refine g_end T hC (by kernel_rfl) ?_
      | refine g_splitD (fun h => ?_) (fun h => ?_)
      | refine g_splitG rfl rfl rfl (fun h => ?_) (fun h => ?_)
      | refine g_splitP rfl rfl (fun h => ?_) (fun h => ?_)
      | refine g_append T 102 hC (rows := []) (rows2 := v.map intR) (rows3 := v.map intR) (bytes := 8) rfl rfl rfl rfl (SrcS.sl (T.es_ok _ _ rfl)) rfl rfl rfl rfl (by kernel_rfl) (by simp only [List.length_nil, hl]; omega) (by simp only [List.length_nil, hl]; omega) rfl rfl rfl ?_
    exact g_fin ⟨.inl rfl, nm [102], _, rfl, .refl _, ⟨rfl, trivial⟩, rfl, rfl⟩

def renOf (order : List Int) (p : Fld × Int) : Int := if isPlain p.1.t = true then p.2 else posI order p.2
def renS (order : List Int) (l : List Fld) (v : List Int) : List Int := (l.zip v).map (renOf order)
theorem set_map (l : List Int) (i : Nat) (x y : Int) : (l.map intR).set i (setAt (intR y) 0 [ki x]) = (l.set i x).map intR := by
  rw [List.map_set]; rfl
theorem renumbered_ok (d : Desc) (m : Hp) (s : SS) (l : List Fld) (v : List Int) (hlv : l.length = v.length) (hv : v.length ≤ 1000000) :
    FnOK Tryz.prog 140 [.one (.bx 0 0), pS (fieldsP l), pS (intsP v)] (sRL d m s 1) (pS (intsP (renS s.order l v))) (sRL d m s 1) := by
  refine fn_ok T Tryz.func140 (by kernel_rfl) rfl rfl rfl rfl fun C hC => ?_
  repeat' first
    | refine g_go T hC true 400 rfl rfl ?_
    | refine g_cond rfl (fun h => ?_) (fun h => ?_)
    | refine g_end T hC (by kernel_rfl) ?_
    | refine g_splitD (fun h => ?_) (fun h => ?_)
    | refine g_splitG rfl rfl rfl (fun h => ?_) (fun h => ?_)
    | refine g_splitP rfl rfl (fun h => ?_) (fun h => ?_)
    | refine g_callR hC (clone_ok v hv) (nm [140]) rfl rfl (LeSs.refl _) rfl rfl rfl rfl rfl rfl rfl rfl ?_
  rw [List.length_map]
  refine g_loop (fun q : Nat × List Int => q.1 ≤ l.length ∧ q.2.length = v.length ∧ q.2.take q.1 = (renS s.order l v).take q.1 ∧ q.2.drop q.1 = v.drop q.1)
    (fun q => ([(0, .one (.bx 0 0)), (2, pS (intsP v)), (7, .one (.ar 140)), (12, pS (fieldsP l)), (13, I l.length), (14, I q.1)], (140, some (Res.arr 1 (q.2.map intR))) :: sTab d m s 1)) (fun q => l.length - q.1) hC
    (0, v) ⟨Nat.zero_le _, rfl, rfl, rfl⟩ id ⟨rfl, ⟨rfl, rfl, rfl, rfl, rfl, rfl, trivial⟩, ⟨rfl, rfl, rfl, rfl, trivial⟩, rfl, fun _ _ => rfl⟩ ?_
  rintro ⟨i, cur⟩ ⟨hi, hcl, ht, hdr⟩
  simp only at hi hcl ht hdr
  have hrl : (renS s.order l v).length = v.length := by simp only [renS, List.length_map, List.length_zip]; omega
  refine g_run' T hC true 200 rfl ?_
  refine g_cond rfl (fun h => ?_) (fun h => ?_)
  rotate_left
  · have hge : ¬ i < l.length := by simpa using h
    have hcur : cur = renS s.order l v := by
      rw [List.take_of_length_le (by omega), List.take_of_length_le (by omega)] at ht; exact ht
    subst hcur
    repeat' first
      | refine g_go T hC true 400 rfl rfl ?_
      | refine g_cond rfl (fun h => ?_) (fun h => ?_)
      | refine g_end T hC (by kernel_rfl) ?_
      | refine g_splitD (fun h => ?_) (fun h => ?_)
      | refine g_splitG rfl rfl rfl (fun h => ?_) (fun h => ?_)
      | refine g_splitP rfl rfl (fun h => ?_) (fun h => ?_)
      | refine g_outE ?_
    refine g_freeze rfl (id := 140) (e := 1) (rows := (renS s.order l v).map intR) rfl [(6, pS (intsP (renS s.order l v)))] ⟨⟨_, rfl, FrS.ar⟩, trivial⟩ [] trivial ?_
    exact g_fin ⟨.inl rfl, id, _, rfl, .refl _, ⟨rfl, rfl, rfl, trivial⟩, rfl, rfl⟩
  have hlt : i < l.length := by simpa using h
  clear h
  obtain ⟨x, hx⟩ := exists_at (l := l.zip v) (i := i) (by rw [List.length_zip]; omega)
  obtain ⟨hx1, hx2⟩ := zip_at hx
  have hci : cur[i]? = some x.2 := by
    have := congrArg (·[0]?) hdr
    simp only [List.getElem?_drop, Nat.add_zero] at this
    rw [this]; exact hx2
  have hri : (renS s.order l v)[i]? = some (renOf s.order x) := by simp only [renS, List.getElem?_map, hx, Option.map_some]
  have hci2 : (cur.map intR)[i]? = some (intR x.2) := by rw [List.getElem?_map, hci]; rfl
  have hcml : (cur.map intR).length = cur.length := List.length_map _
  repeat' first
    | refine g_go T hC true 400 rfl rfl ?_
    | refine g_cond rfl (fun h => ?_) (fun h => ?_)
    | refine g_end T hC (by kernel_rfl) ?_
    | refine g_splitD (fun h => ?_) (fun h => ?_)
    | refine g_splitG rfl rfl rfl (fun h => ?_) (fun h => ?_)
    | refine g_splitP rfl rfl (fun h => ?_) (fun h => ?_)
    | refine g_idx T hC rfl rfl rfl (Int.natCast_nonneg _) (map_at (by assumption)) rfl rfl ?_
    | refine g_call hC (plain_ok _) rfl rfl (LeSs.refl _) rfl rfl rfl ?_
    | refine g_lookupF (intKey .i64) hC (kt := 3) (et := 3) (c0 := .int .i64 0) rfl rfl rfl (by kernel_rfl) (by kernel_rfl) (by kernel_rfl) rfl (idx_getD s.order x.2) rfl rfl ?_
    | refine g_idxA T hC (rows := cur.map intR) rfl rfl rfl rfl (Int.natCast_nonneg _) (by rw [hcml]; simp only; omega) rfl rfl ?_
  · refine g_storeE T hC i 0 (rows := cur.map intR) (row := intR x.2) (us := [ki (posI s.order x.2)]) (rows' := (cur.set i (posI s.order x.2)).map intR) rfl rfl rfl rfl rfl rfl (by simp) hci2 (Nat.le_refl 1) (set_map _ _ _ _) rfl ?_
    have hpl : isPlain x.1.t = false := by simpa using h
    repeat' first
      | refine g_go T hC true 400 rfl rfl ?_
      | refine g_cond rfl (fun h => ?_) (fun h => ?_)
      | refine g_end T hC (by kernel_rfl) ?_
      | refine g_splitD (fun h => ?_) (fun h => ?_)
      | refine g_splitG rfl rfl rfl (fun h => ?_) (fun h => ?_)
      | refine g_splitP rfl rfl (fun h => ?_) (fun h => ?_)
    simp only
    rw [wrapS (by omega)]
    refine g_round (i + 1, cur.set i (posI s.order x.2)) ⟨by simp only; omega, by simp only [List.length_set]; exact hcl, ?_, ?_⟩ id (by simp only; omega) ⟨rfl, ⟨rfl, rfl, rfl, rfl, rfl, rfl, trivial⟩, ⟨rfl, rfl, rfl, rfl, trivial⟩, rfl, fun _ _ => rfl⟩
    · have e1 : (cur.set i (posI s.order x.2))[i]? = some (renOf s.order x) := by
        rw [List.getElem?_set_self (by omega), renOf, hpl]; rfl
      simp only
      rw [take_snoc' e1, take_snoc' hri, List.take_set_of_le (Nat.le_refl _), ht]
    · simp only
      rw [List.drop_set_of_lt (by omega)]
      have := congrArg (List.drop 1) hdr
      rwa [List.drop_drop, List.drop_drop] at this
  · have hpl : isPlain x.1.t = true := by simpa using h
    simp only
    rw [wrapS (by omega)]
    refine g_round (i + 1, cur) ⟨by simp only; omega, hcl, ?_, ?_⟩ id (by simp only; omega) ⟨rfl, ⟨rfl, rfl, rfl, rfl, rfl, rfl, trivial⟩, ⟨rfl, rfl, rfl, rfl, trivial⟩, rfl, fun _ _ => rfl⟩
    · have e1 : cur[i]? = some (renOf s.order x) := by rw [hci, renOf, hpl]; rfl
      simp only
      rw [take_snoc' e1, take_snoc' hri, ht]
    · simp only
      have := congrArg (List.drop 1) hdr
      rwa [List.drop_drop, List.drop_drop] at this
end Hw.Z
namespace Hw.Z
open Go Go.Proofs Hw.M

def nodeC (d : Desc) (m : Hp) (order : List Int) (n : Int) : Nd := match m.n[(n - 1).toNat]? with
  | some x => ⟨x.t, renS order (fieldsAt d x.t) x.f⟩
  | none => ⟨0, []⟩
def canonS (d : Desc) (m : Hp) (s : SS) : Hp := ⟨renS s.order d.globals m.g, s.order.map (nodeC d m s.order)⟩
theorem sGet {l : List Int} {i : Nat} {x : Int} (h : l[i]? = some x) : (l.map intR)[i]? = some (intR x) := by rw [List.getElem?_map, h]; rfl
theorem canonical_ok {d : Desc} {m : Hp} (hw : WG d m) (s : SS) (hs : StOK m s) (hg : m.g.length ≤ 1000000) (hf : ∀ x ∈ m.n, x.f.length ≤ 1000000) :
    FnOK Tryz.prog 71 [.one (.bx 0 0)] (sRL d m s 1) (aggS (memR (canonS d m s))) (sRL d m s 1) := by
  have hsm := hw.small
  have hle := hs.le
  have hR := fun (l : List Fld) (v : List Int) h1 h2 => renumbered_ok d m s l v h1 h2
  refine fn_ok T Tryz.func71 (by kernel_rfl) rfl rfl rfl rfl fun C hC => ?_
  repeat' first
    | refine g_go T hC true 400 rfl rfl ?_
    | refine g_cond rfl (fun h => ?_) (fun h => ?_)
    | refine g_end T hC (by kernel_rfl) ?_
    | refine g_splitD (fun h => ?_) (fun h => ?_)
    | refine g_splitG rfl rfl rfl (fun h => ?_) (fun h => ?_)
    | refine g_splitP rfl rfl (fun h => ?_) (fun h => ?_)
    | refine g_callR hC (hR d.globals m.g hw.glen hg) (nm [0, 1, 2]) rfl rfl (LeSs.refl _) rfl rfl rfl rfl rfl rfl rfl rfl ?_
  have hol : (s.order.map intR).length = s.order.length := List.length_map _
  refine g_adopt hC rfl 142 2 rfl [] trivial [(1003, [.p (intsP (renS s.order d.globals m.g)), .ar 142])] ⟨⟨_, rfl, by decide, .cons (.refl _) (.cons .nil .nil)⟩, trivial⟩ ?_
  refine g_loop (fun i : Nat => i ≤ s.order.length) (fun i => ([(0, .one (.bx 0 0)), (2, .one (.bx 1002 0)), (3, .one (.bx 1003 0)), (23, .one (.ar 1)), (24, I s.order.length), (25, I i)],
      (1002, some (Res.box [.p (.k (.slice none 0 0)), .p (.k (.slice none 0 0))])) :: (1003, some (Res.box [.p (intsP (renS s.order d.globals m.g)), .ar 142])) :: (142, some (Res.arr 2 (((s.order.take i).map (nodeC d m s.order)).map nodeR))) :: sTab d m s 1)) (fun i => s.order.length - i) hC
    0 (Nat.zero_le _) id ⟨rfl, ⟨rfl, rfl, rfl, rfl, by rw [← hol]; rfl, rfl, trivial⟩, ⟨rfl, rfl, rfl, rfl, rfl, rfl, trivial⟩, rfl, fun _ _ => rfl⟩ ?_
  intro i hi
  refine g_run' T hC true 200 rfl ?_
  refine g_cond rfl (fun h => ?_) (fun h => ?_)
  rotate_left
  · have hge : ¬ i < s.order.length := by simpa using h
    rw [List.take_of_length_le (by omega)]
    repeat' first
      | refine g_go T hC true 400 rfl rfl ?_
      | refine g_cond rfl (fun h => ?_) (fun h => ?_)
      | refine g_end T hC (by kernel_rfl) ?_
      | refine g_splitD (fun h => ?_) (fun h => ?_)
      | refine g_splitG rfl rfl rfl (fun h => ?_) (fun h => ?_)
      | refine g_splitP rfl rfl (fun h => ?_) (fun h => ?_)
      | refine g_outE ?_
    refine g_freeze rfl (id := 142) (e := 2) (rows := ((s.order.map (nodeC d m s.order)).map nodeR)) rfl [] trivial [(1002, [.p (intsP (renS s.order d.globals m.g)), .p (nodesP (s.order.map (nodeC d m s.order)))])] ⟨⟨_, rfl, by decide, .cons (.refl _) (.cons .ar .nil)⟩, trivial⟩ ?_
    exact g_fin ⟨.inl rfl, id, _, rfl, .refl _, ⟨rfl, rfl, rfl, trivial⟩, rfl, rfl⟩
  have hlt : i < s.order.length := by simpa using h
  clear h
  obtain ⟨n, hn⟩ := exists_at hlt
  have hnr := hs.inr n (List.mem_of_getElem? hn)
  obtain ⟨x, hx⟩ := exists_at (l := m.n) (i := (n - 1).toNat) (by omega)
  obtain ⟨ht, ty, hty, hlen, _⟩ := hw.node x (List.mem_of_getElem? hx)
  have w1 : IntKind.i64.wrap (n - 1) = n - 1 := wrap64 (by omega)
  have hnc : nodeC d m s.order n = ⟨x.t, renS s.order ty.f x.f⟩ := by simp only [nodeC, hx, fieldsAt, hty, Option.map_some, Option.getD_some]
  have hal : (((s.order.take i).map (nodeC d m s.order)).map nodeR).length = i := by simp only [List.length_map, List.length_take]; omega
  have hr3 : ((s.order.take i).map (nodeC d m s.order)).map nodeR ++ [nodeR ⟨x.t, renS s.order ty.f x.f⟩] = ((s.order.take (i + 1)).map (nodeC d m s.order)).map nodeR := by
    rw [take_snoc' hn, List.map_append, List.map_append, List.map_singleton, List.map_singleton, hnc]
  repeat' first
    | refine g_go T hC true 400 rfl rfl ?_
    | refine g_cond rfl (fun h => ?_) (fun h => ?_)
    | refine g_end T hC (by kernel_rfl) ?_
    | refine g_splitD (fun h => ?_) (fun h => ?_)
    | refine g_splitG rfl rfl rfl (fun h => ?_) (fun h => ?_)
    | refine g_splitP rfl rfl (fun h => ?_) (fun h => ?_)
    | refine g_idxA T hC (rows := s.order.map intR) rfl rfl rfl rfl (Int.natCast_nonneg _) (by rw [hol]; omega) rfl rfl ?_
    | refine g_loadE T hC i 0 (rows := s.order.map intR) (row := intR n) rfl rfl rfl (by simp) (sGet hn) rfl rfl rfl ?_
    | (rw [w1]; refine g_idx T hC rfl rfl rfl (by omega) (map_atI hx) rfl rfl ?_)
    | refine g_idx T hC rfl rfl rfl ht (map_atI hty) rfl rfl ?_
    | refine g_callR hC (hR ty.f x.f hlen (hf x (List.mem_of_getElem? hx))) (nm [0, 1, 2]) rfl rfl (LeSs.refl _) rfl rfl rfl rfl rfl rfl rfl rfl ?_
    | refine g_lit T hC rfl rfl rfl rfl rfl rfl rfl rfl rfl ?_
  refine g_append T 143 hC (rows := ((s.order.take i).map (nodeC d m s.order)).map nodeR) (rows2 := [nodeR ⟨x.t, renS s.order ty.f x.f⟩]) (rows3 := ((s.order.take (i + 1)).map (nodeC d m s.order)).map nodeR) (bytes := 32) rfl rfl rfl rfl (SrcS.sl (T.es_ok _ _ rfl)) hr3 rfl rfl rfl (by kernel_rfl) (by rw [hal, List.length_singleton]; omega) (by rw [hal, List.length_singleton]; omega) rfl rfl rfl ?_
  repeat' first
    | refine g_go T hC true 400 rfl rfl ?_
    | refine g_cond rfl (fun h => ?_) (fun h => ?_)
    | refine g_end T hC (by kernel_rfl) ?_
    | refine g_splitD (fun h => ?_) (fun h => ?_)
    | refine g_splitG rfl rfl rfl (fun h => ?_) (fun h => ?_)
    | refine g_splitP rfl rfl (fun h => ?_) (fun h => ?_)
  rw [wrapS (by omega)]
  exact g_round (i + 1) (by omega) (mv 142 143) (by omega) ⟨rfl, ⟨rfl, rfl, rfl, rfl, rfl, rfl, trivial⟩, ⟨rfl, rfl, rfl, rfl, rfl, rfl, trivial⟩, rfl, fun i hi => mv_low (by omega) hi⟩

/-! What a valid memory gives the search -/
theorem ref_of {d : Desc} {m : Hp} {p : Fld × Int} (h : pairOk d m p = true) : RefOK m p := by
  intro hr
  simp only [isRef, Bool.and_eq_true, Bool.not_eq_true', decide_eq_false_iff_not, isPlain, Bool.or_eq_false_iff] at hr
  obtain ⟨⟨h1, h2⟩, h3⟩ := hr
  simp only [pairOk, rightV, h1, h2, h3, if_false, decide_false, Bool.false_or, Bool.and_eq_true, decide_eq_true_eq] at h
  exact ⟨h.1.1, h.1.2⟩
theorem wg_of {d : Desc} {m : Hp} (h : validM d m = true) : WG d m := by
  simp only [validM, Bool.and_eq_true, decide_eq_true_eq, Bool.not_eq_true', decide_eq_false_iff_not] at h
  obtain ⟨⟨⟨⟨⟨_, hg⟩, hn⟩, hs⟩, hp⟩, hr⟩ := h
  refine ⟨⟨by omega, fun x hx => ?_⟩, by omega, fun p hp' => ref_of (List.all_eq_true.1 hp p hp')⟩
  obtain ⟨h0, ty, hty, hle⟩ := nodeShape_at (List.all_eq_true.1 hs x hx)
  refine ⟨h0, ty, hty, hle, fun p hp' => ref_of (d := d) ?_⟩
  have := List.all_eq_true.1 hr x hx
  simp only [nodeRight, hty, Option.map_some, Option.getD_some] at this
  exact List.all_eq_true.1 this p hp'
theorem fields_le {l : List Fld} {k : Int} (h : fieldsOk l k = true) : (l.length : Int) ≤ k := by
  simp only [fieldsOk, Bool.and_eq_true, decide_eq_true_eq] at h; exact h.1
theorem sizes_of {d : Desc} {m : Hp} (h : validM d m = true) : m.g.length ≤ 1000000 ∧ ∀ x ∈ m.n, x.f.length ≤ 1000000 := by
  have hw := wg_of h
  have ht : hasTypes d = true := by simp only [validM, Bool.and_eq_true] at h; exact h.1.1.1.1.1
  have hv := (hasTypes_parts ht).1
  simp only [validD, validPre, Bool.and_eq_true] at hv
  have hg := fields_le hv.1.1.1.1.1.1.1.1.2
  have ht := hv.1.1.2
  refine ⟨by have := hw.glen; omega, fun x hx => ?_⟩
  obtain ⟨_, ty, hty, hle, _⟩ := hw.node x hx
  have := List.all_eq_true.1 ht ty (List.mem_of_getElem? hty)
  simp only [typeOk, Bool.and_eq_true] at this
  have := fields_le this.2
  omega
theorem search_ok {d : Desc} {m : Hp} (h : validM d m = true) : StOK m (searchS d m) := by
  have hw := wg_of h
  have : ∀ (ps : List (Fld × Int)) (s : SS), (∀ p ∈ ps, RefOK m p) → StOK m s → StOK m (lookS (m.n.length + 1) d m ps s) := by
    intro ps
    induction ps with
    | nil => exact fun s _ h => h
    | cons p ps ih =>
      intro s hp h
      rw [lookS_cons]
      by_cases hr : isRef p = true
      · rw [if_pos hr]
        have hv := hp p (by simp) hr
        exact ih _ (fun q hq => hp q (by simp [hq])) (enterS_keep hw.toWF _ p.2 s hv.1 hv.2 h).1
      · rw [if_neg hr]; exact ih s (fun q hq => hp q (by simp [hq])) h
  exact this _ _ hw.gref ⟨by simp, by simp⟩

/-! Reachable, Canonical, Tree -/
theorem reachable_no {d : Desc} {m : Hp} (hval : validM d m = false) : FnOK Tryz.prog 21 [aggS (descR d), aggS (memR m)] [] (.tup [pS (intsP []), I 1]) [] := by
  refine fn_ok T Tryz.func21 (by kernel_rfl) rfl rfl rfl rfl fun C hC => ?_
  repeat' first
    | refine g_go T hC true 400 rfl rfl ?_
    | refine g_cond rfl (fun h => ?_) (fun h => ?_)
    | refine g_end T hC (by kernel_rfl) ?_
    | refine g_splitD (fun h => ?_) (fun h => ?_)
    | refine g_splitG rfl rfl rfl (fun h => ?_) (fun h => ?_)
    | refine g_splitP rfl rfl (fun h => ?_) (fun h => ?_)
    | refine g_call hC (heapValid_ok d m) rfl rfl (LeSs.refl _) rfl rfl rfl ?_
  · exact g_fin ⟨.inl rfl, id, _, rfl, LeS.tup (.cons (.one (.nil 1)) (.cons (.refl _) .nil)), trivial, rfl, rfl⟩
  · rw [hval] at h; cases h
theorem reachable_ok {d : Desc} {m : Hp} (hval : validM d m = true) : FnOK Tryz.prog 21 [aggS (descR d), aggS (memR m)] [] (.tup [pS (intsP (searchS d m).order), I 0]) [] := by
  refine fn_ok T Tryz.func21 (by kernel_rfl) rfl rfl rfl rfl fun C hC => ?_
  repeat' first
    | refine g_go T hC true 400 rfl rfl ?_
    | refine g_cond rfl (fun h => ?_) (fun h => ?_)
    | refine g_end T hC (by kernel_rfl) ?_
    | refine g_splitD (fun h => ?_) (fun h => ?_)
    | refine g_splitG rfl rfl rfl (fun h => ?_) (fun h => ?_)
    | refine g_splitP rfl rfl (fun h => ?_) (fun h => ?_)
    | refine g_call hC (heapValid_ok d m) rfl rfl (LeSs.refl _) rfl rfl rfl ?_
    | refine g_callR hC (searched_ok (wg_of hval)) (nm [150, 151, 152]) rfl rfl (LeSs.refl _) rfl rfl rfl rfl rfl rfl rfl rfl ?_
  · rw [hval] at h; cases h
  · refine g_freeze rfl (id := 151) (e := 1) (rows := (searchS d m).order.map intR) rfl [(4, pS (intsP (searchS d m).order))] ⟨⟨_, rfl, FrS.ar⟩, trivial⟩ [] trivial ?_
    exact g_fin ⟨.inl rfl, id, _, rfl, .refl _, trivial, rfl, rfl⟩
theorem canon_no {d : Desc} {m : Hp} (hval : validM d m = false) : FnOK Tryz.prog 22 [aggS (descR d), aggS (memR m)] [] (.tup [aggS (memR ⟨[], []⟩), I 1]) [] := by
  refine fn_ok T Tryz.func22 (by kernel_rfl) rfl rfl rfl rfl fun C hC => ?_
  repeat' first
    | refine g_go T hC true 400 rfl rfl ?_
    | refine g_cond rfl (fun h => ?_) (fun h => ?_)
    | refine g_end T hC (by kernel_rfl) ?_
    | refine g_splitD (fun h => ?_) (fun h => ?_)
    | refine g_splitG rfl rfl rfl (fun h => ?_) (fun h => ?_)
    | refine g_splitP rfl rfl (fun h => ?_) (fun h => ?_)
    | refine g_call hC (heapValid_ok d m) rfl rfl (LeSs.refl _) rfl rfl rfl ?_
  · exact g_fin ⟨.inl rfl, id, _, rfl, LeS.tup (.cons (LeS.agg (.cons (.nil 1) (.cons (.nil 2) .nil))) (.cons (.refl _) .nil)), trivial, rfl, rfl⟩
  · rw [hval] at h; cases h
theorem canon_ok {d : Desc} {m : Hp} (hval : validM d m = true) : FnOK Tryz.prog 22 [aggS (descR d), aggS (memR m)] [] (.tup [aggS (memR (canonS d m (searchS d m))), I 0]) [] := by
  have hz := sizes_of hval
  refine fn_ok T Tryz.func22 (by kernel_rfl) rfl rfl rfl rfl fun C hC => ?_
  repeat' first
    | refine g_go T hC true 400 rfl rfl ?_
    | refine g_cond rfl (fun h => ?_) (fun h => ?_)
    | refine g_end T hC (by kernel_rfl) ?_
    | refine g_splitD (fun h => ?_) (fun h => ?_)
    | refine g_splitG rfl rfl rfl (fun h => ?_) (fun h => ?_)
    | refine g_splitP rfl rfl (fun h => ?_) (fun h => ?_)
    | refine g_call hC (heapValid_ok d m) rfl rfl (LeSs.refl _) rfl rfl rfl ?_
    | refine g_callR hC (searched_ok (wg_of hval)) (nm [150, 151, 152]) rfl rfl (LeSs.refl _) rfl rfl rfl rfl rfl rfl rfl rfl ?_
    | refine g_callR hC (canonical_ok (wg_of hval) (searchS d m) (search_ok hval) hz.1 hz.2) (nm [150, 151, 152]) rfl rfl (LeSs.refl _) rfl rfl rfl rfl rfl rfl rfl rfl ?_
  · rw [hval] at h; cases h
  · exact g_fin ⟨.inl rfl, id, _, rfl, .refl _, trivial, rfl, rfl⟩
theorem tree_no {d : Desc} {m : Hp} (hval : validM d m = false) : FnOK Tryz.prog 23 [aggS (descR d), aggS (memR m)] [] (.tup [.bq false, I 0, I 1]) [] := by
  refine fn_ok T Tryz.func23 (by kernel_rfl) rfl rfl rfl rfl fun C hC => ?_
  repeat' first
    | refine g_go T hC true 400 rfl rfl ?_
    | refine g_cond rfl (fun h => ?_) (fun h => ?_)
    | refine g_end T hC (by kernel_rfl) ?_
    | refine g_splitD (fun h => ?_) (fun h => ?_)
    | refine g_splitG rfl rfl rfl (fun h => ?_) (fun h => ?_)
    | refine g_splitP rfl rfl (fun h => ?_) (fun h => ?_)
    | refine g_call hC (heapValid_ok d m) rfl rfl (LeSs.refl _) rfl rfl rfl ?_
  · exact g_fin ⟨.inl rfl, id, _, rfl, LeS.tup (.cons (.qb rfl) (.cons (.refl _) (.cons (.refl _) .nil))), trivial, rfl, rfl⟩
  · rw [hval] at h; cases h
theorem tree_ok {d : Desc} {m : Hp} (hval : validM d m = true) : FnOK Tryz.prog 23 [aggS (descR d), aggS (memR m)] [] (.tup [.bq (decide ((searchS d m).again = 0)), I (searchS d m).again, I 0]) [] := by
  refine fn_ok T Tryz.func23 (by kernel_rfl) rfl rfl rfl rfl fun C hC => ?_
  repeat' first
    | refine g_go T hC true 400 rfl rfl ?_
    | refine g_cond rfl (fun h => ?_) (fun h => ?_)
    | refine g_end T hC (by kernel_rfl) ?_
    | refine g_splitD (fun h => ?_) (fun h => ?_)
    | refine g_splitG rfl rfl rfl (fun h => ?_) (fun h => ?_)
    | refine g_splitP rfl rfl (fun h => ?_) (fun h => ?_)
    | refine g_call hC (heapValid_ok d m) rfl rfl (LeSs.refl _) rfl rfl rfl ?_
    | refine g_callR hC (searched_ok (wg_of hval)) (nm [150, 151, 152]) rfl rfl (LeSs.refl _) rfl rfl rfl rfl rfl rfl rfl rfl ?_
  · rw [hval] at h; cases h
  · exact g_fin ⟨.inl rfl, id, _, rfl, .refl _, trivial, rfl, rfl⟩
end Hw.Z
namespace Hw.Z
open Go Go.Proofs Hw.M

theorem slEqual_ok (a b : List Int) : FnOK Tryz.prog 25 [pS (intsP a), pS (intsP b)] [] (.bq (decide (a = b))) [] := by
  refine fn_ok T Tryz.func25 (by kernel_rfl) rfl rfl rfl rfl fun C hC => ?_
  refine g_len 0 rfl fun hlen => ?_
  rw [List.length_map] at hlen
  repeat' first
    | refine g_go T hC true 400 rfl rfl ?_
    | refine g_cond rfl (fun h => ?_) (fun h => ?_)
    | refine g_end T hC (by kernel_rfl) ?_
    | refine g_splitD (fun h => ?_) (fun h => ?_)
    | refine g_splitG rfl rfl rfl (fun h => ?_) (fun h => ?_)
    | refine g_splitP rfl rfl (fun h => ?_) (fun h => ?_)
    | refine g_retl T (.inl rfl) rfl ?_
  all_goals (try simp only [List.length_map] at *)
  · have : ¬ (a.length : Int) = (b.length : Int) := by simpa using h
    exact (decide_eq_false fun e => this (by rw [e])).symm
  · have hab : a.length = b.length := by have : (a.length : Int) = (b.length : Int) := by simpa using h
                                         omega
    refine g_loop (fun i : Nat => i ≤ a.length ∧ a.take i = b.take i) (fun i => ([(0, pS (intsP a)), (1, pS (intsP b)), (12, I a.length), (13, I i)], [])) (fun i => a.length - i) hC
      0 ⟨Nat.zero_le _, by simp⟩ id ⟨rfl, ⟨rfl, rfl, rfl, rfl, trivial⟩, trivial, rfl, fun _ _ => rfl⟩ ?_
    rintro i ⟨hi, hn⟩
    refine g_run' T hC true 200 rfl ?_
    refine g_cond rfl (fun h => ?_) (fun h => ?_)
    · have hlt : i < a.length := by simpa using h
      obtain ⟨x, hx⟩ := exists_at hlt
      obtain ⟨y, hy⟩ := exists_at (hab ▸ hlt)
      repeat' first
        | refine g_go T hC true 400 rfl rfl ?_
        | refine g_cond rfl (fun h => ?_) (fun h => ?_)
        | refine g_end T hC (by kernel_rfl) ?_
        | refine g_splitD (fun h => ?_) (fun h => ?_)
        | refine g_splitG rfl rfl rfl (fun h => ?_) (fun h => ?_)
        | refine g_splitP rfl rfl (fun h => ?_) (fun h => ?_)
        | refine g_idx T hC rfl rfl rfl (Int.natCast_nonneg _) (map_at (by assumption)) rfl rfl ?_
        | refine g_outR ?_
        | refine g_retl T (.inl rfl) rfl ?_
      · have hxy : x ≠ y := by simpa using h
        exact (decide_eq_false fun e => hxy (by subst e; rw [hx] at hy; exact Option.some.inj hy)).symm
      · have hxy : x = y := by simpa using h
        subst hxy
        rw [wrapS (by omega)]
        exact g_round (i + 1) ⟨by omega, take_eq hx hy hn⟩ id (by omega) ⟨rfl, ⟨rfl, rfl, rfl, rfl, trivial⟩, trivial, rfl, fun _ _ => rfl⟩
    · have hge : ¬ i < a.length := by simpa using h
      repeat' first
        | refine g_go T hC true 400 rfl rfl ?_
        | refine g_cond rfl (fun h => ?_) (fun h => ?_)
        | refine g_end T hC (by kernel_rfl) ?_
        | refine g_splitD (fun h => ?_) (fun h => ?_)
        | refine g_splitG rfl rfl rfl (fun h => ?_) (fun h => ?_)
        | refine g_splitP rfl rfl (fun h => ?_) (fun h => ?_)
        | refine g_outE ?_
        | refine g_retl T (.inl rfl) rfl ?_
      rw [List.take_of_length_le (by omega), List.take_of_length_le (by omega)] at hn
      exact (decide_eq_true hn).symm

/-! The example of the chapter -/
def listD : Desc := ⟨(⟨#[108]⟩ : ByteArray), [⟨(⟨#[84]⟩ : ByteArray), [⟨(⟨#[110, 101, 120, 116]⟩ : ByteArray), (⟨#[84]⟩ : ByteArray)⟩, ⟨(⟨#[110]⟩ : ByteArray), (⟨#[105, 110, 116]⟩ : ByteArray)⟩]⟩], [⟨(⟨#[118]⟩ : ByteArray), (⟨#[84]⟩ : ByteArray)⟩], [], [], [], [], []⟩
def listM : Hp := ⟨[2], [⟨0, [0, 5]⟩, ⟨0, [1, 7]⟩, ⟨0, [0, 9]⟩]⟩
theorem list_ok : FnOK Tryz.prog 62 [] [] (aggS (descR listD)) [] := by
  refine fn_ok T Tryz.func62 (by kernel_rfl) rfl rfl rfl rfl fun C hC => ?_
  repeat' first
    | refine g_go T hC true 400 rfl rfl ?_
    | refine g_cond rfl (fun h => ?_) (fun h => ?_)
    | refine g_end T hC (by kernel_rfl) ?_
    | refine g_splitD (fun h => ?_) (fun h => ?_)
    | refine g_splitG rfl rfl rfl (fun h => ?_) (fun h => ?_)
    | refine g_splitP rfl rfl (fun h => ?_) (fun h => ?_)
    | refine g_lit T hC rfl rfl rfl rfl rfl rfl rfl rfl rfl ?_
  exact g_fin ⟨.inl rfl, id, _, rfl, LeS.agg (.cons (.refl _) (.cons (.refl _) (.cons (.refl _) (.cons (.nil 5) (.cons (.nil 7) (.cons (.nil 6) (.cons (.nil 5) (.cons (.nil 5) .nil)))))))), trivial, rfl, rfl⟩
theorem listValid : validM listD listM = true := by kernel_rfl
theorem listOrder : (searchS listD listM).order = [2, 1] := by kernel_rfl
theorem listCanon : canonS listD listM (searchS listD listM) = ⟨[1], [⟨0, [2, 7]⟩, ⟨0, [0, 5]⟩]⟩ := by kernel_rfl
theorem awake_ok : FnOK Tryz.prog 12 [] [] (.bq true) [] := by
  have hR := reachable_ok listValid
  have hCa := canon_ok listValid
  rw [listOrder] at hR
  rw [listCanon] at hCa
  have hE := slEqual_ok [2, 1] [2, 1]
  have hQ := equal_ok ⟨[1], [⟨0, [2, 7]⟩, ⟨0, [0, 5]⟩]⟩ ⟨[1], [⟨0, [2, 7]⟩, ⟨0, [0, 5]⟩]⟩
  rw [decide_eq_true rfl] at hE hQ
  refine fn_ok T Tryz.func12 (by kernel_rfl) rfl rfl rfl rfl fun C hC => ?_
  repeat' first
    | refine g_go T hC true 400 rfl rfl ?_
    | refine g_cond rfl (fun h => ?_) (fun h => ?_)
    | refine g_end T hC (by kernel_rfl) ?_
    | refine g_splitD (fun h => ?_) (fun h => ?_)
    | refine g_splitG rfl rfl rfl (fun h => ?_) (fun h => ?_)
    | refine g_splitP rfl rfl (fun h => ?_) (fun h => ?_)
    | refine g_lit T hC rfl rfl rfl rfl rfl rfl rfl rfl rfl ?_
    | refine g_call hC (list_ok) rfl rfl (LeSs.refl _) rfl rfl rfl ?_
    | refine g_call hC (hR) rfl rfl (LeSs.refl _) rfl rfl rfl ?_
    | refine g_call hC (hCa) rfl rfl (LeSs.refl _) rfl rfl rfl ?_
    | refine g_call hC (hE) rfl rfl (LeSs.refl _) rfl rfl rfl ?_
    | refine g_call hC (hQ) rfl rfl (LeSs.refl _) rfl rfl rfl ?_
    | refine g_retq T (.inl rfl) rfl ?_
    | refine g_retl T (.inl rfl) rfl ?_
  all_goals first | rfl | (revert h; decide)
theorem large_ok (d : Desc) (l : List Hp) : FnOK Tryz.prog 13 [aggS (descR d), .one (.p (.sl 2 (l.map memR)))] [] (.bq (greatS d || l.any manyS)) [] := by
  have hA := memN_any 27 l manyS (fun y _ => many_ok y)
  refine fn_ok T Tryz.func13 (by kernel_rfl) rfl rfl rfl rfl fun C hC => ?_
  repeat' first
    | refine g_go T hC true 400 rfl rfl ?_
    | refine g_cond rfl (fun h => ?_) (fun h => ?_)
    | refine g_end T hC (by kernel_rfl) ?_
    | refine g_splitD (fun h => ?_) (fun h => ?_)
    | refine g_splitG rfl rfl rfl (fun h => ?_) (fun h => ?_)
    | refine g_splitP rfl rfl (fun h => ?_) (fun h => ?_)
    | refine g_call hC (great_ok d) rfl rfl (LeSs.refl _) rfl rfl rfl ?_
    | refine g_call hC (hA) rfl rfl (LeSs.refl _) rfl rfl rfl ?_
    | refine g_retq T (.inl rfl) rfl ?_
    | refine g_retl T (.inl rfl) rfl ?_
  · rw [h]; rfl
  · rw [h]; rfl
theorem new_valid {d : Desc} (h : hasTypes d = true) : validM d (newHp d) = true := by
  have e : (d.globals.zip (newHp d).g).all (pairOk d (newHp d)) = true := by
    rw [List.all_eq_true]
    intro p hp
    have : p.2 = 0 := by
      have := (List.of_mem_zip (a := p.1) (b := p.2) hp).2
      simp only [newHp] at this
      exact List.eq_of_mem_replicate this
    simp only [pairOk, rightV, this]
    by_cases h1 : p.1.t = (⟨#[105, 110, 116]⟩ : ByteArray)
    · rw [if_pos h1]; rfl
    · rw [if_neg h1]
      by_cases h2 : p.1.t = (⟨#[98, 111, 111, 108]⟩ : ByteArray)
      · rw [if_pos h2]; rfl
      · rw [if_neg h2]; rfl
  simp only [validM, h, e, Bool.true_and, Bool.and_true]
  simp [newHp]
theorem heapForms_ok (d : Desc) (m : Hp) : FnOK Tryz.prog 3 [aggS (descR d), aggS (memR m)] [] (.bq true) [] := by
  have hL := large_ok d [m]
  have hN := heapNew_ok d
  cases h0 : hasTypes d with
  | true =>
    simp only [newRes, h0, if_true] at hN
    have hlen : d.globals.length ≤ 1000 := by
      have hv := (hasTypes_parts h0).1
      simp only [validD, validPre, Bool.and_eq_true] at hv
      have := fields_le hv.1.1.1.1.1.1.1.1.2
      omega
    have hRN := refNew_ok d hlen
    have hQ := equal_ok (newHp d) (newHp d)
    rw [decide_eq_true rfl] at hQ
    have hV := heapValid_ok d (newHp d)
    rw [new_valid h0] at hV
    refine fn_ok T Tryz.func3 (by kernel_rfl) rfl rfl rfl rfl fun C hC => ?_
    repeat' first
      | refine g_go T hC true 400 rfl rfl ?_
      | refine g_bools hC rfl rfl (by kernel_rfl) rfl rfl ?_
      | refine g_cond rfl (fun h => ?_) (fun h => ?_)
      | refine g_end T hC (by kernel_rfl) ?_
      | refine g_splitD (fun h => ?_) (fun h => ?_)
      | refine g_splitG rfl rfl rfl (fun h => ?_) (fun h => ?_)
      | refine g_splitP rfl rfl (fun h => ?_) (fun h => ?_)
      | refine g_call hC (awake_ok) rfl rfl (LeSs.refl _) rfl rfl rfl ?_
      | refine g_lit T hC rfl rfl rfl rfl rfl rfl rfl rfl rfl ?_
      | refine g_call hC (hL) rfl rfl (LeSs.refl _) rfl rfl rfl ?_
      | refine g_call hC (hN) rfl rfl (LeSs.refl _) rfl rfl rfl ?_
      | refine g_call hC (heapValid_ok d m) rfl rfl (LeSs.refl _) rfl rfl rfl ?_
      | refine g_call hC (valid12_ok d m) rfl rfl (LeSs.refl _) rfl rfl rfl ?_
      | refine g_call hC (hasTypes_ok d) rfl rfl (LeSs.refl _) rfl rfl rfl ?_
      | refine g_call hC (hRN) rfl rfl (LeSs.refl _) rfl rfl rfl ?_
      | refine g_call hC (hQ) rfl rfl (LeSs.refl _) rfl rfl rfl ?_
      | refine g_call hC (hV) rfl rfl (LeSs.refl _) rfl rfl rfl ?_
      | refine g_retq T (.inl rfl) rfl ?_
      | refine g_retl T (.inl rfl) rfl ?_
    all_goals clear hL hN hV
    all_goals try clear hRN hQ
    all_goals first | rfl | (exfalso; simp_all; done)
  | false =>
    simp only [newRes, h0, Bool.false_eq_true, if_false] at hN
    refine fn_ok T Tryz.func3 (by kernel_rfl) rfl rfl rfl rfl fun C hC => ?_
    repeat' first
      | refine g_go T hC true 400 rfl rfl ?_
      | refine g_bools hC rfl rfl (by kernel_rfl) rfl rfl ?_
      | refine g_cond rfl (fun h => ?_) (fun h => ?_)
      | refine g_end T hC (by kernel_rfl) ?_
      | refine g_splitD (fun h => ?_) (fun h => ?_)
      | refine g_splitG rfl rfl rfl (fun h => ?_) (fun h => ?_)
      | refine g_splitP rfl rfl (fun h => ?_) (fun h => ?_)
      | refine g_call hC (awake_ok) rfl rfl (LeSs.refl _) rfl rfl rfl ?_
      | refine g_lit T hC rfl rfl rfl rfl rfl rfl rfl rfl rfl ?_
      | refine g_call hC (hL) rfl rfl (LeSs.refl _) rfl rfl rfl ?_
      | refine g_call hC (hN) rfl rfl (LeSs.refl _) rfl rfl rfl ?_
      | refine g_call hC (heapValid_ok d m) rfl rfl (LeSs.refl _) rfl rfl rfl ?_
      | refine g_call hC (valid12_ok d m) rfl rfl (LeSs.refl _) rfl rfl rfl ?_
      | refine g_call hC (hasTypes_ok d) rfl rfl (LeSs.refl _) rfl rfl rfl ?_
      | refine g_call hC (none_ok _) rfl rfl (LeSs.refl _) rfl rfl rfl ?_
      | refine g_retq T (.inl rfl) rfl ?_
      | refine g_retl T (.inl rfl) rfl ?_
    all_goals clear hL hN
    all_goals first | rfl | (exfalso; simp_all; done)
end Hw.Z
