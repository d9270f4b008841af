/- The engine and the contracts. -/
import Derived.Test.YtmnhegkogibipaaGreatDoorC10
import Derived.Test.YtmnhegkogibipaaGreatDoorE3
set_option linter.unusedVariables false
set_option linter.unusedSimpArgs false
namespace Hw.Z
open Go Go.Proofs Hw.M

/-! Memories that are copied, with one node that may be written -/
def zeroNd : List PV := [ki 0, .k (.slice none 0 0)]
/-- The rows while they are laid. -/
def layR (l : List Nd) (i : Nat) : List (List PV) := (l.take i).map nodeR ++ List.replicate (l.length - i) zeroNd
theorem layR_len (l : List Nd) {i : Nat} (h : i ≤ l.length) : (layR l i).length = l.length := by simp only [layR, List.length_append, List.length_map, List.length_take, List.length_replicate]; omega
theorem layR_two (l : List Nd) (i : Nat) : ∀ r ∈ layR l i, r.length = 2 := fun r hr => by
  rcases List.mem_append.1 hr with hr | hr
  · obtain ⟨x, _, rfl⟩ := List.mem_map.1 hr; rfl
  · rw [List.eq_of_mem_replicate hr]; rfl
theorem layR_set {l : List Nd} {i : Nat} {x : Nd} (h : l[i]? = some x) : (layR l i).set i (nodeR x) = layR l (i + 1) := by
  have hlt : i < l.length := (List.getElem?_eq_some_iff.1 h).1
  have hl : ((l.take i).map nodeR).length = i := by simp only [List.length_map, List.length_take]; omega
  have e : l.length - i = (l.length - (i + 1)) + 1 := by omega
  unfold layR
  rw [e, List.replicate_succ, List.set_append_right _ _ (by omega), hl, Nat.sub_self, List.set_cons_zero, take_snoc' h, List.map_append, List.map_singleton, List.append_assoc]
  rfl
theorem layR_zero (l : List Nd) : layR l 0 = List.replicate l.length zeroNd := by simp [layR]
theorem layR_all (l : List Nd) {i : Nat} (h : l.length ≤ i) : layR l i = l.map nodeR := by
  unfold layR
  rw [List.take_of_length_le h, show l.length - i = 0 by omega]; simp
theorem layR_at {l : List Nd} {i : Nat} {x : Nd} (h : l[i]? = some x) {j : Nat} (hj : i < j) : (layR l j)[i]? = some (nodeR x) := by
  have hlt : i < l.length := (List.getElem?_eq_some_iff.1 h).1
  unfold layR
  rw [List.getElem?_append_left (by simp only [List.length_map, List.length_take]; omega), List.getElem?_map, List.getElem?_take, if_pos hj, h]; rfl
/-- The values of a node, none if it is not there. -/
def fAt (m : Hp) (k : Nat) : List Int := ((m.n[k]?).map (·.f)).getD []
theorem fAt_some {m : Hp} {k : Nat} {x : Nd} (h : m.n[k]? = some x) : fAt m k = x.f := by simp only [fAt, h, Option.map_some, Option.getD_some]
def fUp (m : Hp) (k i : Nat) : List Int := if k < i then fAt m k else []
theorem clone12_ok (m : Hp) (k : Nat) (hg : m.g.length ≤ 1000000) (hn : m.n.length ≤ 1000000) (hf : ∀ x ∈ m.n, x.f.length ≤ 1000000) :
    FnOK Tryz.prog 77 [aggS (memR m)] [] (.agg [.ar 0, .ar 1]) [(0, .arr 1 (m.g.map intR)), (1, .arv 2 (m.n.map nodeR) [(2 * k + 1, .ar 2)]), (2, .arr 1 ((fAt m k).map intR))] := by
  have hC1 := clone_ok m.g hg
  refine fn_ok T Tryz.func77 (by kernel_rfl) rfl rfl rfl rfl fun C hC => ?_
  repeat' first
    | refine g_go T hC true 400 rfl rfl ?_
    | refine g_cond rfl (fun h => ?_) (fun h => ?_)
    | refine g_end T hC (by kernel_rfl) ?_
    | refine g_splitD (fun h => ?_) (fun h => ?_)
    | refine g_splitG rfl rfl rfl (fun h => ?_) (fun h => ?_)
    | refine g_splitP rfl rfl (fun h => ?_) (fun h => ?_)
    | refine g_callR hC (hC1) (nm [141]) rfl rfl (LeSs.refl _) rfl rfl rfl rfl rfl rfl rfl rfl ?_
    | (refine g_mk T hC (bytes := 32) (m.n.map nodeR).length rfl rfl rfl rfl rfl rfl (by kernel_rfl) rfl (by rw [List.length_map]; exact hn) rfl rfl rfl ?_)
  rw [List.length_map]
  have hz : (List.replicate m.n.length zeroNd).flatten[2 * k + 1]? = some (.k (.slice none 0 0)) ∨ (List.replicate m.n.length zeroNd).flatten[2 * k + 1]? = none := by
    have hl2 : ∀ r ∈ List.replicate m.n.length zeroNd, r.length = 2 := fun r hr => by rw [List.eq_of_mem_replicate hr]; rfl
    have e := flat_at hl2 (i := k) (c := 1) (by omega)
    rw [Nat.mul_comm k 2] at e
    rw [e]
    by_cases hk : k < m.n.length
    · rw [List.getElem?_replicate, if_pos hk]; exact .inl rfl
    · rw [List.getElem?_replicate, if_neg hk]; exact .inr rfl
  refine g_adoptR hC rfl 150 1 rfl [] trivial [(1012, .arv 2 (List.replicate m.n.length zeroNd) [(2 * k + 1, .ar 150)])] ⟨⟨_, rfl, by decide, AdR.av hz⟩, trivial⟩ ?_
  refine g_loop (fun i : Nat => i ≤ m.n.length) (fun i => ([(2, .one (.bx 1002 0)), (3, .one (.bx 1003 0)), (15, pS (nodesP m.n)), (16, I m.n.length), (17, I i)],
      [(1002, some (Res.box [.p (.k (.slice none 0 0)), .p (.k (.slice none 0 0))])), (1003, some (Res.box [.ar 141, .ar 1012])), (141, some (Res.arr 1 (m.g.map intR))), (1012, some (Res.arv 2 (layR m.n i) [(2 * k + 1, .ar 150)])), (150, some (Res.arr 1 ((fUp m k i).map intR)))])) (fun i => m.n.length - i) hC
    0 (Nat.zero_le _) id ⟨rfl, ⟨rfl, rfl, rfl, rfl, rfl, trivial⟩, ⟨rfl, rfl, rfl, by (rw [layR_zero]; rfl), by (simp [fUp]; rfl), trivial⟩, rfl, fun _ _ => rfl⟩ ?_
  intro i hi
  refine g_run' T hC true 200 rfl ?_
  refine g_cond rfl (fun h => ?_) (fun h => ?_)
  rotate_left
  · have hge : ¬ i < m.n.length := by simpa using h
    rw [layR_all _ (by omega)]
    have hfu : fUp m k i = fAt m k := by
      by_cases hk : k < i
      · simp only [fUp, if_pos hk]
      · have : m.n[k]? = none := List.getElem?_eq_none (by omega)
        simp only [fUp, if_neg hk, fAt, this, Option.map_none, Option.getD_none]
    rw [hfu]
    repeat' first
      | refine g_go T hC true 400 rfl rfl ?_
      | refine g_cond rfl (fun h => ?_) (fun h => ?_)
      | refine g_end T hC (by kernel_rfl) ?_
      | refine g_splitD (fun h => ?_) (fun h => ?_)
      | refine g_splitG rfl rfl rfl (fun h => ?_) (fun h => ?_)
      | refine g_splitP rfl rfl (fun h => ?_) (fun h => ?_)
      | refine g_outE ?_
    exact g_fin ⟨.inl rfl, nm [141, 1012, 150], _, rfl, .refl _, ⟨rfl, rfl, rfl, trivial⟩, rfl, rfl⟩
  have hlt : i < m.n.length := by simpa using h
  clear h
  obtain ⟨x, hx⟩ := exists_at hlt
  have hC2 := clone_ok x.f (hf x (List.mem_of_getElem? hx))
  have hll := layR_len m.n (i := i) (by omega)
  have h2 := layR_two m.n i
  have hcond : ∀ q p, (layR m.n (i + 1)).flatten[q]? = some p → (i * 2 ≤ q ∧ ([.p (ki x.t), .ar 140] : List V)[q - i * 2]? = some (xv [(2 * i + 1, .ar 140), (2 * k + 1, .ar 150)] q p)) ∨
      ((q < i * 2 ∨ i * 2 + 2 ≤ q) ∧ ∃ p0, (layR m.n i).flatten[q]? = some p0 ∧ xv [(2 * k + 1, .ar 150)] q p0 = xv [(2 * i + 1, .ar 140), (2 * k + 1, .ar 150)] q p) := by
    intro q p hq
    rw [← layR_set hx] at hq
    rcases flat_set h2 rfl hq with ⟨c, e1, e2, e3⟩ | ⟨e1, e2⟩
    · left
      refine ⟨by omega, ?_⟩
      rw [show q - i * 2 = c by omega]
      match c, e2, e3 with
      | 0, _, e3 =>
        simp only [nodeR, List.getElem?_cons_zero, Option.some.injEq] at e3; subst e3
        rw [xv_ne (by omega), xv_ne (by omega)]; rfl
      | 1, _, e3 =>
        rw [show q = 2 * i + 1 by omega, xv_eq]; rfl
    · right
      refine ⟨e1, p, e2, ?_⟩
      rw [xv_ne (j := 2 * i + 1) (by omega)]
  repeat' first
    | refine g_go T hC true 400 rfl rfl ?_
    | refine g_cond rfl (fun h => ?_) (fun h => ?_)
    | refine g_end T hC (by kernel_rfl) ?_
    | refine g_splitD (fun h => ?_) (fun h => ?_)
    | refine g_splitG rfl rfl rfl (fun h => ?_) (fun h => ?_)
    | refine g_splitP rfl rfl (fun h => ?_) (fun h => ?_)
    | refine g_idx T hC rfl rfl rfl (Int.natCast_nonneg _) (map_at hx) rfl rfl ?_
    | refine g_callR hC (hC2) (nm [140]) rfl rfl (LeSs.refl _) rfl rfl rfl rfl rfl rfl rfl rfl ?_
    | (refine g_idxV T hC rfl rfl rfl rfl (Int.natCast_nonneg _) (by rw [hll]; omega) rfl rfl ?_)
    | (refine g_storeV T hC (us := [.p (ki x.t), .ar 140]) (layR m.n (i + 1)) [(2 * i + 1, .ar 140), (2 * k + 1, .ar 150)] rfl rfl rfl rfl rfl rfl (by rw [layR_len _ (by omega), hll]) (layR_two _ _) (by rw [hll]; simp only [Int.toNat_natCast, List.length_cons, List.length_nil]; omega) (by simpa using hcond) rfl ?_)
  rw [wrapS (by omega)]
  by_cases hik : i = k
  · subst hik
    refine g_xs rfl 1012 [(2 * i + 1, .ar 140)] rfl (fun j p _ => ?_) ?_
    · by_cases e : 2 * i + 1 = j
      · subst e; rw [xv_eq, xv_eq]
      · rw [xv_ne e, xv_ne e, xv_ne e]
    exact g_round (i + 1) (by omega) (mv 150 140) (by omega) ⟨rfl, ⟨rfl, rfl, rfl, rfl, rfl, trivial⟩, ⟨rfl, rfl, rfl, rfl, by (simp only [fUp, fAt_some hx, if_pos (Nat.lt_succ_self i)]; rfl), trivial⟩, rfl, fun i hi => mv_low (by omega) hi⟩
  · refine g_freezeR rfl 140 rfl [] trivial [(1012, .arv 2 (layR m.n (i + 1)) [(2 * k + 1, .ar 150)])] ⟨⟨_, rfl, by decide, FrR.av rfl (layR_two _ _) (fun q p hq => ?_)⟩, trivial⟩ ?_
    · by_cases e : 2 * i + 1 = q
      · left
        have e1 := flat_at (layR_two m.n (i + 1)) (i := i) (c := 1) (by omega)
        rw [show i * 2 + 1 = q by omega, hq, layR_at hx (Nat.lt_succ_self i)] at e1
        have e2 : p = intsP x.f := by simpa [nodeR] using e1
        subst e2
        refine ⟨rfl, by rw [xv_ne (by omega)]; rfl, _, hq, by rw [e, xv_eq]⟩
      · right
        exact ⟨p, hq, by rw [xv_ne e]⟩
    · have hfu : fUp m k (i + 1) = fUp m k i := by
        unfold fUp
        by_cases h1 : k < i
        · rw [if_pos h1, if_pos (by omega)]
        · rw [if_neg h1, if_neg (by omega)]
      exact g_round (i + 1) (by omega) id (by omega) ⟨rfl, ⟨rfl, rfl, rfl, rfl, rfl, trivial⟩, ⟨rfl, rfl, rfl, rfl, by (rw [hfu]; rfl), trivial⟩, rfl, fun _ _ => rfl⟩
end Hw.Z
namespace Hw.Z
open Go Go.Proofs Hw.M

/-! The fields and the values of a node, or of the globals -/
def outN (m : Hp) (node : Int) : Prop := node < 0 ∨ (m.n.length : Int) < node
instance (m : Hp) (node : Int) : Decidable (outN m node) := by unfold outN; infer_instance
def plF (d : Desc) (m : Hp) (node : Int) : List Fld := if node = 0 then d.globals else if outN m node then [] else ((m.n[(node - 1).toNat]?).map fun x => fieldsAt d x.t).getD []
def plV (m : Hp) (node : Int) : List Int := if node = 0 then m.g else if outN m node then [] else fAt m (node - 1).toNat
theorem pl_zero (d : Desc) (m : Hp) : plF d m 0 = d.globals ∧ plV m 0 = m.g := ⟨by simp only [plF, if_true], by simp only [plV, if_true]⟩
theorem pl_out {d : Desc} {m : Hp} {node : Int} (h0 : node ≠ 0) (h : outN m node) : plF d m node = [] ∧ plV m node = [] := ⟨by simp only [plF, if_neg h0, if_pos h], by simp only [plV, if_neg h0, if_pos h]⟩
theorem pl_in {d : Desc} {m : Hp} {node : Int} {x : Nd} {ty : NodeT} (h0 : node ≠ 0) (h : ¬ outN m node) (hx : m.n[(node - 1).toNat]? = some x) (hty : d.types[x.t.toNat]? = some ty) : plF d m node = ty.f ∧ plV m node = x.f :=
  ⟨by simp only [plF, if_neg h0, if_neg h, hx, fieldsAt, hty, Option.map_some, Option.getD_some], by simp only [plV, if_neg h0, if_neg h, fAt_some hx]⟩
theorem at_in {d : Desc} {m : Hp} {node : Int} (hw : WF d m) (h0 : node ≠ 0) (h : ¬ outN m node) : IntKind.i64.wrap (node - 1) = node - 1 ∧ 0 ≤ node - 1 ∧ ∃ x ty, m.n[(node - 1).toNat]? = some x ∧ 0 ≤ x.t ∧ d.types[x.t.toNat]? = some ty ∧ ty.f.length = x.f.length := by
  have hsm := hw.small
  unfold outN at h
  obtain ⟨x, hx⟩ := exists_at (l := m.n) (i := (node - 1).toNat) (by omega)
  obtain ⟨ht, ty, hty, hlen, _⟩ := hw.node x (List.mem_of_getElem? hx)
  exact ⟨wrap64 (by omega), by omega, x, ty, hx, ht, hty, hlen⟩
theorem pl_len {d : Desc} {m : Hp} (hw : WG d m) (node : Int) : (plF d m node).length = (plV m node).length := by
  by_cases h0 : node = 0
  · subst h0; rw [(pl_zero d m).1, (pl_zero d m).2]; exact hw.glen
  · by_cases h : outN m node
    · rw [(pl_out (d := d) h0 h).1, (pl_out (d := d) h0 h).2]; rfl
    · obtain ⟨_, _, x, ty, hx, _, hty, hl⟩ := at_in hw.toWF h0 h
      rw [(pl_in h0 h hx hty).1, (pl_in h0 h hx hty).2]; exact hl
theorem place_ok {d : Desc} {m : Hp} (hw : WG d m) (node : Int) : FnOK Tryz.prog 75 [aggS (descR d), aggS (memR m), I node] [] (.tup [pS (fieldsP (plF d m node)), pS (intsP (plV m node))]) [] := by
  have hsm := hw.small
  by_cases h0 : node = 0
  · subst h0
    rw [(pl_zero d m).1, (pl_zero d m).2]
    refine fn_ok T Tryz.func75 (by kernel_rfl) rfl rfl rfl rfl fun C hC => ?_
    repeat' first
      | refine g_go T hC true 400 rfl rfl ?_
      | refine g_cond rfl (fun h => ?_) (fun h => ?_)
      | refine g_end T hC (by kernel_rfl) ?_
      | refine g_splitD (fun h => ?_) (fun h => ?_)
      | refine g_splitG rfl rfl rfl (fun h => ?_) (fun h => ?_)
      | refine g_splitP rfl rfl (fun h => ?_) (fun h => ?_)
    all_goals first
      | exact g_fin ⟨.inl rfl, id, _, rfl, .refl _, trivial, rfl, rfl⟩
      | (exfalso; simp_all; done)
  · by_cases ho : outN m node
    · rw [(pl_out (d := d) h0 ho).1, (pl_out (d := d) h0 ho).2]
      unfold outN at ho
      refine fn_ok T Tryz.func75 (by kernel_rfl) rfl rfl rfl rfl fun C hC => ?_
      repeat' first
        | refine g_go T hC true 400 rfl rfl ?_
        | refine g_cond rfl (fun h => ?_) (fun h => ?_)
        | refine g_end T hC (by kernel_rfl) ?_
        | refine g_splitD (fun h => ?_) (fun h => ?_)
        | refine g_splitG rfl rfl rfl (fun h => ?_) (fun h => ?_)
        | refine g_splitP rfl rfl (fun h => ?_) (fun h => ?_)
      all_goals (try simp only [List.length_map, decide_eq_true_eq, decide_eq_false_iff_not] at *)
      all_goals first
        | (exfalso; omega)
        | exact g_fin ⟨.inl rfl, id, _, rfl, LeS.tup (.cons (.one (.nil 2)) (.cons (.one (.nil 1)) .nil)), trivial, rfl, rfl⟩
    · obtain ⟨hw1, hn0, x, ty, hx, ht, hty, hlen⟩ := at_in hw.toWF h0 ho
      rw [(pl_in h0 ho hx hty).1, (pl_in h0 ho hx hty).2]
      unfold outN at ho
      refine fn_ok T Tryz.func75 (by kernel_rfl) rfl rfl rfl rfl fun C hC => ?_
      repeat' first
        | refine g_go T hC true 400 rfl rfl ?_
        | refine g_cond rfl (fun h => ?_) (fun h => ?_)
        | refine g_end T hC (by kernel_rfl) ?_
        | refine g_splitD (fun h => ?_) (fun h => ?_)
        | refine g_splitG rfl rfl rfl (fun h => ?_) (fun h => ?_)
        | refine g_splitP rfl rfl (fun h => ?_) (fun h => ?_)
        | (rw [hw1]; refine g_idx T hC rfl rfl rfl hn0 (map_atI hx) rfl rfl ?_)
        | refine g_idx T hC rfl rfl rfl ht (map_atI hty) rfl rfl ?_
      all_goals first
        | exact g_fin ⟨.inl rfl, id, _, rfl, .refl _, trivial, rfl, rfl⟩
        | (exfalso; simp only [List.length_map, decide_eq_true_eq, decide_eq_false_iff_not] at *; omega)
theorem placeG_ok (d : Desc) (g : List (List PV)) : FnOK Tryz.prog 75 [aggS (descR d), .agg [.ar 0, .ar 1], I 0] [(0, .arr 1 g)] (.tup [pS (fieldsP d.globals), .one (.ar 0)]) [(0, .arr 1 g)] := by
  refine fn_ok T Tryz.func75 (by kernel_rfl) rfl rfl rfl rfl fun C hC => ?_
  refine g_go T hC true 400 rfl rfl ?_
  refine g_cond rfl (fun h => ?_) (fun h => ?_)
  · repeat' first
      | refine g_go T hC true 400 rfl rfl ?_
      | refine g_cond rfl (fun h => ?_) (fun h => ?_)
      | refine g_end T hC (by kernel_rfl) ?_
      | refine g_splitD (fun h => ?_) (fun h => ?_)
      | refine g_splitG rfl rfl rfl (fun h => ?_) (fun h => ?_)
      | refine g_splitP rfl rfl (fun h => ?_) (fun h => ?_)
    exact g_fin ⟨.inl rfl, id, _, rfl, .refl _, ⟨rfl, trivial⟩, rfl, rfl⟩
  · exfalso; simp at h
theorem nodeAt {m : Hp} {k : Nat} {x : Nd} (hx : m.n[k]? = some x) : ∀ (j : Nat) (v : V), ([.p (ki x.t), .ar 2] : List V)[j]? = some v → ∃ p, (m.n.map nodeR).flatten[k * 2 + j]? = some p ∧ xv [(2 * k + 1, .ar 2)] (k * 2 + j) p = v := by
  have h2 : ∀ r ∈ m.n.map nodeR, r.length = 2 := fun r hr => by obtain ⟨y, _, rfl⟩ := List.mem_map.1 hr; rfl
  have hr : (m.n.map nodeR)[k]? = some (nodeR x) := by rw [List.getElem?_map, hx]; rfl
  intro j v hj
  match j, hj with
  | 0, hj =>
    simp only [List.getElem?_cons_zero, Option.some.injEq] at hj; subst hj
    exact ⟨ki x.t, by rw [flat_at h2 (by omega), hr]; rfl, by rw [xv_ne (by omega)]; rfl⟩
  | 1, hj =>
    simp only [List.getElem?_cons_succ, List.getElem?_cons_zero, Option.some.injEq] at hj; subst hj
    exact ⟨intsP x.f, by rw [flat_at h2 (by omega), hr]; rfl, by rw [show k * 2 + 1 = 2 * k + 1 by omega, xv_eq]⟩
  | j + 2, hj => simp at hj
theorem placeN_ok {d : Desc} {m : Hp} (hw : WF d m) {node : Int} (h0 : node ≠ 0) (ho : ¬ outN m node) (f : List (List PV)) :
    FnOK Tryz.prog 75 [aggS (descR d), .agg [.ar 0, .ar 1], I node] [(1, .arv 2 (m.n.map nodeR) [(2 * (node - 1).toNat + 1, .ar 2)]), (2, .arr 1 f)] (.tup [pS (fieldsP (plF d m node)), .one (.ar 2)]) [(1, .arv 2 (m.n.map nodeR) [(2 * (node - 1).toNat + 1, .ar 2)]), (2, .arr 1 f)] := by
  obtain ⟨hw1, hn0, x, ty, hx, ht, hty, hlen⟩ := at_in hw h0 ho
  rw [(pl_in h0 ho hx hty).1]
  have hlt : (node - 1).toNat < m.n.length := (List.getElem?_eq_some_iff.1 hx).1
  unfold outN at ho
  refine fn_ok T Tryz.func75 (by kernel_rfl) rfl rfl rfl rfl fun C hC => ?_
  repeat' first
    | refine g_go T hC true 400 rfl rfl ?_
    | refine g_cond rfl (fun h => ?_) (fun h => ?_)
    | refine g_end T hC (by kernel_rfl) ?_
    | refine g_splitD (fun h => ?_) (fun h => ?_)
    | refine g_splitG rfl rfl rfl (fun h => ?_) (fun h => ?_)
    | refine g_splitP rfl rfl (fun h => ?_) (fun h => ?_)
    | refine g_lenV T hC rfl rfl rfl rfl rfl ?_
    | (rw [hw1]; refine g_idxV T hC rfl rfl rfl rfl hn0 (by rw [List.length_map]; omega) rfl rfl ?_)
    | (refine g_loadV T hC [.p (ki x.t), .ar 2] rfl rfl rfl (nodeAt hx) rfl rfl rfl ?_)
    | refine g_idx T hC rfl rfl rfl ht (map_atI hty) rfl rfl ?_
  all_goals first
    | exact g_fin ⟨.inl rfl, id, _, rfl, .refl _, ⟨rfl, rfl, trivial⟩, rfl, rfl⟩
    | (exfalso; simp only [List.length_map, decide_eq_true_eq, decide_eq_false_iff_not] at *; omega)
end Hw.Z
namespace Hw.Z
open Go Go.Proofs Hw.M

/-! Read and Write -/
theorem intsAt {l : List Int} {i : Int} {x : Int} (h : l[i.toNat]? = some x) : (l.map intR)[i.toNat]? = some (intR x) := map_atI h
theorem set_mapI (l : List Int) (i : Nat) (x y : Int) : (l.map intR).set i (setAt (intR y) 0 [ki x]) = (l.set i x).map intR := by
  rw [List.map_set]; rfl
def offF (l : Nat) (field : Int) : Prop := field < 0 ∨ (l : Int) ≤ field
instance (l : Nat) (field : Int) : Decidable (offF l field) := by unfold offF; infer_instance
theorem read_no {d : Desc} {m : Hp} (hval : validM d m = false) (node field : Int) : FnOK Tryz.prog 32 [aggS (descR d), aggS (memR m), I node, I field] [] (.tup [I 0, I 1]) [] := by
  have hV := heapValid_ok d m
  rw [hval] at hV
  refine fn_ok T Tryz.func32 (by kernel_rfl) rfl rfl rfl rfl fun C hC => ?_
  repeat' first
    | refine g_go T hC true 400 rfl rfl ?_
    | refine g_cond rfl (fun h => ?_) (fun h => ?_)
    | refine g_end T hC (by kernel_rfl) ?_
    | refine g_splitD (fun h => ?_) (fun h => ?_)
    | refine g_splitG rfl rfl rfl (fun h => ?_) (fun h => ?_)
    | refine g_splitP rfl rfl (fun h => ?_) (fun h => ?_)
    | refine g_call hC (hV) rfl rfl (LeSs.refl _) rfl rfl rfl ?_
  all_goals first
    | exact g_fin ⟨.inl rfl, id, _, rfl, .refl _, trivial, rfl, rfl⟩
    | (exfalso; simp_all; done)
theorem read_ok {d : Desc} {m : Hp} (hval : validM d m = true) (node field : Int) : FnOK Tryz.prog 32 [aggS (descR d), aggS (memR m), I node, I field] []
    (.tup [I (if offF (plV m node).length field then 0 else ((plV m node)[field.toNat]?).getD 0), I (if offF (plV m node).length field then 2 else 0)]) [] := by
  have hV := heapValid_ok d m
  rw [hval] at hV
  have hP := place_ok (wg_of hval) node
  by_cases ho : offF (plV m node).length field
  · rw [if_pos ho, if_pos ho]
    unfold offF at ho
    refine fn_ok T Tryz.func32 (by kernel_rfl) rfl rfl rfl rfl fun C hC => ?_
    repeat' first
      | refine g_go T hC true 400 rfl rfl ?_
      | refine g_cond rfl (fun h => ?_) (fun h => ?_)
      | refine g_end T hC (by kernel_rfl) ?_
      | refine g_splitD (fun h => ?_) (fun h => ?_)
      | refine g_splitG rfl rfl rfl (fun h => ?_) (fun h => ?_)
      | refine g_splitP rfl rfl (fun h => ?_) (fun h => ?_)
      | refine g_call hC (hV) rfl rfl (LeSs.refl _) rfl rfl rfl ?_
      | refine g_call hC (hP) rfl rfl (LeSs.refl _) rfl rfl rfl ?_
    all_goals (try simp only [List.length_map, decide_eq_true_eq, decide_eq_false_iff_not] at *)
    all_goals first
      | (exfalso; simp_all; done)
      | (exfalso; omega)
      | exact g_fin ⟨.inl rfl, id, _, rfl, .refl _, trivial, rfl, rfl⟩
  · rw [if_neg ho, if_neg ho]
    unfold offF at ho
    obtain ⟨y, hy⟩ := exists_at (l := plV m node) (i := field.toNat) (by omega)
    rw [hy, Option.getD_some]
    refine fn_ok T Tryz.func32 (by kernel_rfl) rfl rfl rfl rfl fun C hC => ?_
    repeat' first
      | refine g_go T hC true 400 rfl rfl ?_
      | refine g_cond rfl (fun h => ?_) (fun h => ?_)
      | refine g_end T hC (by kernel_rfl) ?_
      | refine g_splitD (fun h => ?_) (fun h => ?_)
      | refine g_splitG rfl rfl rfl (fun h => ?_) (fun h => ?_)
      | refine g_splitP rfl rfl (fun h => ?_) (fun h => ?_)
      | refine g_call hC (hV) rfl rfl (LeSs.refl _) rfl rfl rfl ?_
      | refine g_call hC (hP) rfl rfl (LeSs.refl _) rfl rfl rfl ?_
      | (refine g_idx T hC rfl rfl rfl (by omega) (map_atI hy) rfl rfl ?_)
    all_goals first
      | exact g_fin ⟨.inl rfl, id, _, rfl, .refl _, trivial, rfl, rfl⟩
      | (exfalso; cases h; done)
      | (exfalso; simp only [List.length_map, decide_eq_true_eq, decide_eq_false_iff_not] at *; simp_all; done)
      | (exfalso; cases h; done)
      | (exfalso; simp only [List.length_map, decide_eq_true_eq, decide_eq_false_iff_not] at *; omega)

def writeM (m : Hp) (node field v : Int) : Hp := if node = 0 then ⟨m.g.set field.toNat v, m.n⟩ else ⟨m.g, match m.n[(node - 1).toNat]? with
  | some x => m.n.set (node - 1).toNat ⟨x.t, x.f.set field.toNat v⟩
  | none => m.n⟩
theorem writeM_in {m : Hp} {node field v : Int} {x : Nd} (h0 : node ≠ 0) (hx : m.n[(node - 1).toNat]? = some x) : writeM m node field v = ⟨m.g, m.n.set (node - 1).toNat ⟨x.t, x.f.set field.toNat v⟩⟩ := by
  simp only [writeM, if_neg h0, hx]
theorem rows_two (l : List Nd) : ∀ r ∈ l.map nodeR, r.length = 2 := fun r hr => by obtain ⟨y, _, rfl⟩ := List.mem_map.1 hr; rfl
theorem drop_out (l : List Nd) (id : Nat) : ∀ j p, (l.map nodeR).flatten[j]? = some p → xv [(2 * l.length + 1, .ar id)] j p = .p p := fun j p hj => by
  have h1 := (List.getElem?_eq_some_iff.1 hj).1
  rw [flat_len (rows_two l), List.length_map] at h1
  rw [xv_ne (by omega)]; rfl
/-- The written node's row, frozen. -/
theorem fr_node {l : List Nd} {k : Nat} {x : Nd} (hx : l[k]? = some x) (f' : List Int) (id : Nat) : FrR id 1 (f'.map intR) (.arv 2 (l.map nodeR) [(2 * k + 1, .ar id)]) (.arv 2 ((l.set k ⟨x.t, f'⟩).map nodeR) []) := by
  refine FrR.av (by simp only [List.length_map, List.length_set]) (rows_two _) fun q p hq => ?_
  rw [List.map_set] at hq
  have hr : (l.map nodeR)[k]? = some (nodeR x) := by rw [List.getElem?_map, hx]; rfl
  rcases flat_set (rows_two l) rfl hq with ⟨c, e1, e2, e3⟩ | ⟨e1, e2⟩
  · match c, e1, e2, e3 with
    | 0, e1, _, e3 =>
      right
      refine ⟨ki x.t, by rw [e1, flat_at (rows_two l) (by omega), hr]; rfl, ?_⟩
      simp only [nodeR, List.getElem?_cons_zero, Option.some.injEq] at e3; subst e3
      rw [xv_ne (by omega)]
    | 1, e1, _, e3 =>
      left
      simp only [nodeR, List.getElem?_cons_succ, List.getElem?_cons_zero, Option.some.injEq] at e3; subst e3
      exact ⟨rfl, rfl, intsP x.f, by rw [e1, flat_at (rows_two l) (by omega), hr]; rfl, by rw [show q = 2 * k + 1 by omega, xv_eq]⟩
  · right
    refine ⟨p, e2, ?_⟩
    rw [xv_ne (by omega)]
theorem write_no {d : Desc} {m : Hp} (hval : validM d m = false) (node field v : Int) : FnOK Tryz.prog 31 [aggS (descR d), aggS (memR m), I node, I field, I v] [] (.tup [aggS (memR ⟨[], []⟩), I 1]) [] := by
  have hT := typesOf_ok d
  cases h0 : hasTypes d with
  | true =>
    simp only [tyRes, tyRL, h0, if_true] at hT
    have hVT := validT_ok d m
    rw [validMM_V h0, hval] at hVT
    refine fn_ok T Tryz.func31 (by kernel_rfl) rfl rfl rfl rfl fun C hC => ?_
    repeat' first
      | refine g_go T hC true 400 rfl rfl ?_
      | refine g_cond rfl (fun h => ?_) (fun h => ?_)
      | refine g_end T hC (by kernel_rfl) ?_
      | refine g_splitD (fun h => ?_) (fun h => ?_)
      | refine g_splitG rfl rfl rfl (fun h => ?_) (fun h => ?_)
      | refine g_splitP rfl rfl (fun h => ?_) (fun h => ?_)
      | (refine g_callR hC hT (nm [150]) rfl rfl (LeSs.refl _) rfl rfl rfl rfl rfl rfl rfl rfl ?_)
      | refine g_callR hC (hVT) (nm [150]) rfl rfl (LeSs.refl _) rfl rfl rfl rfl rfl rfl rfl rfl ?_
    all_goals first
      | exact g_fin ⟨.inl rfl, id, _, rfl, LeS.tup (.cons (LeS.agg (.cons (.nil 1) (.cons (.nil 2) .nil))) (.cons (.refl _) .nil)), trivial, rfl, rfl⟩
      | (exfalso; simp_all; done)
  | false =>
    simp only [tyRes, tyRL, h0, Bool.false_eq_true, if_false] at hT
    refine fn_ok T Tryz.func31 (by kernel_rfl) rfl rfl rfl rfl fun C hC => ?_
    repeat' first
      | refine g_go T hC true 400 rfl rfl ?_
      | refine g_cond rfl (fun h => ?_) (fun h => ?_)
      | refine g_end T hC (by kernel_rfl) ?_
      | refine g_splitD (fun h => ?_) (fun h => ?_)
      | refine g_splitG rfl rfl rfl (fun h => ?_) (fun h => ?_)
      | refine g_splitP rfl rfl (fun h => ?_) (fun h => ?_)
      | refine g_call hC (hT) rfl rfl (LeSs.refl _) rfl rfl rfl ?_
      | refine g_call hC (validN_ok d m) rfl rfl (LeSs.refl _) rfl rfl rfl ?_
    all_goals first
      | exact g_fin ⟨.inl rfl, id, _, rfl, LeS.tup (.cons (LeS.agg (.cons (.nil 1) (.cons (.nil 2) .nil))) (.cons (.refl _) .nil)), trivial, rfl, rfl⟩
      | (exfalso; simp_all; done)
theorem write_off {d : Desc} {m : Hp} (hval : validM d m = true) {node field : Int} (v : Int) (ho : offF (plV m node).length field) : FnOK Tryz.prog 31 [aggS (descR d), aggS (memR m), I node, I field, I v] [] (.tup [aggS (memR ⟨[], []⟩), I 2]) [] := by
  have h0 : hasTypes d = true := by simp only [validM, Bool.and_eq_true] at hval; exact hval.1.1.1.1.1
  have hT := typesOf_ok d
  simp only [tyRes, tyRL, h0, if_true] at hT
  have hVT := validT_ok d m
  rw [validMM_V h0, hval] at hVT
  have hP := place_ok (wg_of hval) node
  have hl := pl_len (wg_of hval) node
  unfold offF at ho
  refine fn_ok T Tryz.func31 (by kernel_rfl) rfl rfl rfl rfl fun C hC => ?_
  repeat' first
    | refine g_go T hC true 400 rfl rfl ?_
    | refine g_cond rfl (fun h => ?_) (fun h => ?_)
    | refine g_end T hC (by kernel_rfl) ?_
    | refine g_splitD (fun h => ?_) (fun h => ?_)
    | refine g_splitG rfl rfl rfl (fun h => ?_) (fun h => ?_)
    | refine g_splitP rfl rfl (fun h => ?_) (fun h => ?_)
    | (refine g_callR hC hT (nm [150]) rfl rfl (LeSs.refl _) rfl rfl rfl rfl rfl rfl rfl rfl ?_)
    | refine g_callR hC (hVT) (nm [150]) rfl rfl (LeSs.refl _) rfl rfl rfl rfl rfl rfl rfl rfl ?_
    | refine g_call hC (hP) rfl rfl (LeSs.refl _) rfl rfl rfl ?_
  all_goals (try simp only [List.length_map, decide_eq_true_eq, decide_eq_false_iff_not] at *)
  all_goals first
    | (exfalso; omega)
    | (exfalso; simp_all; done)
    | exact g_fin ⟨.inl rfl, id, _, rfl, LeS.tup (.cons (LeS.agg (.cons (.nil 1) (.cons (.nil 2) .nil))) (.cons (.refl _) .nil)), trivial, rfl, rfl⟩
theorem write_bad {d : Desc} {m : Hp} (hval : validM d m = true) {node field v : Int} (ho : ¬ offF (plV m node).length field) {f : Fld} (hf : (plF d m node)[field.toNat]? = some f) (hr : rightM d m f.t v = false) :
    FnOK Tryz.prog 31 [aggS (descR d), aggS (memR m), I node, I field, I v] [] (.tup [aggS (memR ⟨[], []⟩), I 11]) [] := by
  have h0 : hasTypes d = true := by simp only [validM, Bool.and_eq_true] at hval; exact hval.1.1.1.1.1
  have hT := typesOf_ok d
  simp only [tyRes, tyRL, h0, if_true] at hT
  have hVT := validT_ok d m
  rw [validMM_V h0, hval] at hVT
  have hP := place_ok (wg_of hval) node
  have hR := right12_ok d m f.t v
  rw [hr] at hR
  unfold offF at ho
  have hf0 : 0 ≤ field := by omega
  refine fn_ok T Tryz.func31 (by kernel_rfl) rfl rfl rfl rfl fun C hC => ?_
  repeat' first
    | refine g_go T hC true 400 rfl rfl ?_
    | refine g_cond rfl (fun h => ?_) (fun h => ?_)
    | refine g_end T hC (by kernel_rfl) ?_
    | refine g_splitD (fun h => ?_) (fun h => ?_)
    | refine g_splitG rfl rfl rfl (fun h => ?_) (fun h => ?_)
    | refine g_splitP rfl rfl (fun h => ?_) (fun h => ?_)
    | (refine g_callR hC hT (nm [150]) rfl rfl (LeSs.refl _) rfl rfl rfl rfl rfl rfl rfl rfl ?_)
    | refine g_callR hC (hVT) (nm [150]) rfl rfl (LeSs.refl _) rfl rfl rfl rfl rfl rfl rfl rfl ?_
    | refine g_call hC (hP) rfl rfl (LeSs.refl _) rfl rfl rfl ?_
    | (refine g_idx T hC rfl rfl rfl hf0 (map_atI hf) rfl rfl ?_)
    | refine g_callR hC (hR) (nm [150]) rfl rfl (LeSs.refl _) rfl rfl rfl rfl rfl rfl rfl rfl ?_
  all_goals first
    | exact g_fin ⟨.inl rfl, id, _, rfl, LeS.tup (.cons (LeS.agg (.cons (.nil 1) (.cons (.nil 2) .nil))) (.cons (.refl _) .nil)), trivial, rfl, rfl⟩
    | (exfalso; cases h; done)
    | (exfalso; simp only [List.length_map, decide_eq_true_eq, decide_eq_false_iff_not] at *; simp_all; done)
    | (exfalso; cases h; done)
    | (exfalso; simp only [List.length_map, decide_eq_true_eq, decide_eq_false_iff_not] at *; omega)
theorem write_ok {d : Desc} {m : Hp} (hval : validM d m = true) {node field v : Int} (ho : ¬ offF (plV m node).length field) {f : Fld} (hf : (plF d m node)[field.toNat]? = some f) (hr : rightM d m f.t v = true) :
    FnOK Tryz.prog 31 [aggS (descR d), aggS (memR m), I node, I field, I v] [] (.tup [aggS (memR (writeM m node field v)), I 0]) [] := by
  have h0 : hasTypes d = true := by simp only [validM, Bool.and_eq_true] at hval; exact hval.1.1.1.1.1
  have hT := typesOf_ok d
  simp only [tyRes, tyRL, h0, if_true] at hT
  have hVT := validT_ok d m
  rw [validMM_V h0, hval] at hVT
  have hw := wg_of hval
  have hP := place_ok hw node
  have hR := right12_ok d m f.t v
  rw [hr] at hR
  have hz := sizes_of hval
  have hsm := hw.small
  obtain ⟨y, hy⟩ := exists_at (l := plV m node) (i := field.toNat) (by unfold offF at ho; omega)
  unfold offF at ho
  have hf0 : 0 ≤ field := by omega
  by_cases hn0 : node = 0
  · subst hn0
    rw [(pl_zero d m).2] at hy ho hP
    rw [(pl_zero d m).1] at hf hP
    have hlt : field.toNat < m.g.length := (List.getElem?_eq_some_iff.1 hy).1
    have hC1 := clone12_ok m m.n.length hz.1 (by omega) hz.2
    have hG := placeG_ok d (m.g.map intR)
    have hwm : writeM m 0 field v = ⟨m.g.set field.toNat v, m.n⟩ := by simp only [writeM, if_true]
    rw [hwm]
    refine fn_ok T Tryz.func31 (by kernel_rfl) rfl rfl rfl rfl fun C hC => ?_
    repeat' first
      | refine g_go T hC true 400 rfl rfl ?_
      | refine g_cond rfl (fun h => ?_) (fun h => ?_)
      | refine g_end T hC (by kernel_rfl) ?_
      | refine g_splitD (fun h => ?_) (fun h => ?_)
      | refine g_splitG rfl rfl rfl (fun h => ?_) (fun h => ?_)
      | refine g_splitP rfl rfl (fun h => ?_) (fun h => ?_)
      | (refine g_callR hC hT (nm [150]) rfl rfl (LeSs.refl _) rfl rfl rfl rfl rfl rfl rfl rfl ?_)
      | refine g_callR hC (hVT) (nm [150]) rfl rfl (LeSs.refl _) rfl rfl rfl rfl rfl rfl rfl rfl ?_
      | refine g_call hC (hP) rfl rfl (LeSs.refl _) rfl rfl rfl ?_
      | (refine g_idx T hC rfl rfl rfl hf0 (map_atI hf) rfl rfl ?_)
      | refine g_callR hC (hR) (nm [150]) rfl rfl (LeSs.refl _) rfl rfl rfl rfl rfl rfl rfl rfl ?_
      | refine g_callR hC (hC1) (nm [141, 142, 143]) rfl rfl (LeSs.refl _) rfl rfl rfl rfl rfl rfl rfl rfl ?_
      | refine g_callR hC (hG) (nm [141, 142]) rfl rfl (LeSs.refl _) rfl rfl rfl rfl rfl rfl rfl rfl ?_
      | (refine g_idxA T hC (rows := m.g.map intR) rfl rfl rfl rfl hf0 (by rw [List.length_map]; omega) rfl rfl ?_)
      | (refine g_storeE T hC field.toNat 0 (rows := m.g.map intR) (row := intR y) (us := [ki v]) (rows' := (m.g.set field.toNat v).map intR) rfl rfl rfl rfl rfl rfl (by simp) (intsAt hy) (Nat.le_refl 1) (set_mapI _ _ _ _) rfl ?_)
    all_goals first
      | (exfalso; cases h; done)
      | (exfalso; simp only [List.length_map, decide_eq_true_eq, decide_eq_false_iff_not] at *; simp_all; done)
      | (exfalso; cases h; done)
      | (exfalso; simp only [List.length_map, decide_eq_true_eq, decide_eq_false_iff_not] at *; omega)
      | skip
    refine g_dropX rfl 142 rfl (drop_out m.n 143) ?_
    refine g_freeze rfl (id := 142) (e := 2) (rows := m.n.map nodeR) rfl [] trivial [(1010, [.ar 141, .p (nodesP m.n)])] ⟨⟨_, rfl, by decide, .cons (.refl _) (.cons .ar .nil)⟩, trivial⟩ ?_
    refine g_freeze rfl (id := 141) (e := 1) (rows := (m.g.set field.toNat v).map intR) rfl [] trivial [(1010, [.p (intsP (m.g.set field.toNat v)), .p (nodesP m.n)])] ⟨⟨_, rfl, by decide, .cons .ar (.cons (.refl _) .nil)⟩, trivial⟩ ?_
    exact g_fin ⟨.inl rfl, id, _, rfl, .refl _, trivial, rfl, rfl⟩
  · by_cases hno : outN m node
    · rw [(pl_out (d := d) hn0 hno).2] at hy; simp at hy
    · obtain ⟨_, hn1, x, ty, hx, ht, hty, hlen⟩ := at_in hw.toWF hn0 hno
      have hN := placeN_ok hw.toWF hn0 hno (x.f.map intR)
      have hC1 := clone12_ok m (node - 1).toNat hz.1 (by omega) hz.2
      rw [fAt_some hx] at hC1
      rw [(pl_in hn0 hno hx hty).2] at hy ho hP
      rw [(pl_in hn0 hno hx hty).1] at hf hP hN
      have hlt : field.toNat < x.f.length := (List.getElem?_eq_some_iff.1 hy).1
      rw [writeM_in hn0 hx]
      refine fn_ok T Tryz.func31 (by kernel_rfl) rfl rfl rfl rfl fun C hC => ?_
      repeat' first
        | refine g_go T hC true 400 rfl rfl ?_
        | refine g_cond rfl (fun h => ?_) (fun h => ?_)
        | refine g_end T hC (by kernel_rfl) ?_
        | refine g_splitD (fun h => ?_) (fun h => ?_)
        | refine g_splitG rfl rfl rfl (fun h => ?_) (fun h => ?_)
        | refine g_splitP rfl rfl (fun h => ?_) (fun h => ?_)
        | (refine g_callR hC hT (nm [150]) rfl rfl (LeSs.refl _) rfl rfl rfl rfl rfl rfl rfl rfl ?_)
        | refine g_callR hC (hVT) (nm [150]) rfl rfl (LeSs.refl _) rfl rfl rfl rfl rfl rfl rfl rfl ?_
        | refine g_call hC (hP) rfl rfl (LeSs.refl _) rfl rfl rfl ?_
        | (refine g_idx T hC rfl rfl rfl hf0 (map_atI hf) rfl rfl ?_)
        | refine g_callR hC (hR) (nm [150]) rfl rfl (LeSs.refl _) rfl rfl rfl rfl rfl rfl rfl rfl ?_
        | refine g_callR hC (hC1) (nm [141, 142, 143]) rfl rfl (LeSs.refl _) rfl rfl rfl rfl rfl rfl rfl rfl ?_
        | refine g_callR hC (hN) (nm [141, 142, 143]) rfl rfl (LeSs.refl _) rfl rfl rfl rfl rfl rfl rfl rfl ?_
        | (refine g_idxA T hC (rows := x.f.map intR) rfl rfl rfl rfl hf0 (by rw [List.length_map]; omega) rfl rfl ?_)
        | (refine g_storeE T hC field.toNat 0 (rows := x.f.map intR) (row := intR y) (us := [ki v]) (rows' := (x.f.set field.toNat v).map intR) rfl rfl rfl rfl rfl rfl (by simp) (intsAt hy) (Nat.le_refl 1) (set_mapI _ _ _ _) rfl ?_)
      all_goals first
        | (exfalso; cases h; done)
        | (exfalso; simp only [List.length_map, decide_eq_true_eq, decide_eq_false_iff_not] at *; simp_all; done)
        | (exfalso; cases h; done)
        | (exfalso; simp only [List.length_map, decide_eq_true_eq, decide_eq_false_iff_not] at *; omega)
        | skip
      refine g_freezeR rfl 143 (e := 1) (rows := (x.f.set field.toNat v).map intR) rfl [] trivial [(142, .arv 2 ((m.n.set (node - 1).toNat ⟨x.t, x.f.set field.toNat v⟩).map nodeR) [])] ⟨⟨_, rfl, by decide, fr_node hx _ 143⟩, trivial⟩ ?_
      refine g_toP rfl 142 rfl ?_
      refine g_freeze rfl (id := 142) (e := 2) (rows := (m.n.set (node - 1).toNat ⟨x.t, x.f.set field.toNat v⟩).map nodeR) rfl [] trivial [(1010, [.ar 141, .p (nodesP (m.n.set (node - 1).toNat ⟨x.t, x.f.set field.toNat v⟩))])] ⟨⟨_, rfl, by decide, .cons (.refl _) (.cons .ar .nil)⟩, trivial⟩ ?_
      refine g_freeze rfl (id := 141) (e := 1) (rows := m.g.map intR) rfl [] trivial [(1010, [.p (intsP m.g), .p (nodesP (m.n.set (node - 1).toNat ⟨x.t, x.f.set field.toNat v⟩))])] ⟨⟨_, rfl, by decide, .cons .ar (.cons (.refl _) .nil)⟩, trivial⟩ ?_
      exact g_fin ⟨.inl rfl, id, _, rfl, .refl _, trivial, rfl, rfl⟩
end Hw.Z
