/- The engine and the contracts. -/
import Derived.Test.YtmnhegkogibipaaGreatDoorC6
import Derived.Test.YtmnhegkogibipaaGreatDoorE3
set_option linter.unusedVariables false
set_option linter.unusedSimpArgs false
namespace Hw.Z
open Go Go.Proofs Hw.M

abbrev mapR (d : Desc) : RL := [(0, .map (encE strKey (tm d)))]
def rightM (d : Desc) (m : Hp) (t : Str) (v : Int) : Bool :=
  if t = (⟨#[105, 110, 116]⟩ : ByteArray) then decide (-1099511627776 ≤ v) && decide (v ≤ 1099511627776)
  else if t = (⟨#[98, 111, 111, 108]⟩ : ByteArray) then decide (v = 0) || decide (v = 1)
  else decide (v = 0) || (decide (0 < v) && decide (v ≤ m.n.length) && decide ((m.n[(v - 1).toNat]?).map (·.t) = some (tyD d t)))
theorem vAt {m : Hp} {v : Int} (hl : m.n.length ≤ 9223372036854775807) (h1 : decide (0 < v) = true) (h2 : decide (v ≤ ((m.n.map nodeR).length : Int)) = true) : IntKind.i64.wrap (v - 1) = v - 1 ∧ 0 ≤ v - 1 ∧ ∃ x, m.n[(v - 1).toNat]? = some x := by
  have e1 := of_decide_eq_true h1
  have e2 := of_decide_eq_true h2
  rw [List.length_map] at e2
  exact ⟨wrap64 (by omega), by omega, exists_at (by omega)⟩
theorem right12_ok (d : Desc) (m : Hp) (t : Str) (v : Int) : FnOK Tryz.prog 76 [.one (.mp 0), aggS (memR m), Sr t, I v] (mapR d) (.bq (rightM d m t v)) (mapR d) := by
  refine fn_ok T Tryz.func76 (by kernel_rfl) rfl rfl rfl rfl fun C hC => ?_
  refine g_lenA rfl 1 1 rfl rfl fun hlen => ?_
  rw [List.length_map] at hlen
  repeat' first
    | refine g_go T hC true 400 rfl rfl ?_
    | refine g_condS rfl (fun h => ?_) (fun h => ?_)
    | refine g_end T hC (by kernel_rfl) ?_
    | refine g_splitD (fun h => ?_) (fun h => ?_)
    | refine g_splitG rfl rfl rfl (fun h => ?_) (fun h => ?_)
    | refine g_splitP rfl rfl (fun h => ?_) (fun h => ?_)
    | refine g_lookupF strKey hC (kt := 9) (et := 3) (c0 := .int .i64 0) rfl rfl rfl (by kernel_rfl) (by kernel_rfl) (by kernel_rfl) rfl (tm_getD d t) rfl rfl ?_
    | (obtain ⟨hw, hv0, x, hx⟩ := vAt (m := m) (v := v) hlen (by assumption) (by assumption); rw [hw]; refine g_idx T hC rfl rfl rfl hv0 (map_atI hx) rfl rfl ?_)
  all_goals (try simp only [List.length_map] at *)
  all_goals first
    | exact g_fin ⟨.inl rfl, id, _, rfl, .qb (by simp_all [rightM] <;> (intros; omega)), ⟨rfl, trivial⟩, rfl, rfl⟩
    | exact g_fin ⟨.inl rfl, id, _, rfl, .qq (by simp_all [rightM] <;> (intros; omega)), ⟨rfl, trivial⟩, rfl, rfl⟩

def pairM (d : Desc) (m : Hp) (p : Fld × Int) : Bool := rightM d m p.1.t p.2
def valsM (d : Desc) (m : Hp) (l : List Fld) (v : List Int) : Bool := decide ((l.length : Int) = (v.length : Int)) && (l.zip v).all (pairM d m)
theorem values_ok (d : Desc) (m : Hp) (l : List Fld) (v : List Int) : FnOK Tryz.prog 137 [.one (.mp 0), aggS (memR m), pS (fieldsP l), pS (intsP v)] (mapR d) (.bq (valsM d m l v)) (mapR d) := by
  refine fn_ok T Tryz.func137 (by kernel_rfl) rfl rfl rfl rfl fun C hC => ?_
  refine g_len 2 rfl fun hlen => ?_
  rw [List.length_map] at hlen
  repeat' first
    | refine g_go T hC true 400 rfl rfl ?_
    | refine g_cond rfl (fun h => ?_) (fun h => ?_)
    | refine g_end T hC (by kernel_rfl) ?_
    | refine g_splitD (fun h => ?_) (fun h => ?_)
    | refine g_splitG rfl rfl rfl (fun h => ?_) (fun h => ?_)
    | refine g_splitP rfl rfl (fun h => ?_) (fun h => ?_)
  all_goals (try simp only [List.length_map] at *)
  · have : valsM d m l v = false := by simp only [valsM]; rw [Bool.and_eq_false_iff]; left; simpa using h
    rw [this]
    exact g_fin ⟨.inl rfl, id, _, rfl, .qb rfl, ⟨rfl, trivial⟩, rfl, rfl⟩
  · have hlv : (l.length : Int) = (v.length : Int) := by simpa using h
    have hv : valsM d m l v = (l.zip v).all (pairM d m) := by simp only [valsM, decide_eq_true hlv, Bool.true_and]
    rw [hv]
    clear h hv
    refine g_loop (fun i : Nat => i ≤ (l.zip v).length ∧ ((l.zip v).take i).all (pairM d m) = true) (fun i => ([(0, .one (.mp 0)), (3, pS (intsP v)), (5, .one (.bx 1005 0)), (16, pS (fieldsP l)), (17, I l.length), (18, I i)], [(0, some (.map (encE strKey (tm d)))), (1005, some (.box ((memR m).map V.p)))])) (fun i => (l.zip v).length - i) hC
      0 ⟨Nat.zero_le _, by simp⟩ id ⟨rfl, ⟨rfl, rfl, rfl, rfl, rfl, rfl, trivial⟩, ⟨rfl, rfl, trivial⟩, rfl, fun _ _ => rfl⟩ ?_
    rintro i ⟨hi, hn⟩
    refine g_run' T hC true 200 rfl ?_
    refine g_cond rfl (fun h => ?_) (fun h => ?_)
    · have hlt : i < (l.zip v).length := by first | simpa using h | (have h' := of_decide_eq_true h; simp only [List.length_map, List.length_zip] at h' ⊢; omega)
      clear h
      obtain ⟨x, hx⟩ := exists_at hlt
      obtain ⟨hx1, hx2⟩ := zip_at hx
      repeat' first
        | refine g_go T hC true 400 rfl rfl ?_
        | refine g_cond rfl (fun h => ?_) (fun h => ?_)
        | refine g_end T hC (by kernel_rfl) ?_
        | refine g_splitD (fun h => ?_) (fun h => ?_)
        | refine g_splitG rfl rfl rfl (fun h => ?_) (fun h => ?_)
        | refine g_splitP rfl rfl (fun h => ?_) (fun h => ?_)
        | refine g_idx T hC rfl rfl rfl (Int.natCast_nonneg _) (map_at (by assumption)) rfl rfl ?_
        | refine g_callR hC (right12_ok d m _ _) (nm [0]) rfl rfl (LeSs.refl _) rfl rfl rfl rfl rfl rfl rfl rfl ?_
        | refine g_outR ?_
      all_goals first
        | (have hp : (pairM d m) x = true := by clear hn hx hlt hi; simp_all [pairM, -List.all_eq_true, -List.all_eq_false] <;> omega
           have hlt' := hlt
           try simp only [List.length_zip, List.length_zipIdx] at hlt'
           rw [wrap64 (by omega)]
           refine g_round (i + 1) ⟨by omega, ?_⟩ id (by omega) ⟨rfl, ⟨rfl, rfl, rfl, rfl, rfl, rfl, trivial⟩, ⟨rfl, rfl, trivial⟩, rfl, fun _ _ => rfl⟩
           rw [all_take (p := pairM d m) hx, hn, Bool.true_and]; exact hp)
        | (have hp : (pairM d m) x = false := by clear hn hx hlt hi; simp_all [pairM, -List.all_eq_true, -List.all_eq_false] <;> omega
           have hno := all_no (p := pairM d m) hx hp
           (rw [hno]; exact g_fin ⟨.inl rfl, id, _, rfl, .qb rfl, ⟨rfl, trivial⟩, rfl, rfl⟩))
    have hge : ¬ i < (l.zip v).length := by first | simpa using h | (have h' := of_decide_eq_false h; simp only [List.length_map, List.length_zip] at h' ⊢; omega)
    have hall : (l.zip v).all (pairM d m) = true := all_end (p := pairM d m) (by omega) hn
    clear h hge hn hi
    rw [hall]
    repeat' first
      | refine g_go T hC true 400 rfl rfl ?_
      | refine g_cond rfl (fun h => ?_) (fun h => ?_)
      | refine g_end T hC (by kernel_rfl) ?_
      | refine g_splitD (fun h => ?_) (fun h => ?_)
      | refine g_splitG rfl rfl rfl (fun h => ?_) (fun h => ?_)
      | refine g_splitP rfl rfl (fun h => ?_) (fun h => ?_)
      | refine g_outE ?_
    exact g_fin ⟨.inl rfl, id, _, rfl, .qb rfl, ⟨rfl, trivial⟩, rfl, rfl⟩

def outOf (d : Desc) (x : Nd) : Bool := decide (x.t < 0) || decide ((d.types.length : Int) ≤ x.t)
theorem valid12a_ok (d : Desc) (x : Nd) : FnOK Tryz.prog 136 [aggS (nodeR x), .one (.bx 0 0)] [(0, .box ((descR d).map V.p))] (.bq (outOf d x)) [(0, .box ((descR d).map V.p))] := by
  refine fn_ok T Tryz.func136 (by kernel_rfl) rfl rfl rfl rfl fun C hC => ?_
  repeat' first
    | refine g_go T hC true 400 rfl rfl ?_
    | refine g_cond rfl (fun h => ?_) (fun h => ?_)
    | refine g_end T hC (by kernel_rfl) ?_
    | refine g_splitD (fun h => ?_) (fun h => ?_)
    | refine g_splitG rfl rfl rfl (fun h => ?_) (fun h => ?_)
    | refine g_splitP rfl rfl (fun h => ?_) (fun h => ?_)
  all_goals (try simp only [List.length_map] at *)
  all_goals first
    | exact g_fin ⟨.inl rfl, id, _, rfl, .qb (by simp_all [outOf] <;> (intros; omega)), ⟨rfl, trivial⟩, rfl, rfl⟩
    | exact g_fin ⟨.inl rfl, id, _, rfl, .qq (by simp_all [outOf] <;> (intros; omega)), ⟨rfl, trivial⟩, rfl, rfl⟩
theorem nodeA_idx (f : FuncId) (d : Desc) (l : List Nd) (p : Nd → Unit → Bool) (nx : Nd → Unit → Unit) (inv : Unit → Prop)
    (hf : ∀ x ∈ l, ∀ s : Unit, inv s → FnOK Tryz.prog f [aggS (nodeR x), .one (.bx 0 0)] [(0, .box ((descR d).map V.p))] (.bq (p x s)) ((fun s : Unit => [(0, .box ((descR d).map V.p))]) (nx x s)) ∧ (p x s = false → inv (nx x s))) (s : Unit) (hs : inv s) :
    FnOK Tryz.prog 186 [pS (.sl 2 (l.map nodeR)), .one (.cl f [] [.bx 0 0])] [(0, .box ((descR d).map V.p))] (I (idxR p nx l 0 s).1) ((fun s : Unit => [(0, .box ((descR d).map V.p))]) (idxR p nx l 0 s).2) := by
  refine fn_ok T Tryz.func186 (by kernel_rfl) rfl rfl rfl rfl fun C hC => ?_
  have hs0 := hs
  refine g_len 0 rfl fun hl => ?_
  rw [List.length_map] at hl
  repeat' first
    | refine g_go T hC true 400 rfl rfl ?_
    | refine g_cond rfl (fun h => ?_) (fun h => ?_)
    | refine g_end T hC (by kernel_rfl) ?_
    | refine g_splitD (fun h => ?_) (fun h => ?_)
    | refine g_splitG rfl rfl rfl (fun h => ?_) (fun h => ?_)
    | refine g_splitP rfl rfl (fun h => ?_) (fun h => ?_)
  rw [List.length_map]
  refine g_loop (fun q : Nat × Unit => q.1 ≤ l.length ∧ inv q.2 ∧ idxR p nx (l.drop q.1) q.1 q.2 = idxR p nx l 0 s) (fun q => (fun s : Unit => ([(0, pS (.sl 2 (l.map nodeR))), (1, .one (.cl f [] [.bx 0 0])), (7, I l.length), (8, I q.1)], [(0, some (.box ((descR d).map V.p)))])) q.2) (fun q => l.length - q.1) hC
    (0, s) ⟨Nat.zero_le _, hs, rfl⟩ id ⟨rfl, ⟨rfl, rfl, rfl, rfl, trivial⟩, ⟨rfl, trivial⟩, rfl, fun _ _ => rfl⟩ ?_
  generalize idxR p nx l 0 s = res
  clear hs hs0
  rintro ⟨i, s⟩ ⟨hi, hv, hn⟩
  simp only at hi hv hn
  refine g_run' T hC true 200 rfl ?_
  refine g_cond rfl (fun hh => ?_) (fun hh => ?_)
  · have hlt : i < l.length := by simpa using hh
    clear hh
    obtain ⟨x, hx⟩ := exists_at hlt
    rw [drop_at hx] at hn
    simp only [idxR] at hn
    have hv2 := (hf x (List.mem_of_getElem? hx) s hv).2
    repeat' first
      | refine g_go T hC true 400 rfl rfl ?_
      | refine g_cond rfl (fun h => ?_) (fun h => ?_)
      | refine g_end T hC (by kernel_rfl) ?_
      | refine g_splitD (fun h => ?_) (fun h => ?_)
      | refine g_splitG rfl rfl rfl (fun h => ?_) (fun h => ?_)
      | refine g_splitP rfl rfl (fun h => ?_) (fun h => ?_)
      | refine g_idx T hC rfl rfl rfl (Int.natCast_nonneg _) (map_at hx) rfl rfl ?_
      | refine g_callR hC (hf x (List.mem_of_getElem? hx) s hv).1 id rfl rfl (LeSs.refl _) rfl rfl rfl rfl rfl rfl rfl rfl ?_
      | refine g_outR ?_
    · rw [if_pos (by assumption)] at hn
      subst hn
      exact g_fin ⟨.inl rfl, id, _, rfl, .refl _, ⟨rfl, trivial⟩, rfl, rfl⟩
    · have hpf : p x s = false := by assumption
      rw [hpf] at hn
      simp only [Bool.false_eq_true, if_false] at hn
      rw [wrap64 (by omega)]
      exact g_round (i + 1, nx x s) ⟨by simp only; omega, hv2 hpf, hn⟩ id (by simp only; omega) ⟨rfl, ⟨rfl, rfl, rfl, rfl, trivial⟩, ⟨rfl, trivial⟩, rfl, fun _ _ => rfl⟩
  · have hge : ¬ i < l.length := by simpa using hh
    rw [List.drop_eq_nil_of_le (by omega)] at hn
    simp only [idxR] at hn
    subst hn
    repeat' first
      | refine g_go T hC true 400 rfl rfl ?_
      | refine g_cond rfl (fun h => ?_) (fun h => ?_)
      | refine g_end T hC (by kernel_rfl) ?_
      | refine g_splitD (fun h => ?_) (fun h => ?_)
      | refine g_splitG rfl rfl rfl (fun h => ?_) (fun h => ?_)
      | refine g_splitP rfl rfl (fun h => ?_) (fun h => ?_)
      | refine g_outE ?_
    exact g_fin ⟨.inl rfl, id, _, rfl, .refl _, ⟨rfl, trivial⟩, rfl, rfl⟩
theorem nodeA_has (f : FuncId) (d : Desc) (l : List Nd) (p : Nd → Unit → Bool) (nx : Nd → Unit → Unit) (inv : Unit → Prop)
    (hf : ∀ x ∈ l, ∀ s : Unit, inv s → FnOK Tryz.prog f [aggS (nodeR x), .one (.bx 0 0)] [(0, .box ((descR d).map V.p))] (.bq (p x s)) ((fun s : Unit => [(0, .box ((descR d).map V.p))]) (nx x s)) ∧ (p x s = false → inv (nx x s))) (s : Unit) (hs : inv s) :
    FnOK Tryz.prog 135 [pS (.sl 2 (l.map nodeR)), .one (.cl f [] [.bx 0 0])] [(0, .box ((descR d).map V.p))] (.bq (anyR p nx l s).1) ((fun s : Unit => [(0, .box ((descR d).map V.p))]) (anyR p nx l s).2) := by
  refine fn_ok T Tryz.func135 (by kernel_rfl) rfl rfl rfl rfl fun C hC => ?_
  repeat' first
    | refine g_go T hC true 400 rfl rfl ?_
    | refine g_cond rfl (fun h => ?_) (fun h => ?_)
    | refine g_end T hC (by kernel_rfl) ?_
    | refine g_splitD (fun h => ?_) (fun h => ?_)
    | refine g_splitG rfl rfl rfl (fun h => ?_) (fun h => ?_)
    | refine g_splitP rfl rfl (fun h => ?_) (fun h => ?_)
    | refine g_callR hC (nodeA_idx f d l p nx inv hf s hs) (nm [0]) rfl rfl (LeSs.refl _) rfl rfl rfl rfl rfl rfl rfl rfl ?_
  exact g_fin ⟨.inl rfl, id, _, rfl, .qq (anyR_1 p nx l 0 s), by rw [← anyR_2 p nx l 0 s]; exact ⟨rfl, trivial⟩, rfl, rfl⟩

def nodeVals (d : Desc) (m : Hp) (x : Nd) : Bool := valsM d m (((d.types[x.t.toNat]?).map (fun t => t.f)).getD []) x.f
theorem valid12b_ok (d : Desc) (m : Hp) (x : Nd) (hx : outOf d x = false) : FnOK Tryz.prog 138 [aggS (nodeR x), .one (.bx 1 0), .one (.bx 2 0), .one (.bx 3 0)] [(0, .map (encE strKey (tm d))), (1, .box [.mp 0]), (2, .box ((memR m).map V.p)), (3, .box ((descR d).map V.p))] (.bq (!nodeVals d m x))
    [(0, .map (encE strKey (tm d))), (1, .box [.mp 0]), (2, .box ((memR m).map V.p)), (3, .box ((descR d).map V.p))] := by
  simp only [outOf, Bool.or_eq_false_iff, decide_eq_false_iff_not] at hx
  obtain ⟨ty, hty⟩ := exists_at (l := d.types) (i := x.t.toNat) (by omega)
  have hv : nodeVals d m x = valsM d m ty.f x.f := by simp [nodeVals, hty]
  rw [hv]
  refine fn_ok T Tryz.func138 (by kernel_rfl) rfl rfl rfl rfl fun C hC => ?_
  repeat' first
    | refine g_go T hC true 400 rfl rfl ?_
    | refine g_cond rfl (fun h => ?_) (fun h => ?_)
    | refine g_end T hC (by kernel_rfl) ?_
    | refine g_splitD (fun h => ?_) (fun h => ?_)
    | refine g_splitG rfl rfl rfl (fun h => ?_) (fun h => ?_)
    | refine g_splitP rfl rfl (fun h => ?_) (fun h => ?_)
    | refine g_idx T hC rfl rfl rfl (Int.not_lt.1 hx.1) (map_atI hty) rfl rfl ?_
    | refine g_callR hC (values_ok d m ty.f x.f) (nm [0]) rfl rfl (LeSs.refl _) rfl rfl rfl rfl rfl rfl rfl rfl ?_
  exact g_fin ⟨.inl rfl, id, _, rfl, .qq rfl, ⟨rfl, rfl, rfl, rfl, trivial⟩, rfl, rfl⟩
theorem nodeB_idx (f : FuncId) (d : Desc) (m : Hp) (l : List Nd) (p : Nd → Unit → Bool) (nx : Nd → Unit → Unit) (inv : Unit → Prop)
    (hf : ∀ x ∈ l, ∀ s : Unit, inv s → FnOK Tryz.prog f [aggS (nodeR x), .one (.bx 1 0), .one (.bx 2 0), .one (.bx 3 0)] [(0, .map (encE strKey (tm d))), (1, .box [.mp 0]), (2, .box ((memR m).map V.p)), (3, .box ((descR d).map V.p))] (.bq (p x s)) ((fun s : Unit => [(0, .map (encE strKey (tm d))), (1, .box [.mp 0]), (2, .box ((memR m).map V.p)), (3, .box ((descR d).map V.p))]) (nx x s)) ∧ (p x s = false → inv (nx x s))) (s : Unit) (hs : inv s) :
    FnOK Tryz.prog 186 [pS (.sl 2 (l.map nodeR)), .one (.cl f [] [.bx 1 0, .bx 2 0, .bx 3 0])] [(0, .map (encE strKey (tm d))), (1, .box [.mp 0]), (2, .box ((memR m).map V.p)), (3, .box ((descR d).map V.p))] (I (idxR p nx l 0 s).1) ((fun s : Unit => [(0, .map (encE strKey (tm d))), (1, .box [.mp 0]), (2, .box ((memR m).map V.p)), (3, .box ((descR d).map V.p))]) (idxR p nx l 0 s).2) := by
  refine fn_ok T Tryz.func186 (by kernel_rfl) rfl rfl rfl rfl fun C hC => ?_
  have hs0 := hs
  refine g_len 0 rfl fun hl => ?_
  rw [List.length_map] at hl
  repeat' first
    | refine g_go T hC true 400 rfl rfl ?_
    | refine g_cond rfl (fun h => ?_) (fun h => ?_)
    | refine g_end T hC (by kernel_rfl) ?_
    | refine g_splitD (fun h => ?_) (fun h => ?_)
    | refine g_splitG rfl rfl rfl (fun h => ?_) (fun h => ?_)
    | refine g_splitP rfl rfl (fun h => ?_) (fun h => ?_)
  rw [List.length_map]
  refine g_loop (fun q : Nat × Unit => q.1 ≤ l.length ∧ inv q.2 ∧ idxR p nx (l.drop q.1) q.1 q.2 = idxR p nx l 0 s) (fun q => (fun s : Unit => ([(0, pS (.sl 2 (l.map nodeR))), (1, .one (.cl f [] [.bx 1 0, .bx 2 0, .bx 3 0])), (7, I l.length), (8, I q.1)], [(0, some (.map (encE strKey (tm d)))), (1, some (.box [.mp 0])), (2, some (.box ((memR m).map V.p))), (3, some (.box ((descR d).map V.p)))])) q.2) (fun q => l.length - q.1) hC
    (0, s) ⟨Nat.zero_le _, hs, rfl⟩ id ⟨rfl, ⟨rfl, rfl, rfl, rfl, trivial⟩, ⟨rfl, rfl, rfl, rfl, trivial⟩, rfl, fun _ _ => rfl⟩ ?_
  generalize idxR p nx l 0 s = res
  clear hs hs0
  rintro ⟨i, s⟩ ⟨hi, hv, hn⟩
  simp only at hi hv hn
  refine g_run' T hC true 200 rfl ?_
  refine g_cond rfl (fun hh => ?_) (fun hh => ?_)
  · have hlt : i < l.length := by simpa using hh
    clear hh
    obtain ⟨x, hx⟩ := exists_at hlt
    rw [drop_at hx] at hn
    simp only [idxR] at hn
    have hv2 := (hf x (List.mem_of_getElem? hx) s hv).2
    repeat' first
      | refine g_go T hC true 400 rfl rfl ?_
      | refine g_cond rfl (fun h => ?_) (fun h => ?_)
      | refine g_end T hC (by kernel_rfl) ?_
      | refine g_splitD (fun h => ?_) (fun h => ?_)
      | refine g_splitG rfl rfl rfl (fun h => ?_) (fun h => ?_)
      | refine g_splitP rfl rfl (fun h => ?_) (fun h => ?_)
      | refine g_idx T hC rfl rfl rfl (Int.natCast_nonneg _) (map_at hx) rfl rfl ?_
      | refine g_callR hC (hf x (List.mem_of_getElem? hx) s hv).1 id rfl rfl (LeSs.refl _) rfl rfl rfl rfl rfl rfl rfl rfl ?_
      | refine g_outR ?_
    · rw [if_pos (by assumption)] at hn
      subst hn
      exact g_fin ⟨.inl rfl, id, _, rfl, .refl _, ⟨rfl, rfl, rfl, rfl, trivial⟩, rfl, rfl⟩
    · have hpf : p x s = false := by assumption
      rw [hpf] at hn
      simp only [Bool.false_eq_true, if_false] at hn
      rw [wrap64 (by omega)]
      exact g_round (i + 1, nx x s) ⟨by simp only; omega, hv2 hpf, hn⟩ id (by simp only; omega) ⟨rfl, ⟨rfl, rfl, rfl, rfl, trivial⟩, ⟨rfl, rfl, rfl, rfl, trivial⟩, rfl, fun _ _ => rfl⟩
  · have hge : ¬ i < l.length := by simpa using hh
    rw [List.drop_eq_nil_of_le (by omega)] at hn
    simp only [idxR] at hn
    subst hn
    repeat' first
      | refine g_go T hC true 400 rfl rfl ?_
      | refine g_cond rfl (fun h => ?_) (fun h => ?_)
      | refine g_end T hC (by kernel_rfl) ?_
      | refine g_splitD (fun h => ?_) (fun h => ?_)
      | refine g_splitG rfl rfl rfl (fun h => ?_) (fun h => ?_)
      | refine g_splitP rfl rfl (fun h => ?_) (fun h => ?_)
      | refine g_outE ?_
    exact g_fin ⟨.inl rfl, id, _, rfl, .refl _, ⟨rfl, rfl, rfl, rfl, trivial⟩, rfl, rfl⟩
theorem nodeB_has (f : FuncId) (d : Desc) (m : Hp) (l : List Nd) (p : Nd → Unit → Bool) (nx : Nd → Unit → Unit) (inv : Unit → Prop)
    (hf : ∀ x ∈ l, ∀ s : Unit, inv s → FnOK Tryz.prog f [aggS (nodeR x), .one (.bx 1 0), .one (.bx 2 0), .one (.bx 3 0)] [(0, .map (encE strKey (tm d))), (1, .box [.mp 0]), (2, .box ((memR m).map V.p)), (3, .box ((descR d).map V.p))] (.bq (p x s)) ((fun s : Unit => [(0, .map (encE strKey (tm d))), (1, .box [.mp 0]), (2, .box ((memR m).map V.p)), (3, .box ((descR d).map V.p))]) (nx x s)) ∧ (p x s = false → inv (nx x s))) (s : Unit) (hs : inv s) :
    FnOK Tryz.prog 135 [pS (.sl 2 (l.map nodeR)), .one (.cl f [] [.bx 1 0, .bx 2 0, .bx 3 0])] [(0, .map (encE strKey (tm d))), (1, .box [.mp 0]), (2, .box ((memR m).map V.p)), (3, .box ((descR d).map V.p))] (.bq (anyR p nx l s).1) ((fun s : Unit => [(0, .map (encE strKey (tm d))), (1, .box [.mp 0]), (2, .box ((memR m).map V.p)), (3, .box ((descR d).map V.p))]) (anyR p nx l s).2) := by
  refine fn_ok T Tryz.func135 (by kernel_rfl) rfl rfl rfl rfl fun C hC => ?_
  repeat' first
    | refine g_go T hC true 400 rfl rfl ?_
    | refine g_cond rfl (fun h => ?_) (fun h => ?_)
    | refine g_end T hC (by kernel_rfl) ?_
    | refine g_splitD (fun h => ?_) (fun h => ?_)
    | refine g_splitG rfl rfl rfl (fun h => ?_) (fun h => ?_)
    | refine g_splitP rfl rfl (fun h => ?_) (fun h => ?_)
    | refine g_callR hC (nodeB_idx f d m l p nx inv hf s hs) (nm [0, 1, 2, 3]) rfl rfl (LeSs.refl _) rfl rfl rfl rfl rfl rfl rfl rfl ?_
  exact g_fin ⟨.inl rfl, id, _, rfl, .qq (anyR_1 p nx l 0 s), by rw [← anyR_2 p nx l 0 s]; exact ⟨rfl, rfl, rfl, rfl, trivial⟩, rfl, rfl⟩

def validMM (d : Desc) (m : Hp) : Bool := !decide (4096 < (m.n.length : Int)) && !m.n.any (outOf d) && valsM d m d.globals m.g && m.n.all (nodeVals d m)
theorem validT_ok (d : Desc) (m : Hp) : FnOK Tryz.prog 66 [.one (.mp 0), aggS (descR d), aggS (memR m)] (mapR d) (.bq (validMM d m)) (mapR d) := by
  have hA := nodeA_has 136 d m.n (fun y _ => outOf d y) (fun _ s => s) (fun _ => True) (fun y _ _ _ => ⟨valid12a_ok d y, fun _ => trivial⟩) () trivial
  rw [anyR_no] at hA
  have hB := fun (ho : m.n.any (outOf d) = false) => nodeB_has 138 d m m.n (fun y _ => !nodeVals d m y) (fun _ s => s) (fun _ => True) (fun y hy _ _ => ⟨valid12b_ok d m y (by rw [List.any_eq_false] at ho; simpa using ho y hy), fun _ => trivial⟩) () trivial
  rw [anyR_no, any_notP] at hB
  refine fn_ok T Tryz.func66 (by kernel_rfl) rfl rfl rfl rfl fun C hC => ?_
  repeat' first
    | refine g_go T hC true 400 rfl rfl ?_
    | refine g_cond rfl (fun h => ?_) (fun h => ?_)
    | refine g_end T hC (by kernel_rfl) ?_
    | refine g_splitD (fun h => ?_) (fun h => ?_)
    | refine g_splitG rfl rfl rfl (fun h => ?_) (fun h => ?_)
    | refine g_splitP rfl rfl (fun h => ?_) (fun h => ?_)
    | refine g_mapnil hC (kt := 9) (et := 3) rfl rfl (by kernel_rfl) rfl rfl ?_
    | refine g_callR hC (hA) (nm [1004]) rfl rfl (LeSs.refl _) rfl rfl rfl rfl rfl rfl rfl rfl ?_
    | refine g_callR hC (values_ok d m _ _) (nm [0]) rfl rfl (LeSs.refl _) rfl rfl rfl rfl rfl rfl rfl rfl ?_
    | refine g_callR hC (hB (by assumption)) (nm [0, 1003, 1005, 1004]) rfl rfl (LeSs.refl _) rfl rfl rfl rfl rfl rfl rfl rfl ?_
  all_goals (try simp only [List.length_map] at *)
  all_goals clear hA hB
  all_goals first
    | exact g_fin ⟨.inl rfl, id, _, rfl, .qb (by simp_all [validMM, -List.all_eq_true, -List.all_eq_false, -List.any_eq_true, -List.any_eq_false]), ⟨rfl, trivial⟩, rfl, rfl⟩
    | exact g_fin ⟨.inl rfl, id, _, rfl, .qq (by simp_all [validMM, -List.all_eq_true, -List.all_eq_false, -List.any_eq_true, -List.any_eq_false]), ⟨rfl, trivial⟩, rfl, rfl⟩
theorem validN_ok (d : Desc) (m : Hp) : FnOK Tryz.prog 66 [.one (.p (.k (.map none))), aggS (descR d), aggS (memR m)] [] (.bq false) [] := by
  refine fn_ok T Tryz.func66 (by kernel_rfl) rfl rfl rfl rfl fun C hC => ?_
  repeat' first
    | refine g_go T hC true 400 rfl rfl ?_
    | refine g_cond rfl (fun h => ?_) (fun h => ?_)
    | refine g_end T hC (by kernel_rfl) ?_
    | refine g_splitD (fun h => ?_) (fun h => ?_)
    | refine g_splitG rfl rfl rfl (fun h => ?_) (fun h => ?_)
    | refine g_splitP rfl rfl (fun h => ?_) (fun h => ?_)
    | refine g_mapnil2 hC (kt := 9) (et := 3) rfl (by kernel_rfl) rfl rfl ?_
  exact g_fin ⟨.inl rfl, id, _, rfl, .qb rfl, trivial, rfl, rfl⟩

/-! The program's way to look is the reference's. -/
theorem rightM_V {d : Desc} {m : Hp} {t : Str} {v : Int} (h : (isPlain t || !decide (tyIdx d t < 0)) = true) : rightM d m t v = rightV d m t v := by
  simp only [rightM, rightV]
  by_cases h1 : t = (⟨#[105, 110, 116]⟩ : ByteArray)
  · rw [if_pos h1, if_pos h1]
  · rw [if_neg h1, if_neg h1]
    by_cases h2 : t = (⟨#[98, 111, 111, 108]⟩ : ByteArray)
    · rw [if_pos h2, if_pos h2]
    · rw [if_neg h2, if_neg h2]
      have : ¬ tyIdx d t < 0 := by
        intro h3
        rw [decide_eq_true h3] at h
        simp [isPlain, h1, h2] at h
      have e : tyD d t = tyIdx d t := by rw [tyD, if_neg this]
      rw [e]
      by_cases h0 : 0 < v
      · rw [decide_eq_true h0, decide_eq_true (show (1 : Int) ≤ v by omega)]
      · rw [decide_eq_false h0, decide_eq_false (show ¬ (1 : Int) ≤ v by omega)]
theorem all_congr {α : Type} {p q : α → Bool} {l : List α} (h : ∀ x ∈ l, p x = q x) : l.all p = l.all q := by
  induction l with
  | nil => rfl
  | cons a l ih => simp only [List.all_cons, h a (by simp), ih fun x hx => h x (by simp [hx])]
theorem mem_zip_left {α β : Type} {x : α × β} : ∀ {l : List α} {r : List β}, x ∈ l.zip r → x.1 ∈ l
  | [], _, h => by simp at h
  | _ :: _, [], h => by simp at h
  | a :: l, b :: r, h => by
    simp only [List.zip_cons_cons, List.mem_cons] at h ⊢
    rcases h with rfl | h
    · exact .inl rfl
    · exact .inr (mem_zip_left h)
theorem valsM_V {d : Desc} {m : Hp} {l : List Fld} {v : List Int} (h : l.all (known d) = true) : valsM d m l v = (decide ((l.length : Int) = (v.length : Int)) && (l.zip v).all (pairOk d m)) := by
  simp only [valsM]
  congr 1
  refine all_congr fun x hx => ?_
  exact rightM_V (List.all_eq_true.1 h _ (mem_zip_left hx))
theorem any_not' {α : Type} (p : α → Bool) (l : List α) : (!l.any p) = l.all fun x => !p x := by
  induction l with
  | nil => rfl
  | cons a l ih => simp only [List.any_cons, List.all_cons, Bool.not_or, ih]
theorem hasTypes_parts {d : Desc} (h : hasTypes d = true) : validD d = true ∧ noDup d = true ∧ d.globals.all (known d) = true ∧ ∀ t ∈ d.types, t.f.all (known d) = true := by
  rw [hasTypes_eq] at h
  simp only [Bool.and_eq_true] at h
  exact ⟨h.1.1.1, h.1.1.2, h.1.2, fun t ht => List.all_eq_true.1 h.2 t ht⟩
theorem validMM_V {d : Desc} {m : Hp} (h : hasTypes d = true) : validMM d m = validM d m := by
  obtain ⟨_, _, hg, ht⟩ := hasTypes_parts h
  have e1 : (!m.n.any (outOf d) && m.n.all (nodeVals d m)) = (m.n.all (nodeShape d) && m.n.all (nodeRight d m)) := by
    rw [any_not', ← all_and, ← all_and]
    refine all_congr fun x _ => ?_
    by_cases ho : outOf d x = true
    · have : nodeShape d x = false := by
        simp only [outOf, Bool.or_eq_true] at ho
        simp only [nodeShape]
        rcases ho with ho | ho <;> rw [ho] <;> simp
      rw [ho, this]; rfl
    · have ho' : outOf d x = false := by simpa using ho
      have hh := ho'
      simp only [outOf, Bool.or_eq_false_iff, decide_eq_false_iff_not] at hh
      obtain ⟨ty, hty⟩ := exists_at (l := d.types) (i := x.t.toNat) (by omega)
      have hk := ht ty (List.mem_of_getElem? hty)
      have e2 : nodeVals d m x = (decide ((ty.f.length : Int) = (x.f.length : Int)) && (ty.f.zip x.f).all (pairOk d m)) := by
        simp only [nodeVals, hty, Option.map_some, Option.getD_some]; exact valsM_V hk
      have e3 : nodeShape d x = decide ((ty.f.length : Int) = (x.f.length : Int)) := by
        simp only [nodeShape, hty, Option.map_some, Option.some.injEq]
        rw [decide_eq_false hh.1, decide_eq_false hh.2]
        simp only [Bool.not_false, Bool.true_and]
        exact decide_eq_decide.2 (by omega)
      have e4 : nodeRight d m x = (ty.f.zip x.f).all (pairOk d m) := by simp [nodeRight, hty]
      rw [ho', e2, e3, e4]; rfl
  have e2 : decide ((d.globals.length : Int) = (m.g.length : Int)) = decide ((m.g.length : Int) = (d.globals.length : Int)) := decide_eq_decide.2 (by omega)
  simp only [validMM, validM, h, valsM_V hg, e2, Bool.true_and]
  clear e2
  generalize decide (4096 < (m.n.length : Int)) = a at *
  generalize (d.globals.zip m.g).all (pairOk d m) = b at *
  generalize decide ((m.g.length : Int) = (d.globals.length : Int)) = c at *
  revert e1
  generalize (!m.n.any (outOf d)) = e
  generalize m.n.all (nodeVals d m) = f
  generalize m.n.all (nodeShape d) = g
  generalize m.n.all (nodeRight d m) = i
  revert a b c e f g i; decide
theorem heapValid_ok (d : Desc) (m : Hp) : FnOK Tryz.prog 15 [aggS (descR d), aggS (memR m)] [] (.bq (validM d m)) [] := by
  have hT := typesOf_ok d
  cases h : hasTypes d with
  | true =>
    simp only [tyRes, tyRL, h, if_true] at hT
    rw [← validMM_V h]
    refine fn_ok T Tryz.func15 (by kernel_rfl) rfl rfl rfl rfl fun C hC => ?_
    repeat' first
      | refine g_go T hC true 400 rfl rfl ?_
      | refine g_cond rfl (fun h => ?_) (fun h => ?_)
      | refine g_end T hC (by kernel_rfl) ?_
      | refine g_splitD (fun h => ?_) (fun h => ?_)
      | refine g_splitG rfl rfl rfl (fun h => ?_) (fun h => ?_)
      | refine g_splitP rfl rfl (fun h => ?_) (fun h => ?_)
      | (refine g_callR hC hT (nm [1006]) rfl rfl (LeSs.refl _) rfl rfl rfl rfl rfl rfl rfl rfl ?_)
      | refine g_callR hC (validT_ok d m) (nm [1006]) rfl rfl (LeSs.refl _) rfl rfl rfl rfl rfl rfl rfl rfl ?_
    exact g_fin ⟨.inl rfl, id, _, rfl, .qq rfl, trivial, rfl, rfl⟩
  | false =>
    simp only [tyRes, tyRL, h, Bool.false_eq_true, if_false] at hT
    have e : validM d m = false := by simp [validM, h]
    rw [e]
    refine fn_ok T Tryz.func15 (by kernel_rfl) rfl rfl rfl rfl fun C hC => ?_
    repeat' first
      | refine g_go T hC true 400 rfl rfl ?_
      | refine g_cond rfl (fun h => ?_) (fun h => ?_)
      | refine g_end T hC (by kernel_rfl) ?_
      | refine g_splitD (fun h => ?_) (fun h => ?_)
      | refine g_splitG rfl rfl rfl (fun h => ?_) (fun h => ?_)
      | refine g_splitP rfl rfl (fun h => ?_) (fun h => ?_)
      | refine g_call hC (hT) rfl rfl (LeSs.refl _) rfl rfl rfl ?_
      | refine g_call hC (validN_ok d m) rfl rfl (LeSs.refl _) rfl rfl rfl ?_
    exact g_fin ⟨.inl rfl, id, _, rfl, .qq rfl, trivial, rfl, rfl⟩
/-- What New hands back. -/
def newRes (d : Desc) : S := if hasTypes d = true then .tup [aggS (memR (newHp d)), I 0] else .tup [aggS (memR ⟨[], []⟩), I 1]
theorem heapNew_ok (d : Desc) : FnOK Tryz.prog 14 [aggS (descR d)] [] (newRes d) [] := by
  have hT := typesOf_ok d
  cases h : hasTypes d with
  | true =>
    simp only [tyRes, tyRL, h, if_true] at hT
    simp only [newRes, h, if_true]
    have hlen : d.globals.length ≤ 8 := by
      have := (hasTypes_parts h).1
      simp only [validD, validPre, fieldsOk, Bool.and_eq_true, decide_eq_true_eq] at this
      have := this.1.1.1.1.1.1.1.1.2.1
      omega
    refine fn_ok T Tryz.func14 (by kernel_rfl) rfl rfl rfl rfl fun C hC => ?_
    repeat' first
      | refine g_go T hC true 400 rfl rfl ?_
      | refine g_cond rfl (fun h => ?_) (fun h => ?_)
      | refine g_end T hC (by kernel_rfl) ?_
      | refine g_splitD (fun h => ?_) (fun h => ?_)
      | refine g_splitG rfl rfl rfl (fun h => ?_) (fun h => ?_)
      | refine g_splitP rfl rfl (fun h => ?_) (fun h => ?_)
      | (refine g_callR hC hT (nm [1005]) rfl rfl (LeSs.refl _) rfl rfl rfl rfl rfl rfl rfl rfl ?_)
      | refine g_mapnil hC (kt := 9) (et := 3) rfl rfl (by kernel_rfl) rfl rfl ?_
    rw [List.length_map]
    refine g_zeros T hC (bytes := 8) d.globals.length rfl rfl rfl rfl rfl rfl (by kernel_rfl) rfl (by omega) rfl rfl ?_
    refine g_say 11 rfl (s' := pS (intsP (List.replicate d.globals.length 0))) (congrArg (fun r => S.one (.p (.sl 1 r))) (newRow _)) ?_
    repeat' first
      | refine g_go T hC true 400 rfl rfl ?_
      | refine g_cond rfl (fun h => ?_) (fun h => ?_)
      | refine g_end T hC (by kernel_rfl) ?_
      | refine g_splitD (fun h => ?_) (fun h => ?_)
      | refine g_splitG rfl rfl rfl (fun h => ?_) (fun h => ?_)
      | refine g_splitP rfl rfl (fun h => ?_) (fun h => ?_)
    exact g_fin ⟨.inl rfl, id, _, rfl, LeS.tup (.cons (LeS.agg (.cons (.refl _) (.cons (.nil 2) .nil))) (.cons (.refl _) .nil)), trivial, rfl, rfl⟩
  | false =>
    simp only [tyRes, tyRL, h, Bool.false_eq_true, if_false] at hT
    simp only [newRes, h, Bool.false_eq_true, if_false]
    refine fn_ok T Tryz.func14 (by kernel_rfl) rfl rfl rfl rfl fun C hC => ?_
    repeat' first
      | refine g_go T hC true 400 rfl rfl ?_
      | refine g_cond rfl (fun h => ?_) (fun h => ?_)
      | refine g_end T hC (by kernel_rfl) ?_
      | refine g_splitD (fun h => ?_) (fun h => ?_)
      | refine g_splitG rfl rfl rfl (fun h => ?_) (fun h => ?_)
      | refine g_splitP rfl rfl (fun h => ?_) (fun h => ?_)
      | refine g_call hC (hT) rfl rfl (LeSs.refl _) rfl rfl rfl ?_
      | refine g_mapnil2 hC (kt := 9) (et := 3) rfl (by kernel_rfl) rfl rfl ?_
    exact g_fin ⟨.inl rfl, id, _, rfl, LeS.tup (.cons (LeS.agg (.cons (.nil 1) (.cons (.nil 2) .nil))) (.cons (.refl _) .nil)), trivial, rfl, rfl⟩
end Hw.Z
namespace Hw.Z
open Go Go.Proofs Hw.M

/-! The search -/
structure SS where
  order : List Int
  again : Int
def fieldsAt (d : Desc) (t : Int) : List Fld := ((d.types[t.toNat]?).map (fun t => t.f)).getD []
def pairsOf (d : Desc) (m : Hp) (n : Int) : List (Fld × Int) := match m.n[(n - 1).toNat]? with
  | some x => (fieldsAt d x.t).zip x.f
  | none => []
def isRef (p : Fld × Int) : Bool := !isPlain p.1.t && !decide (p.2 = 0)
def enterS : Nat → Desc → Hp → Int → SS → SS
  | 0, _, _, _, s => s
  | k + 1, d, m, n, s => if (s.order.any fun x => decide (x = n)) = true then ⟨s.order, if s.again = 0 then n else s.again⟩
    else (pairsOf d m n).foldl (fun s p => if isRef p = true then enterS k d m p.2 s else s) ⟨s.order ++ [n], s.again⟩
def lookS (k : Nat) (d : Desc) (m : Hp) (ps : List (Fld × Int)) (s : SS) : SS := ps.foldl (fun s p => if isRef p = true then enterS k d m p.2 s else s) s
theorem lookS_cons (k : Nat) (d : Desc) (m : Hp) (p : Fld × Int) (ps : List (Fld × Int)) (s : SS) : lookS k d m (p :: ps) s = lookS k d m ps (if isRef p = true then enterS k d m p.2 s else s) := rfl
theorem enterS_new {k : Nat} {d : Desc} {m : Hp} {n : Int} {s : SS} (h : (s.order.any fun x => decide (x = n)) = false) : enterS (k + 1) d m n s = lookS k d m (pairsOf d m n) ⟨s.order ++ [n], s.again⟩ := by
  simp only [enterS, h, Bool.false_eq_true, if_false]; rfl
theorem enterS_old {k : Nat} {d : Desc} {m : Hp} {n : Int} {s : SS} (h : (s.order.any fun x => decide (x = n)) = true) : enterS (k + 1) d m n s = ⟨s.order, if s.again = 0 then n else s.again⟩ := by
  simp only [enterS, h, if_true]

def entsI : Int → List Int → List (Int × PV)
  | _, [] => []
  | k, v :: r => (v, ki k) :: entsI (k + 1) r
def posI (l : List Int) (v : Int) : Int := idxOf (fun x => decide (x = v)) l + 1
theorem getK_entsI (v : Int) : ∀ (l : List Int) (k : Int), getK (entsI k l) v = if idxOf (fun x => decide (x = v)) l < 0 then none else some (ki (k + idxOf (fun x => decide (x = v)) l))
  | [], k => rfl
  | a :: r, k => by
    simp only [entsI, getK]
    by_cases h : a = v
    · have e : idxOf (fun x : Int => decide (x = v)) (a :: r) = 0 := by rw [idxOf_cons, if_pos (decide_eq_true h)]
      rw [if_pos h, e, if_neg (by omega), Int.add_zero]
    · rw [if_neg h, getK_entsI v r (k + 1)]
      have hn : ¬ (decide (a = v) = true) := by simp [h]
      rcases idxOf_ge (p := fun x : Int => decide (x = v)) (l := r) with h1 | ⟨i, x, h1, _⟩
      · have e : idxOf (fun x : Int => decide (x = v)) (a :: r) = -1 := by rw [idxOf_cons, if_neg hn, h1]; rfl
        rw [h1, e]; rfl
      · have e : idxOf (fun x : Int => decide (x = v)) (a :: r) = (i : Int) + 1 := by rw [idxOf_cons, if_neg hn, h1, if_neg (by omega)]
        rw [h1, e, if_neg (by omega), if_neg (by omega)]
        have : k + 1 + (i : Int) = k + ((i : Int) + 1) := by omega
        rw [this]
theorem idx_getD (l : List Int) (v : Int) : (getK (entsI 1 l) v).getD (.k (.int .i64 0)) = ki (posI l v) := by
  rw [getK_entsI, posI]
  rcases idxOf_ge (p := fun x : Int => decide (x = v)) (l := l) with h1 | ⟨i, x, h1, _⟩
  · rw [h1]; rfl
  · rw [h1, if_neg (by omega)]; simp only [Option.getD_some]; rw [Int.add_comm]
theorem posI_any (l : List Int) (v : Int) : (!decide (posI l v = 0)) = l.any fun x => decide (x = v) := by
  have h := idxOf_any (fun x : Int => decide (x = v)) l
  have e : decide (posI l v = 0) = decide (idxOf (fun x => decide (x = v)) l < 0) := by
    rw [posI]
    rcases idxOf_ge (p := fun x : Int => decide (x = v)) (l := l) with h1 | ⟨i, x, h1, _⟩
    · rw [h1]; rfl
    · rw [h1]; exact decide_eq_decide.2 (by omega)
  rw [e, h, Bool.not_not]
theorem entsI_snoc (x : Int) : ∀ (l : List Int) (k : Int), entsI k (l ++ [x]) = entsI k l ++ [(x, ki (k + l.length))]
  | [], k => by simp [entsI]
  | t :: r, k => by
    have : k + 1 + (r.length : Int) = k + ((r.length + 1 : Nat) : Int) := by omega
    simp only [List.cons_append, entsI, entsI_snoc x r (k + 1), List.length_cons, this]
theorem idx_none {l : List Int} {v : Int} (h : (l.any fun x => decide (x = v)) = false) : getK (entsI 1 l) v = none := by
  rw [getK_entsI, if_pos]
  have := idxOf_any (fun x : Int => decide (x = v)) l
  rw [h] at this; exact of_decide_eq_true this

/-! What keeps the search going, and ends it -/
structure StOK (m : Hp) (s : SS) : Prop where
  nodup : s.order.Nodup
  inr : ∀ x ∈ s.order, 1 ≤ x ∧ x ≤ (m.n.length : Int)
theorem pigeon : ∀ (N : Nat) (l : List Int), l.Nodup → (∀ x ∈ l, 1 ≤ x ∧ x ≤ (N : Int)) → l.length ≤ N
  | 0, l, _, h => by
    cases l with
    | nil => simp
    | cons a l => have := h a (by simp); omega
  | N + 1, l, hn, h => by
    by_cases hm : ((N + 1 : Nat) : Int) ∈ l
    · have h1 := pigeon N (l.erase ((N + 1 : Nat) : Int)) (hn.erase _) (fun x hx => by
        have h2 := (List.Nodup.mem_erase_iff hn).1 hx
        have := h x h2.2
        have := h2.1
        omega)
      rw [List.length_erase_of_mem hm] at h1
      omega
    · have := pigeon N l hn (fun x hx => by
        have := h x hx
        have : x ≠ ((N + 1 : Nat) : Int) := fun e => hm (e ▸ hx)
        omega)
      omega
theorem StOK.le {m : Hp} {s : SS} (h : StOK m s) : s.order.length ≤ m.n.length := pigeon _ _ h.nodup h.inr
theorem any_mem {l : List Int} {n : Int} : (l.any fun x => decide (x = n)) = true ↔ n ∈ l := by simp
theorem StOK.snoc {m : Hp} {s : SS} {n : Int} (h : StOK m s) (h1 : 1 ≤ n) (h2 : n ≤ (m.n.length : Int)) (hn : (s.order.any fun x => decide (x = n)) = false) (a : Int) : StOK m ⟨s.order ++ [n], a⟩ := by
  have hnm : n ∉ s.order := fun e => by rw [any_mem.2 e] at hn; cases hn
  refine ⟨?_, fun x hx => ?_⟩
  · rw [List.nodup_append]
    refine ⟨h.nodup, by simp, fun a ha b hb => ?_⟩
    simp only [List.mem_singleton] at hb
    subst hb; rintro rfl; exact hnm ha
  · rcases List.mem_append.1 hx with hx | hx
    · exact h.inr x hx
    · simp only [List.mem_singleton] at hx; subst hx; exact ⟨h1, h2⟩
def RefOK (m : Hp) (p : Fld × Int) : Prop := isRef p = true → 1 ≤ p.2 ∧ p.2 ≤ (m.n.length : Int)
structure WF (d : Desc) (m : Hp) : Prop where
  small : m.n.length ≤ 4096
  node : ∀ x ∈ m.n, 0 ≤ x.t ∧ ∃ ty, d.types[x.t.toNat]? = some ty ∧ ty.f.length = x.f.length ∧ ∀ p ∈ ty.f.zip x.f, RefOK m p
theorem WF.pairs {d : Desc} {m : Hp} (h : WF d m) (n : Int) : ∀ p ∈ pairsOf d m n, RefOK m p := by
  intro p hp
  unfold pairsOf at hp
  split at hp
  · rename_i x hx
    obtain ⟨_, ty, h1, _, h2⟩ := h.node x (List.mem_of_getElem? hx)
    simp only [fieldsAt, h1, Option.map_some, Option.getD_some] at hp
    exact h2 p hp
  · cases hp
/-- A step of the search keeps what is asked of it. -/
theorem enterS_keep {d : Desc} {m : Hp} (hw : WF d m) : ∀ (k : Nat) (n : Int) (s : SS), 1 ≤ n → n ≤ (m.n.length : Int) → StOK m s → StOK m (enterS k d m n s) ∧ s.order.length ≤ (enterS k d m n s).order.length
  | 0, n, s, _, _, h => ⟨h, Nat.le_refl _⟩
  | k + 1, n, s, h1, h2, h => by
    cases hb : (s.order.any fun x => decide (x = n)) with
    | true => rw [enterS_old hb]; exact ⟨⟨h.nodup, h.inr⟩, Nat.le_refl _⟩
    | false =>
      rw [enterS_new hb]
      have : ∀ (ps : List (Fld × Int)) (s : SS), (∀ p ∈ ps, RefOK m p) → StOK m s → StOK m (lookS k d m ps s) ∧ s.order.length ≤ (lookS k d m ps s).order.length := by
        intro ps
        induction ps with
        | nil => exact fun s _ h => ⟨h, Nat.le_refl _⟩
        | cons p ps ih =>
          intro s hp h
          rw [lookS_cons]
          by_cases hr : isRef p = true
          · rw [if_pos hr]
            have hv := hp p (by simp) hr
            have e := enterS_keep hw k p.2 s hv.1 hv.2 h
            have f := ih _ (fun q hq => hp q (by simp [hq])) e.1
            exact ⟨f.1, Nat.le_trans e.2 f.2⟩
          · rw [if_neg hr]; exact ih s (fun q hq => hp q (by simp [hq])) h
      have e := this (pairsOf d m n) ⟨s.order ++ [n], s.again⟩ (hw.pairs n) (h.snoc h1 h2 hb _)
      refine ⟨e.1, ?_⟩
      have := e.2
      simp only [List.length_append, List.length_singleton] at this
      omega
end Hw.Z
namespace Hw.Z
open Go Go.Proofs Hw.M

def mv (a b i : Nat) : Nat := match Nat.beq i a with
  | true => b
  | false => i
theorem mv_low {a b i : Nat} (ha : 100 ≤ a) (hi : i < 100) : mv a b i = i := by
  unfold mv; rw [beq_ne (by omega)]
/-- The search's struct and what it leads to; its list under the id a. -/
def sCells (d : Desc) (m : Hp) (again : Int) (a : Nat) : List V := (descR d).map V.p ++ ((memR m).map V.p ++ [.ar a, .mp 2, .p (ki again)])
def sRL (d : Desc) (m : Hp) (s : SS) (a : Nat) : RL := [(0, .box (sCells d m s.again a)), (a, .arr 1 (s.order.map intR)), (2, .map (encE (intKey .i64) (entsI 1 s.order)))]
def sTab (d : Desc) (m : Hp) (s : SS) (a : Nat) : Tab := [(0, some (.box (sCells d m s.again a))), (a, some (.arr 1 (s.order.map intR))), (2, some (.map (encE (intKey .i64) (entsI 1 s.order))))]
def EnterOK (d : Desc) (m : Hp) (k : Nat) : Prop := ∀ (n : Int) (s : SS), 1 ≤ n → n ≤ (m.n.length : Int) → StOK m s → m.n.length - s.order.length < k →
  FnOK Tryz.prog 187 [.one (.bx 0 0), I n] (sRL d m s 1) (.tup []) (sRL d m (enterS k d m n s) 3)
theorem look_ok {d : Desc} {m : Hp} (hw : WF d m) {k : Nat} (hE : EnterOK d m k) (l : List Fld) (v : List Int) (hlv : l.length = v.length) (s : SS) (hp : ∀ p ∈ l.zip v, RefOK m p) (hs : StOK m s) (hk : m.n.length - s.order.length < k) :
    FnOK Tryz.prog 139 [.one (.bx 0 0), pS (fieldsP l), pS (intsP v)] (sRL d m s 1) (.tup []) (sRL d m (lookS k d m (l.zip v) s) 3) := by
  refine fn_ok T Tryz.func139 (by kernel_rfl) rfl rfl rfl rfl fun C hC => ?_
  refine g_len 1 rfl fun hlen => ?_
  rw [List.length_map] at hlen
  repeat' first
    | refine g_go T hC true 400 rfl rfl ?_
    | refine g_cond rfl (fun h => ?_) (fun h => ?_)
    | refine g_end T hC (by kernel_rfl) ?_
    | refine g_splitD (fun h => ?_) (fun h => ?_)
    | refine g_splitG rfl rfl rfl (fun h => ?_) (fun h => ?_)
    | refine g_splitP rfl rfl (fun h => ?_) (fun h => ?_)
  rw [List.length_map]
  generalize hR : lookS k d m (l.zip v) s = RES
  refine g_loop (fun q : Nat × SS => q.1 ≤ l.length ∧ StOK m q.2 ∧ m.n.length - q.2.order.length < k ∧ lookS k d m ((l.zip v).drop q.1) q.2 = RES)
    (fun q => ([(0, .one (.bx 0 0)), (2, pS (intsP v)), (8, pS (fieldsP l)), (9, I l.length), (10, I q.1)], sTab d m q.2 150)) (fun q => l.length - q.1) hC
    (0, s) ⟨Nat.zero_le _, hs, hk, hR⟩ (mv 150 1) ⟨rfl, ⟨rfl, rfl, rfl, rfl, rfl, trivial⟩, ⟨rfl, rfl, rfl, trivial⟩, rfl, fun i hi => mv_low (by omega) hi⟩ ?_
  clear hR hs hk
  rintro ⟨i, s⟩ ⟨hi, hs, hk, hn⟩
  simp only at hi hs hk hn
  refine g_run' T hC true 200 rfl ?_
  refine g_cond rfl (fun h => ?_) (fun h => ?_)
  rotate_left
  · have hge : ¬ i < l.length := by simpa using h
    rw [List.drop_eq_nil_of_le (by rw [List.length_zip]; omega)] at hn
    have hn' : s = RES := hn
    subst hn'
    repeat' first
      | refine g_go T hC true 400 rfl rfl ?_
      | refine g_cond rfl (fun h => ?_) (fun h => ?_)
      | refine g_end T hC (by kernel_rfl) ?_
      | refine g_splitD (fun h => ?_) (fun h => ?_)
      | refine g_splitG rfl rfl rfl (fun h => ?_) (fun h => ?_)
      | refine g_splitP rfl rfl (fun h => ?_) (fun h => ?_)
      | refine g_outE ?_
    exact g_fin ⟨.inr rfl, mv 3 150, [], rfl, .refl _, ⟨rfl, rfl, rfl, trivial⟩, rfl, rfl⟩
  have hlt : i < l.length := by simpa using h
  clear h
  obtain ⟨x, hx⟩ := exists_at (l := l.zip v) (i := i) (by rw [List.length_zip]; omega)
  obtain ⟨hx1, hx2⟩ := zip_at hx
  rw [drop_at hx, lookS_cons] at hn
  have hrx := hp x (List.mem_of_getElem? hx)
  repeat' first
    | refine g_go T hC true 400 rfl rfl ?_
    | refine g_cond rfl (fun h => ?_) (fun h => ?_)
    | refine g_end T hC (by kernel_rfl) ?_
    | refine g_splitD (fun h => ?_) (fun h => ?_)
    | refine g_splitG rfl rfl rfl (fun h => ?_) (fun h => ?_)
    | refine g_splitP rfl rfl (fun h => ?_) (fun h => ?_)
    | refine g_idx T hC rfl rfl rfl (Int.natCast_nonneg _) (map_at (by assumption)) rfl rfl ?_
    | refine g_call hC (plain_ok _) rfl rfl (LeSs.refl _) rfl rfl rfl ?_
  · rename_i hpl
    have hr : isRef x = true := by simp only [isRef, hpl, h, Bool.and_self]
    rw [if_pos hr] at hn
    have hv := hrx hr
    have hkeep := enterS_keep hw k x.2 s hv.1 hv.2 hs
    repeat' first
      | refine g_go T hC true 400 rfl rfl ?_
      | refine g_cond rfl (fun h => ?_) (fun h => ?_)
      | refine g_end T hC (by kernel_rfl) ?_
      | refine g_splitD (fun h => ?_) (fun h => ?_)
      | refine g_splitG rfl rfl rfl (fun h => ?_) (fun h => ?_)
      | refine g_splitP rfl rfl (fun h => ?_) (fun h => ?_)
      | refine g_callR hC (hE x.2 s hv.1 hv.2 hs hk) (nm [0, 150, 2, 160]) rfl rfl (LeSs.refl _) rfl rfl rfl rfl rfl rfl rfl rfl ?_
    rw [wrapS (by omega)]
    exact g_round (i + 1, enterS k d m x.2 s) ⟨by simp only; omega, hkeep.1, by simp only; omega, hn⟩ (mv 150 160) (by simp only; omega) ⟨rfl, ⟨rfl, rfl, rfl, rfl, rfl, trivial⟩, ⟨rfl, rfl, rfl, trivial⟩, rfl, fun i hi => mv_low (by omega) hi⟩
  all_goals
    have hr : isRef x = false := by simp only [isRef, h, Bool.false_and, Bool.and_false]
    rw [hr] at hn
    simp only [Bool.false_eq_true, if_false] at hn
    simp only
    rw [wrapS (by omega)]
    exact g_round (i + 1, s) ⟨by simp only; omega, hs, hk, hn⟩ id (by simp only; omega) ⟨rfl, ⟨rfl, rfl, rfl, rfl, rfl, trivial⟩, ⟨rfl, rfl, rfl, trivial⟩, rfl, fun _ _ => rfl⟩

theorem enter_ok {d : Desc} {m : Hp} (hw : WF d m) : ∀ k, EnterOK d m k := by
  intro k
  induction k with
  | zero => intro n s _ _ _ h; omega
  | succ k ih =>
    intro n s h1 h2 hs hk
    have hsm := hw.small
    have hle := hs.le
    obtain ⟨x, hx⟩ := exists_at (l := m.n) (i := (n - 1).toNat) (by omega)
    obtain ⟨ht, ty, hty, hlen, hrefs⟩ := hw.node x (List.mem_of_getElem? hx)
    have hpairs : pairsOf d m n = ty.f.zip x.f := by simp only [pairsOf, hx, fieldsAt, hty, Option.map_some, Option.getD_some]
    have hany := posI_any s.order n
    refine fn_ok T Tryz.func187 (by kernel_rfl) rfl rfl rfl rfl fun C hC => ?_
    repeat' first
      | refine g_go T hC true 400 rfl rfl ?_
      | refine g_cond rfl (fun h => ?_) (fun h => ?_)
      | refine g_end T hC (by kernel_rfl) ?_
      | refine g_splitD (fun h => ?_) (fun h => ?_)
      | refine g_splitG rfl rfl rfl (fun h => ?_) (fun h => ?_)
      | refine g_splitP rfl rfl (fun h => ?_) (fun h => ?_)
      | refine g_lookupF (intKey .i64) hC (kt := 3) (et := 3) (c0 := .int .i64 0) rfl rfl rfl (by kernel_rfl) (by kernel_rfl) (by kernel_rfl) rfl (idx_getD s.order n) rfl rfl ?_
    · rename_i h0
      rw [hany] at h0
      rw [enterS_old h0, if_pos (of_decide_eq_true h)]
      exact g_fin ⟨.inl rfl, mv 3 1, [], rfl, .refl _, ⟨rfl, rfl, rfl, trivial⟩, rfl, rfl⟩
    · rename_i h0
      rw [hany] at h0
      rw [enterS_old h0, if_neg (of_decide_eq_false h)]
      exact g_fin ⟨.inl rfl, mv 3 1, [], rfl, .refl _, ⟨rfl, rfl, rfl, trivial⟩, rfl, rfl⟩
    · rw [hany] at h
      have hs' := hs.snoc h1 h2 h s.again
      have hle' := hs'.le
      simp only [List.length_append, List.length_singleton] at hle'
      rw [enterS_new h, hpairs]
      have hL := look_ok hw ih ty.f x.f hlen ⟨s.order ++ [n], s.again⟩ hrefs hs' (by simp only [List.length_append, List.length_singleton]; omega)
      have w1 : IntKind.i64.wrap (n - 1) = n - 1 := wrap64 (by omega)
      have hlen2 : (s.order.map intR).length = s.order.length := List.length_map _
      repeat' first
        | refine g_go T hC true 400 rfl rfl ?_
        | refine g_cond rfl (fun h => ?_) (fun h => ?_)
        | refine g_end T hC (by kernel_rfl) ?_
        | refine g_splitD (fun h => ?_) (fun h => ?_)
        | refine g_splitG rfl rfl rfl (fun h => ?_) (fun h => ?_)
        | refine g_splitP rfl rfl (fun h => ?_) (fun h => ?_)
        | refine g_lit T hC rfl rfl rfl rfl rfl rfl rfl rfl rfl ?_
        | refine g_append T 101 hC (rows := s.order.map intR) (rows2 := [intR n]) (rows3 := (s.order ++ [n]).map intR) (bytes := 8) rfl rfl rfl rfl (SrcS.sl (T.es_ok _ _ rfl)) (by rw [List.map_append]; rfl) rfl rfl rfl (by kernel_rfl) (by simp only [hlen2, List.length_singleton]; omega) (by simp only [hlen2, List.length_singleton]; omega) rfl rfl rfl ?_
      refine g_mapSet (intKey .i64) hC (kt := 3) (et := 3) (l' := entsI 1 (s.order ++ [n])) rfl rfl rfl rfl (by kernel_rfl) (by kernel_rfl) ?_ rfl ?_
      · rw [putK_new (idx_none h), entsI_snoc]
        simp only [List.length_map, List.length_append, List.length_singleton]
        rw [show ((s.order.length + 1 : Nat) : Int) = 1 + (s.order.length : Int) by omega]
      · repeat' first
          | refine g_go T hC true 400 rfl rfl ?_
          | refine g_cond rfl (fun h => ?_) (fun h => ?_)
          | refine g_end T hC (by kernel_rfl) ?_
          | refine g_splitD (fun h => ?_) (fun h => ?_)
          | refine g_splitG rfl rfl rfl (fun h => ?_) (fun h => ?_)
          | refine g_splitP rfl rfl (fun h => ?_) (fun h => ?_)
          | (rw [w1]; refine g_idx T hC rfl rfl rfl (by omega) (map_atI hx) rfl rfl ?_)
          | refine g_idx T hC rfl rfl rfl ht (map_atI hty) rfl rfl ?_
          | refine g_callR hC (hL) (nm [0, 101, 2, 170]) rfl rfl (LeSs.refl _) rfl rfl rfl rfl rfl rfl rfl rfl ?_
        exact g_fin ⟨.inr rfl, mv 3 170, [], rfl, .refl _, ⟨rfl, rfl, rfl, trivial⟩, rfl, rfl⟩

/-- The search of a memory. -/
def searchS (d : Desc) (m : Hp) : SS := lookS (m.n.length + 1) d m (d.globals.zip m.g) ⟨[], 0⟩
structure WG (d : Desc) (m : Hp) : Prop extends WF d m where
  glen : d.globals.length = m.g.length
  gref : ∀ p ∈ d.globals.zip m.g, RefOK m p
theorem searched_ok {d : Desc} {m : Hp} (hw : WG d m) : FnOK Tryz.prog 70 [aggS (descR d), aggS (memR m)] [] (.one (.bx 0 0)) (sRL d m (searchS d m) 1) := by
  have hL := look_ok hw.toWF (enter_ok hw.toWF (m.n.length + 1)) d.globals m.g hw.glen ⟨[], 0⟩ hw.gref ⟨by simp, by simp⟩ (by simp)
  refine fn_ok T Tryz.func70 (by kernel_rfl) rfl rfl rfl rfl fun C hC => ?_
  repeat' first
    | refine g_go T hC true 400 rfl rfl ?_
    | refine g_cond rfl (fun h => ?_) (fun h => ?_)
    | refine g_end T hC (by kernel_rfl) ?_
    | refine g_splitD (fun h => ?_) (fun h => ?_)
    | refine g_splitG rfl rfl rfl (fun h => ?_) (fun h => ?_)
    | refine g_splitP rfl rfl (fun h => ?_) (fun h => ?_)
    | refine g_makeMap (intKey .i64) hC rfl rfl rfl ?_
  refine g_adopt hC rfl 101 1 rfl [] trivial [(1010, (descR d).map V.p ++ ((memR m).map V.p ++ [.ar 101, .mp 1008, .p (ki 0)]))] ⟨⟨_, rfl, by decide, ?_⟩, trivial⟩ ?_
  · exact .cons (.refl _) (.cons (.refl _) (.cons (.refl _) (.cons (.refl _) (.cons (.refl _) (.cons (.refl _) (.cons (.refl _) (.cons (.refl _) (.cons (.refl _) (.cons (.refl _) (.cons .nil (.cons (.refl _) (.cons (.refl _) .nil))))))))))))
  repeat' first
    | refine g_go T hC true 400 rfl rfl ?_
    | refine g_cond rfl (fun h => ?_) (fun h => ?_)
    | refine g_end T hC (by kernel_rfl) ?_
    | refine g_splitD (fun h => ?_) (fun h => ?_)
    | refine g_splitG rfl rfl rfl (fun h => ?_) (fun h => ?_)
    | refine g_splitP rfl rfl (fun h => ?_) (fun h => ?_)
    | refine g_callR hC (hL) (nm [1010, 101, 1008, 160]) rfl rfl (LeSs.refl _) rfl rfl rfl rfl rfl rfl rfl rfl ?_
  exact g_fin ⟨.inl rfl, nm [1010, 160, 1008], _, rfl, .refl _, ⟨rfl, rfl, rfl, trivial⟩, rfl, rfl⟩
end Hw.Z
