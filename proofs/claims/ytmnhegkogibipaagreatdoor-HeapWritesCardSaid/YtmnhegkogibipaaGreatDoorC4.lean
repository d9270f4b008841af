/- The engine and the contracts. -/
import Derived.Test.YtmnhegkogibipaaGreatDoorC3
import Derived.Test.YtmnhegkogibipaaGreatDoorC2
import Derived.Test.YtmnhegkogibipaaGreatDoorE3
import Derived.Test.YtmnhegkogibipaaGreatDoorC1
set_option linter.unusedVariables false
set_option linter.unusedSimpArgs false
namespace Hw.Z
open Go Go.Proofs Hw.M

theorem zipIdx_at {α : Type} {l : List α} {i : Nat} {x : α × Nat} (h : l.zipIdx[i]? = some x) : l[i]? = some x.1 ∧ x.2 = i := by
  rw [List.getElem?_zipIdx] at h
  cases e : l[i]? with
  | none => rw [e] at h; cases h
  | some y => rw [e] at h; simp at h; subst h; exact ⟨rfl, rfl⟩
theorem zip_at {α β : Type} {l : List α} {r : List β} {i : Nat} {x : α × β} (h : (l.zip r)[i]? = some x) : l[i]? = some x.1 ∧ r[i]? = some x.2 := by
  rw [List.getElem?_zip_eq_some] at h; exact h
def tyOk (d : Desc) (x : NodeT × Nat) : Bool := decide (tyIdx d x.1.n = (x.2 : Int)) && x.1.f.all (known d)
/-- P12: a description has types. -/
def hasTypes (d : Desc) : Bool := validD d && d.globals.all (known d) && d.types.zipIdx.all (tyOk d)
theorem hasTypes_ok (d : Desc) : FnOK Tryz.prog 17 [aggS (descR d)] [] (.bq (hasTypes d)) [] := by
  refine fn_ok T Tryz.func17 (by kernel_rfl) rfl rfl rfl rfl fun C hC => ?_
  refine g_lenA rfl 0 1 rfl rfl fun hlen => ?_
  rw [List.length_map] at hlen
  repeat' first
    | refine g_go T hC true 400 rfl rfl ?_
    | refine g_cond rfl (fun h => ?_) (fun h => ?_)
    | refine g_end T hC (by kernel_rfl) ?_
    | refine g_splitD (fun h => ?_) (fun h => ?_)
    | refine g_splitG rfl rfl rfl (fun h => ?_) (fun h => ?_)
    | refine g_splitP rfl rfl (fun h => ?_) (fun h => ?_)
    | refine g_call hC (valid09_ok _) rfl rfl (LeSs.refl _) rfl rfl rfl ?_
    | refine g_call hC (typed_ok _ _) rfl rfl (LeSs.refl _) rfl rfl rfl ?_
    | refine g_retl T (.inl rfl) rfl ?_
  · simp_all [hasTypes, -List.all_eq_true, -List.all_eq_false]
  · simp_all [hasTypes, -List.all_eq_true, -List.all_eq_false]
  · rename_i h0
    have hv : hasTypes d = d.types.zipIdx.all (tyOk d) := by simp_all [hasTypes, -List.all_eq_true, -List.all_eq_false]
    rw [hv]
    clear h0 h hv
    refine g_loop (fun i : Nat => i ≤ (d.types.zipIdx).length ∧ ((d.types.zipIdx).take i).all (tyOk d) = true) (fun i => ([(1, .one (.bx 1001 0)), (3, I i)], [(1001, some (.box ((descR d).map V.p)))])) (fun i => (d.types.zipIdx).length - i) hC
      0 ⟨Nat.zero_le _, by simp⟩ id ⟨rfl, ⟨rfl, rfl, trivial⟩, ⟨rfl, trivial⟩, rfl, fun _ _ => rfl⟩ ?_
    rintro i ⟨hi, hn⟩
    refine g_run' T hC true 200 rfl ?_
    refine g_cond rfl (fun h => ?_) (fun h => ?_)
    · have hlt : i < (d.types.zipIdx).length := by first | simpa using h | (have h' := of_decide_eq_true h; simp only [List.length_map, List.length_zip] at h' ⊢; omega)
      clear h
      obtain ⟨x, hx⟩ := exists_at hlt
      obtain ⟨hx1, hx2⟩ := zipIdx_at hx
      repeat' first
        | refine g_go T hC true 400 rfl rfl ?_
        | refine g_cond rfl (fun h => ?_) (fun h => ?_)
        | refine g_end T hC (by kernel_rfl) ?_
        | refine g_splitD (fun h => ?_) (fun h => ?_)
        | refine g_splitG rfl rfl rfl (fun h => ?_) (fun h => ?_)
        | refine g_splitP rfl rfl (fun h => ?_) (fun h => ?_)
        | refine g_idx T hC rfl rfl rfl (Int.natCast_nonneg _) (map_at (by assumption)) rfl rfl ?_
        | refine g_call hC (typeIndex_ok _ _) rfl rfl (LeSs.refl _) rfl rfl rfl ?_
        | refine g_call hC (typed_ok _ _) rfl rfl (LeSs.refl _) rfl rfl rfl ?_
        | refine g_outR ?_
        | refine g_retl T (.inl rfl) rfl ?_
      all_goals first
        | (have hp : (tyOk d) x = true := by clear hn hx hlt hi; simp_all [tyOk, -List.all_eq_true, -List.all_eq_false] <;> omega
           have hlt' := hlt
           try simp only [List.length_zip, List.length_zipIdx] at hlt'
           rw [wrap64 (by omega)]
           refine g_round (i + 1) ⟨by omega, ?_⟩ id (by omega) ⟨rfl, ⟨rfl, rfl, trivial⟩, ⟨rfl, trivial⟩, rfl, fun _ _ => rfl⟩
           rw [all_take (p := tyOk d) hx, hn, Bool.true_and]; exact hp)
        | (have hp : (tyOk d) x = false := by clear hn hx hlt hi; simp_all [tyOk, -List.all_eq_true, -List.all_eq_false] <;> omega
           have hno := all_no (p := tyOk d) hx hp
           exact hno.symm)
    have hge : ¬ i < (d.types.zipIdx).length := by first | simpa using h | (have h' := of_decide_eq_false h; simp only [List.length_map, List.length_zip] at h' ⊢; omega)
    have hall : (d.types.zipIdx).all (tyOk d) = true := all_end (p := tyOk d) (by omega) hn
    clear h hge hn hi
    repeat' first
      | refine g_go T hC true 400 rfl rfl ?_
      | refine g_cond rfl (fun h => ?_) (fun h => ?_)
      | refine g_end T hC (by kernel_rfl) ?_
      | refine g_splitD (fun h => ?_) (fun h => ?_)
      | refine g_splitG rfl rfl rfl (fun h => ?_) (fun h => ?_)
      | refine g_splitP rfl rfl (fun h => ?_) (fun h => ?_)
      | refine g_outE ?_
      | refine g_retl T (.inl rfl) rfl ?_
    exact hall.symm

def nodeShape (d : Desc) (x : Nd) : Bool := !decide (x.t < 0) && !decide ((d.types.length : Int) ≤ x.t) && decide ((d.types[x.t.toNat]?).map (fun t => t.f.length) = some x.f.length)
def pairOk (d : Desc) (m : Hp) (p : Fld × Int) : Bool := rightV d m p.1.t p.2
def nodeRight (d : Desc) (m : Hp) (x : Nd) : Bool := ((((d.types[x.t.toNat]?).map (fun t => t.f)).getD []).zip x.f).all (pairOk d m)
/-- P12.1 -/
def validM (d : Desc) (m : Hp) : Bool := hasTypes d && decide ((m.g.length : Int) = (d.globals.length : Int)) && !decide (4096 < (m.n.length : Int)) && m.n.all (nodeShape d) && (d.globals.zip m.g).all (pairOk d m) && m.n.all (nodeRight d m)
theorem tAt {d : Desc} {x : Nd} (h1 : decide (x.t < 0) = false) (h2 : decide (((d.types.map nodeTR).length : Int) ≤ x.t) = false) : 0 ≤ x.t ∧ ∃ ty, d.types[x.t.toNat]? = some ty := by
  have e1 := of_decide_eq_false h1
  have e2 := of_decide_eq_false h2
  rw [List.length_map] at e2
  exact ⟨by omega, exists_at (by omega)⟩
theorem nodeShape_at {d : Desc} {x : Nd} (h : nodeShape d x = true) : 0 ≤ x.t ∧ ∃ ty, d.types[x.t.toNat]? = some ty ∧ ty.f.length = x.f.length := by
  simp only [nodeShape, Bool.and_eq_true, Bool.not_eq_true', decide_eq_false_iff_not, decide_eq_true_eq, Option.map_eq_some_iff] at h
  obtain ⟨⟨h1, _⟩, ty, h3, h4⟩ := h
  exact ⟨by omega, ty, h3, h4⟩
theorem all_at {α : Type} {p : α → Bool} {l : List α} {i : Nat} {x : α} (h : l.all p = true) (hx : l[i]? = some x) : p x = true := by
  rw [List.all_eq_true] at h; exact h x (List.mem_of_getElem? hx)
theorem valid12_ok (d : Desc) (m : Hp) : FnOK Tryz.prog 16 [aggS (descR d), aggS (memR m)] [] (.bq (validM d m)) [] := by
  refine fn_ok T Tryz.func16 (by kernel_rfl) rfl rfl rfl rfl fun C hC => ?_
  refine g_lenA rfl 1 0 rfl rfl fun hl1 => g_lenA rfl 1 1 rfl rfl fun hl2 => ?_
  rw [List.length_map] at hl1 hl2
  repeat' first
    | refine g_go T hC true 400 rfl rfl ?_
    | refine g_cond rfl (fun h => ?_) (fun h => ?_)
    | refine g_end T hC (by kernel_rfl) ?_
    | refine g_splitD (fun h => ?_) (fun h => ?_)
    | refine g_splitG rfl rfl rfl (fun h => ?_) (fun h => ?_)
    | refine g_splitP rfl rfl (fun h => ?_) (fun h => ?_)
    | refine g_call hC (hasTypes_ok _) rfl rfl (LeSs.refl _) rfl rfl rfl ?_
    | refine g_retl T (.inl rfl) rfl ?_
  all_goals (try simp only [List.length_map] at *)
  rotate_right
  · have hlg : (m.g.length : Int) = (d.globals.length : Int) := by simp_all
    have hln : m.n.length ≤ 4096 := by have := of_decide_eq_false h; omega
    have e1 : hasTypes d = true := by simp_all [-List.all_eq_true, -List.all_eq_false]
    have hv : validM d m = (m.n.all (nodeShape d) && (d.globals.zip m.g).all (pairOk d m) && m.n.all (nodeRight d m)) := by simp only [validM, e1, h, decide_eq_true hlg, Bool.true_and, Bool.not_false]
    clear h
    rw [hv]
    repeat' first
      | refine g_go T hC true 400 rfl rfl ?_
      | refine g_cond rfl (fun h => ?_) (fun h => ?_)
      | refine g_end T hC (by kernel_rfl) ?_
      | refine g_splitD (fun h => ?_) (fun h => ?_)
      | refine g_splitG rfl rfl rfl (fun h => ?_) (fun h => ?_)
      | refine g_splitP rfl rfl (fun h => ?_) (fun h => ?_)
    refine g_loop (fun i : Nat => i ≤ (m.n).length ∧ ((m.n).take i).all (nodeShape d) = true) (fun i => ([(2, .one (.bx 1002 0)), (3, .one (.bx 1003 0)), (5, I i)], [(1002, some (.box ((descR d).map V.p))), (1003, some (.box ((memR m).map V.p)))])) (fun i => (m.n).length - i) hC
      0 ⟨Nat.zero_le _, by simp⟩ id ⟨rfl, ⟨rfl, rfl, rfl, trivial⟩, ⟨rfl, rfl, trivial⟩, rfl, fun _ _ => rfl⟩ ?_
    rintro i ⟨hi, hn⟩
    refine g_run' T hC true 200 rfl ?_
    refine g_cond rfl (fun h => ?_) (fun h => ?_)
    · have hlt : i < (m.n).length := by first | simpa using h | (have h' := of_decide_eq_true h; simp only [List.length_map, List.length_zip] at h' ⊢; omega)
      clear h
      obtain ⟨x, hx⟩ := exists_at hlt
      repeat' first
        | refine g_go T hC true 400 rfl rfl ?_
        | refine g_cond rfl (fun h => ?_) (fun h => ?_)
        | refine g_end T hC (by kernel_rfl) ?_
        | refine g_splitD (fun h => ?_) (fun h => ?_)
        | refine g_splitG rfl rfl rfl (fun h => ?_) (fun h => ?_)
        | refine g_splitP rfl rfl (fun h => ?_) (fun h => ?_)
        | refine g_idx T hC rfl rfl rfl (Int.natCast_nonneg _) (map_at (by assumption)) rfl rfl ?_
        | (obtain ⟨h00, ty, hty⟩ := tAt (by assumption) (by assumption); refine g_idx T hC rfl rfl rfl h00 (map_atI hty) rfl rfl ?_)
        | refine g_outR ?_
        | refine g_retl T (.inl rfl) rfl ?_
      all_goals first
        | (have hp : (nodeShape d) x = true := by clear hn hx hlt hi; simp_all [nodeShape, -List.all_eq_true, -List.all_eq_false] <;> omega
           have hlt' := hlt
           try simp only [List.length_zip, List.length_zipIdx] at hlt'
           rw [wrap64 (by omega)]
           refine g_round (i + 1) ⟨by omega, ?_⟩ id (by omega) ⟨rfl, ⟨rfl, rfl, rfl, trivial⟩, ⟨rfl, rfl, trivial⟩, rfl, fun _ _ => rfl⟩
           rw [all_take (p := nodeShape d) hx, hn, Bool.true_and]; exact hp)
        | (have hp : (nodeShape d) x = false := by clear hn hx hlt hi; simp_all [nodeShape, -List.all_eq_true, -List.all_eq_false] <;> omega
           have hno := all_no (p := nodeShape d) hx hp
           simp only [hno, Bool.false_and])
    have hge : ¬ i < (m.n).length := by first | simpa using h | (have h' := of_decide_eq_false h; simp only [List.length_map, List.length_zip] at h' ⊢; omega)
    have hall : (m.n).all (nodeShape d) = true := all_end (p := nodeShape d) (by omega) hn
    clear h hge hn hi
    rw [hall, Bool.true_and]
    have hshape := hall
    repeat' first
      | refine g_go T hC true 400 rfl rfl ?_
      | refine g_cond rfl (fun h => ?_) (fun h => ?_)
      | refine g_end T hC (by kernel_rfl) ?_
      | refine g_splitD (fun h => ?_) (fun h => ?_)
      | refine g_splitG rfl rfl rfl (fun h => ?_) (fun h => ?_)
      | refine g_splitP rfl rfl (fun h => ?_) (fun h => ?_)
      | refine g_outE ?_
    refine g_loop (fun i : Nat => i ≤ (d.globals.zip m.g).length ∧ ((d.globals.zip m.g).take i).all (pairOk d m) = true) (fun i => ([(2, .one (.bx 1002 0)), (3, .one (.bx 1003 0)), (7, I i)], [(1002, some (.box ((descR d).map V.p))), (1003, some (.box ((memR m).map V.p)))])) (fun i => (d.globals.zip m.g).length - i) hC
      0 ⟨Nat.zero_le _, by simp⟩ id ⟨rfl, ⟨rfl, rfl, rfl, trivial⟩, ⟨rfl, rfl, trivial⟩, rfl, fun _ _ => rfl⟩ ?_
    rintro i ⟨hi, hn⟩
    refine g_run' T hC true 200 rfl ?_
    refine g_cond rfl (fun h => ?_) (fun h => ?_)
    · have hlt : i < (d.globals.zip m.g).length := by first | simpa using h | (have h' := of_decide_eq_true h; simp only [List.length_map, List.length_zip] at h' ⊢; omega)
      clear h
      obtain ⟨x, hx⟩ := exists_at hlt
      obtain ⟨hx1, hx2⟩ := zip_at hx
      repeat' first
        | refine g_go T hC true 400 rfl rfl ?_
        | refine g_cond rfl (fun h => ?_) (fun h => ?_)
        | refine g_end T hC (by kernel_rfl) ?_
        | refine g_splitD (fun h => ?_) (fun h => ?_)
        | refine g_splitG rfl rfl rfl (fun h => ?_) (fun h => ?_)
        | refine g_splitP rfl rfl (fun h => ?_) (fun h => ?_)
        | refine g_idx T hC rfl rfl rfl (Int.natCast_nonneg _) (map_at (by assumption)) rfl rfl ?_
        | refine g_call hC (right_ok _ _ _ _) rfl rfl (LeSs.refl _) rfl rfl rfl ?_
        | refine g_outR ?_
        | refine g_retl T (.inl rfl) rfl ?_
      all_goals first
        | (have hp : (pairOk d m) x = true := by clear hn hx hlt hi; simp_all [pairOk, -List.all_eq_true, -List.all_eq_false] <;> omega
           have hlt' := hlt
           try simp only [List.length_zip, List.length_zipIdx] at hlt'
           rw [wrap64 (by omega)]
           refine g_round (i + 1) ⟨by omega, ?_⟩ id (by omega) ⟨rfl, ⟨rfl, rfl, rfl, trivial⟩, ⟨rfl, rfl, trivial⟩, rfl, fun _ _ => rfl⟩
           rw [all_take (p := pairOk d m) hx, hn, Bool.true_and]; exact hp)
        | (have hp : (pairOk d m) x = false := by clear hn hx hlt hi; simp_all [pairOk, -List.all_eq_true, -List.all_eq_false] <;> omega
           have hno := all_no (p := pairOk d m) hx hp
           simp only [hno, Bool.false_and])
    have hge : ¬ i < (d.globals.zip m.g).length := by first | simpa using h | (have h' := of_decide_eq_false h; simp only [List.length_map, List.length_zip] at h' ⊢; omega)
    have hall : (d.globals.zip m.g).all (pairOk d m) = true := all_end (p := pairOk d m) (by omega) hn
    clear h hge hn hi
    rw [hall, Bool.true_and]
    repeat' first
      | refine g_go T hC true 400 rfl rfl ?_
      | refine g_cond rfl (fun h => ?_) (fun h => ?_)
      | refine g_end T hC (by kernel_rfl) ?_
      | refine g_splitD (fun h => ?_) (fun h => ?_)
      | refine g_splitG rfl rfl rfl (fun h => ?_) (fun h => ?_)
      | refine g_splitP rfl rfl (fun h => ?_) (fun h => ?_)
      | refine g_outE ?_
    refine g_loop (fun i : Nat => i ≤ (m.n).length ∧ (m.n.take i).all (nodeRight d m) = true) (fun i => ([(2, .one (.bx 1002 0)), (3, .one (.bx 1003 0)), (8, I i)], [(1002, some (.box ((descR d).map V.p))), (1003, some (.box ((memR m).map V.p)))])) (fun i => (m.n).length - i) hC
      0 ⟨Nat.zero_le _, by simp⟩ id ⟨rfl, ⟨rfl, rfl, rfl, trivial⟩, ⟨rfl, rfl, trivial⟩, rfl, fun _ _ => rfl⟩ ?_
    rintro i ⟨hi, hn⟩
    refine g_run' T hC true 200 rfl ?_
    refine g_cond rfl (fun h => ?_) (fun h => ?_)
    · have hlt : i < m.n.length := by simpa using h
      obtain ⟨y, hy⟩ := exists_at hlt
      obtain ⟨h0, ty, hty, hle⟩ := nodeShape_at (all_at hshape hy)
      have hnr : nodeRight d m y = (ty.f.zip y.f).all (pairOk d m) := by simp [nodeRight, hty]
      repeat' first
        | refine g_go T hC true 400 rfl rfl ?_
        | refine g_cond rfl (fun h => ?_) (fun h => ?_)
        | refine g_end T hC (by kernel_rfl) ?_
        | refine g_splitD (fun h => ?_) (fun h => ?_)
        | refine g_splitG rfl rfl rfl (fun h => ?_) (fun h => ?_)
        | refine g_splitP rfl rfl (fun h => ?_) (fun h => ?_)
        | refine g_idx T hC rfl rfl rfl (Int.natCast_nonneg _) (map_at (by assumption)) rfl rfl ?_
        | refine g_idx T hC rfl rfl rfl h0 (map_atI hty) rfl rfl ?_
      refine g_len1 rfl 107 rfl fun hlf => ?_
      rw [List.length_map] at hlf
      repeat' first
        | refine g_go T hC true 400 rfl rfl ?_
        | refine g_cond rfl (fun h => ?_) (fun h => ?_)
        | refine g_end T hC (by kernel_rfl) ?_
        | refine g_splitD (fun h => ?_) (fun h => ?_)
        | refine g_splitG rfl rfl rfl (fun h => ?_) (fun h => ?_)
        | refine g_splitP rfl rfl (fun h => ?_) (fun h => ?_)
      clear h
      have hn0 := hn
      have hi0 := hi
      refine g_loop (fun k : Nat => k ≤ (ty.f.zip y.f).length ∧ ((ty.f.zip y.f).take k).all (pairOk d m) = true) (fun k => ([(2, .one (.bx 1002 0)), (3, .one (.bx 1003 0)), (8, I i), (9, pS (fieldsP ty.f)), (10, I k)], [(1002, some (.box ((descR d).map V.p))), (1003, some (.box ((memR m).map V.p)))])) (fun k => (ty.f.zip y.f).length - k) hC
        0 ⟨Nat.zero_le _, by simp⟩ id ⟨rfl, ⟨rfl, rfl, rfl, rfl, rfl, trivial⟩, ⟨rfl, rfl, trivial⟩, rfl, fun _ _ => rfl⟩ ?_
      rintro k ⟨hi, hn⟩
      refine g_run' T hC true 200 rfl ?_
      refine g_cond rfl (fun h => ?_) (fun h => ?_)
      · have hlt : k < (ty.f.zip y.f).length := by first | simpa using h | (have h' := of_decide_eq_true h; simp only [List.length_map, List.length_zip] at h' ⊢; omega)
        clear h
        obtain ⟨x, hx⟩ := exists_at hlt
        obtain ⟨hx1, hx2⟩ := zip_at hx
        repeat' first
          | refine g_go T hC true 400 rfl rfl ?_
          | refine g_cond rfl (fun h => ?_) (fun h => ?_)
          | refine g_end T hC (by kernel_rfl) ?_
          | refine g_splitD (fun h => ?_) (fun h => ?_)
          | refine g_splitG rfl rfl rfl (fun h => ?_) (fun h => ?_)
          | refine g_splitP rfl rfl (fun h => ?_) (fun h => ?_)
          | refine g_idx T hC rfl rfl rfl (Int.natCast_nonneg _) (map_at (by assumption)) rfl rfl ?_
          | refine g_call hC (right_ok _ _ _ _) rfl rfl (LeSs.refl _) rfl rfl rfl ?_
          | refine g_outR ?_
          | refine g_retl T (.inl rfl) rfl ?_
        all_goals first
          | (have hp : (pairOk d m) x = true := by clear hn hx hlt hi; simp_all [pairOk, -List.all_eq_true, -List.all_eq_false] <;> omega
             have hlt' := hlt
             try simp only [List.length_zip, List.length_zipIdx] at hlt'
             rw [wrap64 (by omega)]
             refine g_round (k + 1) ⟨by omega, ?_⟩ id (by omega) ⟨rfl, ⟨rfl, rfl, rfl, rfl, rfl, trivial⟩, ⟨rfl, rfl, trivial⟩, rfl, fun _ _ => rfl⟩
             rw [all_take (p := pairOk d m) hx, hn, Bool.true_and]; exact hp)
          | (have hp : (pairOk d m) x = false := by clear hn hx hlt hi; simp_all [pairOk, -List.all_eq_true, -List.all_eq_false] <;> omega
             have hno := all_no (p := pairOk d m) hx hp
             exact (all_no hy (hnr.trans hno)).symm)
      have hge : ¬ k < (ty.f.zip y.f).length := by first | simpa using h | (have h' := of_decide_eq_false h; simp only [List.length_map, List.length_zip] at h' ⊢; omega)
      have hall : (ty.f.zip y.f).all (pairOk d m) = true := all_end (p := pairOk d m) (by omega) hn
      clear h hge hn hi
      repeat' first
        | refine g_go T hC true 400 rfl rfl ?_
        | refine g_cond rfl (fun h => ?_) (fun h => ?_)
        | refine g_end T hC (by kernel_rfl) ?_
        | refine g_splitD (fun h => ?_) (fun h => ?_)
        | refine g_splitG rfl rfl rfl (fun h => ?_) (fun h => ?_)
        | refine g_splitP rfl rfl (fun h => ?_) (fun h => ?_)
        | refine g_outE ?_
      rw [wrapS (by omega)]
      refine g_round (i + 1) ⟨by omega, ?_⟩ id (by omega) ⟨rfl, ⟨rfl, rfl, rfl, trivial⟩, ⟨rfl, rfl, trivial⟩, rfl, fun _ _ => rfl⟩
      rw [all_take hy, hn0, Bool.true_and, hnr]; exact hall
    · have hge : ¬ i < m.n.length := by simpa using h
      repeat' first
        | refine g_go T hC true 400 rfl rfl ?_
        | refine g_cond rfl (fun h => ?_) (fun h => ?_)
        | refine g_end T hC (by kernel_rfl) ?_
        | refine g_splitD (fun h => ?_) (fun h => ?_)
        | refine g_splitG rfl rfl rfl (fun h => ?_) (fun h => ?_)
        | refine g_splitP rfl rfl (fun h => ?_) (fun h => ?_)
        | refine g_outE ?_
        | refine g_retl T (.inl rfl) rfl ?_
      exact (all_end (by omega) hn).symm
  all_goals simp_all [validM, -List.all_eq_true, -List.all_eq_false]
end Hw.Z
namespace Hw.Z
open Go Go.Proofs Hw.M

/-! lex -/
def classS (c : Int) : Int := if c = 32 then 1 else if c = 9 then 1 else if c = 13 then 1 else if c = 10 then 1 else
  if decide (97 ≤ c) && decide (c ≤ 122) then 2 else if decide (65 ≤ c) && decide (c ≤ 90) then 2 else if decide (48 ≤ c) && decide (c ≤ 57) then 3 else if c = 95 then 4 else 0
set_option maxHeartbeats 1000000 in
theorem class_ok (c : Int) : FnOK Tryz.prog 161 [uc c] [] (I (classS c)) [] := by
  refine fn_ok T Tryz.func161 (by kernel_rfl) rfl rfl rfl rfl fun C hC => ?_
  repeat' first
    | refine g_go T hC true 400 rfl rfl ?_
    | refine g_cond rfl (fun h => ?_) (fun h => ?_)
    | refine g_end T hC (by kernel_rfl) ?_
    | refine g_splitD (fun h => ?_) (fun h => ?_)
    | refine g_splitG rfl rfl rfl (fun h => ?_) (fun h => ?_)
    | refine g_splitP rfl rfl (fun h => ?_) (fun h => ?_)
    | refine g_reti T (.inl rfl) rfl ?_
  all_goals (simp_all [classS] <;> omega)
theorem class_cases (c : Int) : (classS c = 2 ∧ isLetter c = true ∧ isWord c = true) ∨ ((classS c = 3 ∨ classS c = 4) ∧ isLetter c = false ∧ isWord c = true) ∨ ((classS c = 0 ∨ classS c = 1) ∧ isLetter c = false ∧ isWord c = false) := by
  by_cases h1 : c = 32 ∨ c = 9 ∨ c = 13 ∨ c = 10
  · refine .inr (.inr ?_)
    rcases h1 with rfl | rfl | rfl | rfl <;> exact ⟨.inr rfl, rfl, rfl⟩
  · have e1 : c ≠ 32 := by omega
    have e2 : c ≠ 9 := by omega
    have e3 : c ≠ 13 := by omega
    have e4 : c ≠ 10 := by omega
    have ec : classS c = if decide (97 ≤ c) && decide (c ≤ 122) then 2 else if decide (65 ≤ c) && decide (c ≤ 90) then 2 else if decide (48 ≤ c) && decide (c ≤ 57) then 3 else if c = 95 then 4 else 0 := by
      simp only [classS, e1, e2, e3, e4, if_false]
    rw [ec]
    unfold isWord isLetter isDigit
    cases (decide (97 ≤ c) && decide (c ≤ 122)) with
    | true => exact .inl ⟨rfl, rfl, rfl⟩
    | false => cases (decide (65 ≤ c) && decide (c ≤ 90)) with
      | true => exact .inl ⟨rfl, rfl, rfl⟩
      | false => cases (decide (48 ≤ c) && decide (c ≤ 57)) with
        | true => exact .inr (.inl ⟨.inl rfl, rfl, rfl⟩)
        | false =>
          by_cases h5 : c = 95
          · rw [if_pos h5]; exact .inr (.inl ⟨.inr rfl, rfl, by simp [h5]⟩)
          · rw [if_neg h5]; exact .inr (.inr ⟨.inl rfl, rfl, by simp [h5]⟩)
theorem class_letter (c : Int) : decide (classS c = 2) = isLetter c := by
  rcases class_cases c with ⟨h, h1, _⟩ | ⟨h, h1, _⟩ | ⟨h, h1, _⟩
  · rw [h, h1]; rfl
  · rw [h1]; exact decide_eq_false (by omega)
  · rw [h1]; exact decide_eq_false (by omega)
theorem class_word (c : Int) : decide (classS c < 2) = !isWord c := by
  rcases class_cases c with ⟨h, _, h1⟩ | ⟨h, _, h1⟩ | ⟨h, _, h1⟩
  · rw [h, h1]; rfl
  · rw [h1]; exact decide_eq_false (by omega)
  · rw [h1]; exact decide_eq_true (by omega)

theorem cmpNaN_ok (s : Str) : FnOK Tryz.prog 250 [Sr s] [] (Bo false) [] := by
  refine fn_ok T Tryz.func250 (by kernel_rfl) rfl rfl rfl rfl fun C hC => ?_
  repeat' first
    | refine g_go T hC true 400 rfl rfl ?_
    | refine g_cond rfl (fun h => ?_) (fun h => ?_)
    | refine g_end T hC (by kernel_rfl) ?_
    | refine g_splitD (fun h => ?_) (fun h => ?_)
    | refine g_splitG rfl rfl rfl (fun h => ?_) (fun h => ?_)
    | refine g_splitP rfl rfl (fun h => ?_) (fun h => ?_)
  exact g_fin ⟨.inl rfl, id, _, rfl, LeS.bq (by simp), trivial, rfl, rfl⟩
theorem slNaN_ok (s : Str) : FnOK Tryz.prog 242 [Sr s] [] (Bo false) [] := by
  refine fn_ok T Tryz.func242 (by kernel_rfl) rfl rfl rfl rfl fun C hC => ?_
  repeat' first
    | refine g_go T hC true 400 rfl rfl ?_
    | refine g_cond rfl (fun h => ?_) (fun h => ?_)
    | refine g_end T hC (by kernel_rfl) ?_
    | refine g_splitD (fun h => ?_) (fun h => ?_)
    | refine g_splitG rfl rfl rfl (fun h => ?_) (fun h => ?_)
    | refine g_splitP rfl rfl (fun h => ?_) (fun h => ?_)
  exact g_fin ⟨.inl rfl, id, _, rfl, LeS.bq (by simp), trivial, rfl, rfl⟩
def lessS (a b : Str) : Bool := Op.bytesLess a.toList b.toList
theorem less_ok (a b : Str) : FnOK Tryz.prog 223 [Sr a, Sr b] [] (.bq (lessS a b)) [] := by
  refine fn_ok T Tryz.func223 (by kernel_rfl) rfl rfl rfl rfl fun C hC => ?_
  repeat' first
    | refine g_go T hC true 400 rfl rfl ?_
    | refine g_cond rfl (fun h => ?_) (fun h => ?_)
    | refine g_end T hC (by kernel_rfl) ?_
    | refine g_splitD (fun h => ?_) (fun h => ?_)
    | refine g_splitG rfl rfl rfl (fun h => ?_) (fun h => ?_)
    | refine g_splitP rfl rfl (fun h => ?_) (fun h => ?_)
    | refine g_call hC (cmpNaN_ok _) rfl rfl (LeSs.refl _) rfl rfl rfl ?_
    | refine g_retq T (.inl rfl) rfl ?_
    | refine g_retl T (.inl rfl) rfl ?_
  all_goals first | rfl | simp_all [lessS]

/-- Sorted, each word less than all that come after it. -/
def Sorted (l : List Str) : Prop := ∀ (h k : Nat) (x y : Str), l[h]? = some x → l[k]? = some y → lessS x y = decide (h < k)
theorem bsearch_ok (l : List Str) (s : Str) (hs : Sorted l) (hl : l.length ≤ 1000) : FnOK Tryz.prog 206 [pS (strsP l), Sr s] [] (.tup [.un, .bq (l.any fun x => decide (x = s))]) [] := by
  refine fn_ok T Tryz.func206 (by kernel_rfl) rfl rfl rfl rfl fun C hC => ?_
  repeat' first
    | refine g_go T hC true 400 rfl rfl ?_
    | refine g_cond rfl (fun h => ?_) (fun h => ?_)
    | refine g_end T hC (by kernel_rfl) ?_
    | refine g_splitD (fun h => ?_) (fun h => ?_)
    | refine g_splitG rfl rfl rfl (fun h => ?_) (fun h => ?_)
    | refine g_splitP rfl rfl (fun h => ?_) (fun h => ?_)
  rw [List.length_map]
  refine g_loop (fun p : Nat × Nat => p.1 ≤ p.2 ∧ p.2 ≤ l.length ∧ ∀ k, l[k]? = some s → p.1 ≤ k ∧ k ≤ p.2) (fun p => ([(0, pS (strsP l)), (1, Sr s), (6, I l.length), (7, I p.1), (8, I p.2)], [])) (fun p => p.2 - p.1) hC
    (0, l.length) ⟨Nat.zero_le _, Nat.le_refl _, fun k hk => ⟨Nat.zero_le _, Nat.le_of_lt (List.getElem?_eq_some_iff.1 hk).1⟩⟩ id ⟨rfl, ⟨rfl, rfl, rfl, rfl, rfl, trivial⟩, trivial, rfl, fun _ _ => rfl⟩ ?_
  rintro ⟨i, j⟩ ⟨hij, hj, hk⟩
  simp only at hij hj hk
  refine g_run' T hC true 200 rfl ?_
  refine g_cond rfl (fun h => ?_) (fun h => ?_)
  · have hlt : i < j := by simpa using h
    repeat' first
      | refine g_go T hC true 400 rfl rfl ?_
      | refine g_cond rfl (fun h => ?_) (fun h => ?_)
      | refine g_end T hC (by kernel_rfl) ?_
      | refine g_splitD (fun h => ?_) (fun h => ?_)
      | refine g_splitG rfl rfl rfl (fun h => ?_) (fun h => ?_)
      | refine g_splitP rfl rfl (fun h => ?_) (fun h => ?_)
      | refine g_shr hC rfl rfl (by decide) (by decide) rfl rfl ?_
    have hm : IntKind.i64.wrap (IntKind.u64.wrap (IntKind.i64.wrap ((i : Int) + (j : Int))) / 2 ^ (1 : Int).toNat) = (((i + j) / 2 : Nat) : Int) := by
      have e1 : IntKind.i64.wrap ((i : Int) + (j : Int)) = (i : Int) + (j : Int) := wrap64 (by omega)
      rw [e1]
      have : IntKind.u64.wrap ((i : Int) + (j : Int)) = ((i + j : Nat) : Int) := by
        unfold IntKind.wrap
        simp [IntKind.bits, IntKind.signed]
        omega
      rw [this]
      rw [show ((i + j : Nat) : Int) / 2 ^ (1 : Int).toNat = (((i + j) / 2 : Nat) : Int) by
        rw [show (2 : Int) ^ (1 : Int).toNat = 2 by decide]; omega]
      exact wrap64 (by omega)
    simp only
    rw [hm]
    obtain ⟨x, hx⟩ := exists_at (l := l) (i := (i + j) / 2) (by omega)
    generalize hme : (i + j) / 2 = m at *
    repeat' first
      | refine g_go T hC true 400 rfl rfl ?_
      | refine g_cond rfl (fun h => ?_) (fun h => ?_)
      | refine g_end T hC (by kernel_rfl) ?_
      | refine g_splitD (fun h => ?_) (fun h => ?_)
      | refine g_splitG rfl rfl rfl (fun h => ?_) (fun h => ?_)
      | refine g_splitP rfl rfl (fun h => ?_) (fun h => ?_)
      | refine g_idx T hC rfl rfl rfl (Int.natCast_nonneg _) (map_at (by assumption)) rfl rfl ?_
      | refine g_call hC (less_ok _ _) rfl rfl (LeSs.refl _) rfl rfl rfl ?_
    · rw [wrapS (by omega)]
      refine g_round (m + 1, j) ⟨by simp only; omega, hj, fun k hk' => ?_⟩ id (by simp only; omega) ⟨rfl, ⟨rfl, rfl, rfl, rfl, rfl, trivial⟩, trivial, rfl, fun _ _ => rfl⟩
      have := hs m k x s hx hk'
      rw [h] at this
      have := of_decide_eq_true this.symm
      have := hk k hk'
      simp only; omega
    · refine g_round (i, m) ⟨by simp only; omega, by simp only; omega, fun k hk' => ?_⟩ id (by simp only; omega) ⟨rfl, ⟨rfl, rfl, rfl, rfl, rfl, trivial⟩, trivial, rfl, fun _ _ => rfl⟩
      have := hs m k x s hx hk'
      rw [h] at this
      have := of_decide_eq_false this.symm
      have := hk k hk'
      simp only; omega
  · have hge : i = j := by have := of_decide_eq_false h; simp only at this; omega
    subst hge
    clear h
    have found : ∀ (b : Bool), (b = true → ∃ x, l[i]? = some x ∧ x = s) → (b = false → ∀ x, l[i]? = some x → x ≠ s) → b = l.any fun x => decide (x = s) := fun b h1 h2 => by
      cases b with
      | true => obtain ⟨x, hx, rfl⟩ := h1 rfl; exact (any_yes hx (decide_eq_true rfl)).symm
      | false =>
        symm
        rw [List.any_eq_false]
        intro x hx
        obtain ⟨k, hk1⟩ := List.mem_iff_getElem?.1 hx
        simp only [decide_eq_true_eq]
        rintro rfl
        have := hk k hk1
        obtain rfl : k = i := by omega
        exact h2 rfl x hk1 rfl
    repeat' first
      | refine g_go T hC true 400 rfl rfl ?_
      | refine g_cond rfl (fun h => ?_) (fun h => ?_)
      | refine g_end T hC (by kernel_rfl) ?_
      | refine g_splitD (fun h => ?_) (fun h => ?_)
      | refine g_splitG rfl rfl rfl (fun h => ?_) (fun h => ?_)
      | refine g_splitP rfl rfl (fun h => ?_) (fun h => ?_)
      | refine g_outE ?_
      | refine g_call hC (slNaN_ok _) rfl rfl (LeSs.refl _) rfl rfl rfl ?_
      | refine g_idx T hC rfl rfl rfl (Int.natCast_nonneg _) (map_at (by assumption)) rfl rfl ?_
      | (obtain ⟨x, hx⟩ := exists_at (l := l) (i := i) (by have := of_decide_eq_true h; simp only at this; omega); refine g_idx T hC rfl rfl rfl (Int.natCast_nonneg _) (map_at hx) rfl rfl ?_)
    · exact g_fin ⟨.inl rfl, id, _, rfl, LeS.tup (.cons (LeS.un _) (.cons (LeS.qb (found true (fun _ => ⟨x, hx, of_decide_eq_true h⟩) (fun e => by cases e))) .nil)), trivial, rfl, rfl⟩
    · exact g_fin ⟨.inl rfl, id, _, rfl, LeS.tup (.cons (LeS.un _) (.cons (LeS.qb (found false (fun e => by cases e) (fun _ y hy => by rw [hx] at hy; simp only [Option.some.injEq] at hy; subst hy; exact of_decide_eq_false h))) .nil)), trivial, rfl, rfl⟩
    · have h' := of_decide_eq_false h
      simp only at h'
      exact g_fin ⟨.inl rfl, id, _, rfl, LeS.tup (.cons (LeS.un _) (.cons (LeS.qb (found false (fun e => by cases e) (fun _ y hy => by have := (List.getElem?_eq_some_iff.1 hy).1; omega))) .nil)), trivial, rfl, rfl⟩

def sortedKw : List Str := [(⟨#[97, 110, 100]⟩ : ByteArray), (⟨#[98, 111, 111, 108]⟩ : ByteArray), (⟨#[98, 111, 117, 110, 100]⟩ : ByteArray), (⟨#[100, 101, 115, 99]⟩ : ByteArray), (⟨#[101, 108, 115, 101]⟩ : ByteArray), (⟨#[102, 97, 108, 115, 101]⟩ : ByteArray), (⟨#[105, 102]⟩ : ByteArray), (⟨#[105, 110, 116]⟩ : ByteArray), (⟨#[105, 110, 118, 97, 114, 105, 97, 110, 116]⟩ : ByteArray), (⟨#[108, 111, 99, 97, 108]⟩ : ByteArray), (⟨#[108, 111, 103]⟩ : ByteArray), (⟨#[109, 97, 120]⟩ : ByteArray), (⟨#[109, 101, 97, 115, 117, 114, 101]⟩ : ByteArray), (⟨#[109, 105, 110]⟩ : ByteArray), (⟨#[110, 101, 119]⟩ : ByteArray), (⟨#[110, 105, 108]⟩ : ByteArray), (⟨#[110, 111, 116]⟩ : ByteArray), (⟨#[111, 112]⟩ : ByteArray), (⟨#[111, 114]⟩ : ByteArray), (⟨#[112, 111, 116, 101, 110, 116, 105, 97, 108]⟩ : ByteArray), (⟨#[112, 114, 111, 99]⟩ : ByteArray), (⟨#[114, 101, 116, 117, 114, 110]⟩ : ByteArray), (⟨#[114, 117, 108, 101]⟩ : ByteArray), (⟨#[115, 99, 114, 105, 112, 116]⟩ : ByteArray), (⟨#[115, 111, 114, 116]⟩ : ByteArray), (⟨#[115, 112, 101, 99]⟩ : ByteArray), (⟨#[116, 104, 105, 115]⟩ : ByteArray), (⟨#[116, 114, 117, 101]⟩ : ByteArray), (⟨#[116, 121, 112, 101]⟩ : ByteArray), (⟨#[118, 97, 114]⟩ : ByteArray), (⟨#[119, 104, 105, 108, 101]⟩ : ByteArray)]
def sortedB (l : List Str) : Bool := (List.range l.length).all fun h => (List.range l.length).all fun k => match l[h]?, l[k]? with
  | some x, some y => lessS x y == decide (h < k)
  | _, _ => true
theorem sorted_of {l : List Str} (h : sortedB l = true) : Sorted l := fun a b x y ha hb => by
  simp only [sortedB, List.all_eq_true, List.mem_range] at h
  have := h a (List.getElem?_eq_some_iff.1 ha).1 b (List.getElem?_eq_some_iff.1 hb).1
  rw [ha, hb] at this
  simpa using this
theorem kwSorted : sortedB sortedKw = true := by kernel_rfl
theorem kwSame (s : Str) : (sortedKw.any fun x => decide (x = s)) = isKeyword s := by
  have h1 : (sortedKw.all fun x => keywords.any fun y => decide (y = x)) = true := by kernel_rfl
  have h2 : (keywords.all fun x => sortedKw.any fun y => decide (y = x)) = true := by kernel_rfl
  rw [Bool.eq_iff_iff]
  simp only [isKeyword, List.any_eq_true, List.all_eq_true, decide_eq_true_eq] at h1 h2 ⊢
  constructor
  · rintro ⟨x, hx, rfl⟩; obtain ⟨y, hy, rfl⟩ := h1 x hx; exact ⟨y, hy, rfl⟩
  · rintro ⟨x, hx, rfl⟩; obtain ⟨y, hy, rfl⟩ := h2 x hx; exact ⟨y, hy, rfl⟩

/-! The keywords, out of one string. -/
def kwText : Str := (⟨#[97, 110, 100, 32, 98, 111, 111, 108, 32, 98, 111, 117, 110, 100, 32, 100, 101, 115, 99, 32, 101, 108, 115, 101, 32, 102, 97, 108, 115, 101, 32, 105, 102, 32, 105, 110, 116, 32, 105, 110, 118, 97, 114, 105, 97, 110, 116, 32, 108, 111, 99, 97, 108, 32, 108, 111, 103, 32, 109, 97, 120, 32, 109, 101, 97, 115, 117, 114, 101, 32, 109, 105, 110, 32, 110, 101, 119, 32, 110, 105, 108, 32, 110, 111, 116, 32, 111, 112, 32, 111, 114, 32, 112, 111, 116, 101, 110, 116, 105, 97, 108, 32, 112, 114, 111, 99, 32, 114, 101, 116, 117, 114, 110, 32, 114, 117, 108, 101, 32, 115, 99, 114, 105, 112, 116, 32, 115, 111, 114, 116, 32, 115, 112, 101, 99, 32, 116, 104, 105, 115, 32, 116, 114, 117, 101, 32, 116, 121, 112, 101, 32, 118, 97, 114, 32, 119, 104, 105, 108, 101]⟩ : ByteArray)
theorem kwFields : (Lib.fields kwText.data.toList).map (fun l => (⟨l.toArray⟩ : ByteArray)) = sortedKw := by kernel_rfl
theorem kwAscii : (kwText.data.toList.all fun b => decide (b.toNat < 128)) = true := by kernel_rfl
theorem fields_call (w : World) (hw : GOn w) : Calls Tryz.prog 243 #[.string kwText] w fun e w' => e = .returned (.slice (some ⟨w.heap.size, 0, none⟩) sortedKw.length sortedKw.length) ∧ w' = w.alloc (.cells (sortedKw.map Value.string).toArray 9) := by
  have h := Any.strings_Fields_core lays157 (by kernel_rfl) kwText w (of_decide_eq_true (by kernel_rfl)) (fun j b hb => by
      have := List.all_eq_true.1 kwAscii b (List.mem_of_getElem? hb)
      exact of_decide_eq_true this) (fun c hc => hw _ _ _ (by
      show G0 1 c = _
      simp [G0, hc]))
  refine h.mono fun e w' ⟨he, hw'⟩ => ?_
  have hl : (Lib.fields kwText.data.toList).length = sortedKw.length := by rw [← kwFields, List.length_map]
  have hc : ((Lib.fields kwText.data.toList).map fun l => Value.string ⟨l.toArray⟩) = sortedKw.map Value.string := by rw [← kwFields, List.map_map]; rfl
  rw [hl] at he
  rw [hc] at hw'
  exact ⟨he, hw'⟩
theorem fields_ok' : FnOK Tryz.prog 243 [Sr kwText] [] (pS (strsP sortedKw)) [] :=
  fn_strs ⟨_, Tryz.func243, by kernel_rfl, by kernel_rfl⟩ (by decide) fields_call
theorem kw_ok : FnOK Tryz.prog 207 [] [] (pS (strsP sortedKw)) [] := by
  refine fn_ok T Tryz.func207 (by kernel_rfl) rfl rfl rfl rfl fun C hC => ?_
  repeat' first
    | refine g_go T hC true 400 rfl rfl ?_
    | refine g_cond rfl (fun h => ?_) (fun h => ?_)
    | refine g_end T hC (by kernel_rfl) ?_
    | refine g_splitD (fun h => ?_) (fun h => ?_)
    | refine g_splitG rfl rfl rfl (fun h => ?_) (fun h => ?_)
    | refine g_splitP rfl rfl (fun h => ?_) (fun h => ?_)
    | refine g_call hC (fields_ok') rfl rfl (LeSs.refl _) rfl rfl rfl ?_
  exact g_fin ⟨.inl rfl, id, _, rfl, .refl _, trivial, rfl, rfl⟩
theorem lexKeyword_ok (s : Str) : FnOK Tryz.prog 162 [Sr s] [] (.bq (isKeyword s)) [] := by
  refine fn_ok T Tryz.func162 (by kernel_rfl) rfl rfl rfl rfl fun C hC => ?_
  repeat' first
    | refine g_go T hC true 400 rfl rfl ?_
    | refine g_cond rfl (fun h => ?_) (fun h => ?_)
    | refine g_end T hC (by kernel_rfl) ?_
    | refine g_splitD (fun h => ?_) (fun h => ?_)
    | refine g_splitG rfl rfl rfl (fun h => ?_) (fun h => ?_)
    | refine g_splitP rfl rfl (fun h => ?_) (fun h => ?_)
    | refine g_call hC (kw_ok) rfl rfl (LeSs.refl _) rfl rfl rfl ?_
    | refine g_call hC (bsearch_ok sortedKw s (sorted_of kwSorted) (by decide)) rfl rfl (LeSs.refl _) rfl rfl rfl ?_
    | refine g_retq T (.inl rfl) rfl ?_
    | refine g_retl T (.inl rfl) rfl ?_
  exact kwSame s
theorem lexName_ok (s : Str) : FnOK Tryz.prog 101 [Sr s] [] (.bq (isName s)) [] := by
  refine fn_ok T Tryz.func101 (by kernel_rfl) rfl rfl rfl rfl fun C hC => ?_
  have hbl := bytes_len s
  have e0 : decide (s = (⟨#[]⟩ : ByteArray)) = decide (s.size = 0) := by
    obtain ⟨⟨l⟩⟩ := s
    cases l with
    | nil => rfl
    | cons a l => exact (decide_eq_false (by intro h; cases h)).trans (decide_eq_false (by simp [ByteArray.size])).symm
  repeat' first
    | refine g_go T hC true 400 rfl rfl ?_
    | refine g_cond rfl (fun h => ?_) (fun h => ?_)
    | refine g_end T hC (by kernel_rfl) ?_
    | refine g_splitD (fun h => ?_) (fun h => ?_)
    | refine g_splitG rfl rfl rfl (fun h => ?_) (fun h => ?_)
    | refine g_splitP rfl rfl (fun h => ?_) (fun h => ?_)
  · repeat' first
      | refine g_go T hC true 400 rfl rfl ?_
      | refine g_cond rfl (fun h => ?_) (fun h => ?_)
      | refine g_end T hC (by kernel_rfl) ?_
      | refine g_splitD (fun h => ?_) (fun h => ?_)
      | refine g_splitG rfl rfl rfl (fun h => ?_) (fun h => ?_)
      | refine g_splitP rfl rfl (fun h => ?_) (fun h => ?_)
      | refine g_retl T (.inl rfl) rfl ?_
    rw [e0] at h
    simp only [isName, h, Bool.not_true, Bool.false_and]
  · repeat' first
      | refine g_go T hC true 400 rfl rfl ?_
      | refine g_cond rfl (fun h => ?_) (fun h => ?_)
      | refine g_end T hC (by kernel_rfl) ?_
      | refine g_splitD (fun h => ?_) (fun h => ?_)
      | refine g_splitG rfl rfl rfl (fun h => ?_) (fun h => ?_)
      | refine g_splitP rfl rfl (fun h => ?_) (fun h => ?_)
      | refine g_retl T (.inl rfl) rfl ?_
    have h1 : 40 < s.size := by have := of_decide_eq_true h; omega
    simp [isName, h1]
  · rename_i h0
    rw [e0] at h0
    have hs : 0 < (bytes s).length := by have := of_decide_eq_false h0; omega
    obtain ⟨c, hc⟩ := exists_at hs
    obtain ⟨b, hb, rfl⟩ := bytes_at hc
    have hlen : s.size ≤ 40 := by have := of_decide_eq_false h; omega
    have hnm : isName s = (isLetter (b.toNat : Int) && ((bytes s).all isWord && !isKeyword s)) := by
      cases hbs : bytes s with
      | nil => rw [hbs] at hs; simp at hs
      | cons c cs =>
        have hc' := hc
        rw [hbs] at hc'; simp only [List.getElem?_cons_zero, Option.some.injEq] at hc'
        have e1 : ¬ s.size = 0 := by rw [hbl] at hs; omega
        have e2 : ¬ 40 < s.size := by omega
        simp only [isName, hbs, hc', e1, e2, decide_false, Bool.not_false, Bool.true_and, Bool.and_assoc]
    clear h h0
    refine g_idxS T hC rfl rfl rfl (Int.le_refl _) hb rfl rfl ?_
    repeat' first
      | refine g_go T hC true 400 rfl rfl ?_
      | refine g_cond rfl (fun h => ?_) (fun h => ?_)
      | refine g_end T hC (by kernel_rfl) ?_
      | refine g_splitD (fun h => ?_) (fun h => ?_)
      | refine g_splitG rfl rfl rfl (fun h => ?_) (fun h => ?_)
      | refine g_splitP rfl rfl (fun h => ?_) (fun h => ?_)
      | refine g_call hC (class_ok _) rfl rfl (LeSs.refl _) rfl rfl rfl ?_
      | refine g_call hC (lexKeyword_ok _) rfl rfl (LeSs.refl _) rfl rfl rfl ?_
      | refine g_retl T (.inl rfl) rfl ?_
    · rw [class_letter] at h
      have hl : isLetter (b.toNat : Int) = false := by simpa using h
      rw [hnm, hl]; rfl
    · rw [hnm, h]; simp
    · rename_i h1
      rw [class_letter] at h1
      have hl : isLetter (b.toNat : Int) = true := by simpa using h1
      have hnm2 : isName s = (bytes s).all isWord := by rw [hnm, hl, h]; simp
      refine g_loop (fun i : Nat => i ≤ s.size ∧ ((bytes s).take i).all isWord = true) (fun i => ([(0, Sr s), (22, I s.size), (23, I i)], [])) (fun i => s.size - i) hC
        0 ⟨Nat.zero_le _, by simp⟩ id ⟨rfl, ⟨rfl, rfl, rfl, trivial⟩, trivial, rfl, fun _ _ => rfl⟩ ?_
      rintro i ⟨hi, hn⟩
      refine g_run' T hC true 200 rfl ?_
      refine g_cond rfl (fun h => ?_) (fun h => ?_)
      · have hlt : i < (bytes s).length := by rw [hbl]; have := of_decide_eq_true h; omega
        obtain ⟨c, hx⟩ := exists_at hlt
        obtain ⟨b, hb, rfl⟩ := bytes_at hx
        repeat' first
          | refine g_go T hC true 400 rfl rfl ?_
          | refine g_cond rfl (fun h => ?_) (fun h => ?_)
          | refine g_end T hC (by kernel_rfl) ?_
          | refine g_splitD (fun h => ?_) (fun h => ?_)
          | refine g_splitG rfl rfl rfl (fun h => ?_) (fun h => ?_)
          | refine g_splitP rfl rfl (fun h => ?_) (fun h => ?_)
          | refine g_idxS T hC rfl rfl rfl (Int.natCast_nonneg _) (by assumption) rfl rfl ?_
          | refine g_call hC (class_ok _) rfl rfl (LeSs.refl _) rfl rfl rfl ?_
          | refine g_outR ?_
          | refine g_retl T (.inl rfl) rfl ?_
        · rw [class_word] at h
          have hw : isWord (b.toNat : Int) = false := by simpa using h
          rw [hnm2, all_no hx hw]
        · rw [class_word] at h
          have hw : isWord (b.toNat : Int) = true := by simpa using h
          rw [wrapS (by omega)]
          refine g_round (i + 1) ⟨by omega, ?_⟩ id (by omega) ⟨rfl, ⟨rfl, rfl, rfl, trivial⟩, trivial, rfl, fun _ _ => rfl⟩
          rw [all_take hx, hn, hw]; rfl
      · have hge : s.size ≤ i := by have := of_decide_eq_false h; omega
        repeat' first
          | refine g_go T hC true 400 rfl rfl ?_
          | refine g_cond rfl (fun h => ?_) (fun h => ?_)
          | refine g_end T hC (by kernel_rfl) ?_
          | refine g_splitD (fun h => ?_) (fun h => ?_)
          | refine g_splitG rfl rfl rfl (fun h => ?_) (fun h => ?_)
          | refine g_splitP rfl rfl (fun h => ?_) (fun h => ?_)
          | refine g_outE ?_
          | refine g_retl T (.inl rfl) rfl ?_
        rw [hnm2, all_end (by rw [hbl]; exact hge) hn]
end Hw.Z
