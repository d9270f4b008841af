/- The engine and the contracts. -/
import Derived.Test.YtmnhegkogibipaaGreatDoorC13
set_option linter.unusedVariables false
set_option linter.unusedSimpArgs false
namespace Hw.Z
open Go Go.Proofs Hw.M

/-! moved: the walk -/
theorem mvS_take {place : List Int} {l : List Fld} {v : List Int} {i : Nat} {x : Fld × Int} (hx : (l.zip v)[i]? = some x) : ((mvS place l v).take (i + 1)).map intR = ((mvS place l v).take i).map intR ++ [intR (mvV place x)] := by
  have : (mvS place l v)[i]? = some (mvV place x) := by simp only [mvS, List.getElem?_map, hx, Option.map_some]
  rw [take_snoc' this, List.map_append]; rfl
theorem moved1_ok {m : Hp} {place : List Int} (hpl : place.length = m.n.length) (hsm : m.n.length ≤ 4096) (hpv : ∀ x ∈ place, 0 ≤ x ∧ x ≤ 5000) (l : List Fld) (v : List Int) (hlv : l.length = v.length) (hv : v.length ≤ 1000000) (hr : ∀ p ∈ l.zip v, RefOK m p) :
    FnOK Tryz.prog 79 [pS (fieldsP l), pS (intsP v), .one (.bx 0 0)] [(0, .box [.p (intsP place)])] (pS (intsP (mvS place l v))) [(0, .box [.p (intsP place)])] := by
  have hrl : (mvS place l v).length = v.length := mvS_len hlv
  refine fn_ok T Tryz.func79 (by kernel_rfl) rfl rfl rfl rfl fun C hC => ?_
  repeat' first
    | refine g_go T hC true 400 rfl rfl ?_
    | refine g_cond rfl (fun h => ?_) (fun h => ?_)
    | refine g_end T hC (by kernel_rfl) ?_
    | refine g_splitD (fun h => ?_) (fun h => ?_)
    | refine g_splitG rfl rfl rfl (fun h => ?_) (fun h => ?_)
    | refine g_splitP rfl rfl (fun h => ?_) (fun h => ?_)
  rw [List.length_map]
  refine g_adopt hC rfl 101 1 rfl [(6, .one (.ar 101))] ⟨⟨_, rfl, AdS.nil⟩, trivial⟩ [] trivial ?_
  refine g_loop (fun i : Nat => i ≤ v.length) (fun i => ([(0, pS (fieldsP l)), (2, .one (.bx 0 0)), (6, .one (.ar 101)), (10, pS (intsP v)), (11, I v.length), (12, I i)], [(0, some (Res.box [.p (intsP place)])), (101, some (Res.arr 1 (((mvS place l v).take i).map intR)))])) (fun i => v.length - i) hC
    0 (Nat.zero_le _) id ⟨rfl, ⟨rfl, rfl, rfl, rfl, rfl, rfl, trivial⟩, ⟨rfl, rfl, trivial⟩, rfl, fun _ _ => rfl⟩ ?_
  intro i hi
  refine g_run' T hC true 200 rfl ?_
  refine g_cond rfl (fun h => ?_) (fun h => ?_)
  rotate_left
  · have hge : ¬ i < v.length := by simpa using h
    rw [List.take_of_length_le (by omega)]
    repeat' first
      | refine g_go T hC true 400 rfl rfl ?_
      | refine g_cond rfl (fun h => ?_) (fun h => ?_)
      | refine g_end T hC (by kernel_rfl) ?_
      | refine g_splitD (fun h => ?_) (fun h => ?_)
      | refine g_splitG rfl rfl rfl (fun h => ?_) (fun h => ?_)
      | refine g_splitP rfl rfl (fun h => ?_) (fun h => ?_)
      | refine g_outE ?_
    refine g_freeze rfl (id := 101) (e := 1) (rows := (mvS place l v).map intR) rfl [(5, pS (intsP (mvS place l v)))] ⟨⟨_, rfl, FrS.ar⟩, trivial⟩ [] trivial ?_
    exact g_fin ⟨.inl rfl, id, _, rfl, .refl _, ⟨rfl, trivial⟩, rfl, rfl⟩
  have hlt : i < v.length := by simpa using h
  clear h
  obtain ⟨x, hx⟩ := exists_at (l := l.zip v) (i := i) (by rw [List.length_zip]; omega)
  obtain ⟨hx1, hx2⟩ := zip_at hx
  have hrx := hr x (List.mem_of_getElem? hx)
  have hal : (((mvS place l v).take i).map intR).length = i := by simp only [List.length_map, List.length_take]; omega
  by_cases hir : isRef x = true
  · have hv := hrx hir
    obtain ⟨y, hy⟩ := exists_at (l := place) (i := (x.2 - 1).toNat) (by omega)
    have hyr := hpv y (List.mem_of_getElem? hy)
    have w1 : IntKind.i64.wrap (x.2 - 1) = x.2 - 1 := wrap64 (by omega)
    have w2 : IntKind.i64.wrap (y + 1) = y + 1 := wrap64 (by omega)
    have e1 : mvV place x = y + 1 := by simp only [mvV, hir, if_true, hy, Option.getD_some]
    have happ := (mvS_take (place := place) hx).symm
    rw [e1] at happ
    simp only [isRef, isPlain, Bool.and_eq_true, Bool.not_eq_true', Bool.or_eq_false_iff, decide_eq_false_iff_not] at hir
    repeat' first
      | refine g_go T hC true 400 rfl rfl ?_
      | refine g_cond rfl (fun h => ?_) (fun h => ?_)
      | refine g_end T hC (by kernel_rfl) ?_
      | refine g_splitD (fun h => ?_) (fun h => ?_)
      | refine g_splitG rfl rfl rfl (fun h => ?_) (fun h => ?_)
      | refine g_splitP rfl rfl (fun h => ?_) (fun h => ?_)
      | refine g_idx T hC rfl rfl rfl (Int.natCast_nonneg _) (map_at (by assumption)) rfl rfl ?_
      | refine g_lit T hC rfl rfl rfl rfl rfl rfl rfl rfl rfl ?_
      | (rw [w1]; refine g_idx T hC rfl rfl rfl (by omega) (map_atI hy) rfl rfl ?_)
    all_goals first
      | (exfalso; clear happ hr hrl hal hrx hx hx1 hx2 hy hpv; simp_all; done)
      | skip
    rw [w2]
    refine g_append T 102 hC (rows := ((mvS place l v).take i).map intR) (rows2 := [intR (y + 1)]) (rows3 := ((mvS place l v).take (i + 1)).map intR) (bytes := 8) rfl rfl rfl rfl (SrcS.sl (T.es_ok _ _ rfl)) happ rfl rfl rfl (by kernel_rfl) (by rw [hal, List.length_singleton]; omega) (by rw [hal, List.length_singleton]; omega) rfl rfl rfl ?_
    repeat' first
      | refine g_go T hC true 400 rfl rfl ?_
      | refine g_cond rfl (fun h => ?_) (fun h => ?_)
      | refine g_end T hC (by kernel_rfl) ?_
      | refine g_splitD (fun h => ?_) (fun h => ?_)
      | refine g_splitG rfl rfl rfl (fun h => ?_) (fun h => ?_)
      | refine g_splitP rfl rfl (fun h => ?_) (fun h => ?_)
    rw [wrapS (by omega)]
    exact g_round (i + 1) (by omega) (mv 101 102) (by omega) ⟨rfl, ⟨rfl, rfl, rfl, rfl, rfl, rfl, trivial⟩, ⟨rfl, rfl, trivial⟩, rfl, fun i hi => mv_low (by omega) hi⟩
  · have e1 : mvV place x = x.2 := by simp only [mvV, if_neg hir]
    have happ := (mvS_take (place := place) hx).symm
    rw [e1] at happ
    simp only [isRef, isPlain, Bool.and_eq_true, Bool.not_eq_true', Bool.or_eq_false_iff, decide_eq_false_iff_not] at hir
    repeat' first
      | refine g_go T hC true 400 rfl rfl ?_
      | refine g_cond rfl (fun h => ?_) (fun h => ?_)
      | refine g_end T hC (by kernel_rfl) ?_
      | refine g_splitD (fun h => ?_) (fun h => ?_)
      | refine g_splitG rfl rfl rfl (fun h => ?_) (fun h => ?_)
      | refine g_splitP rfl rfl (fun h => ?_) (fun h => ?_)
      | refine g_idx T hC rfl rfl rfl (Int.natCast_nonneg _) (map_at (by assumption)) rfl rfl ?_
      | refine g_lit T hC rfl rfl rfl rfl rfl rfl rfl rfl rfl ?_
    all_goals first
      | (exfalso; clear happ hr hrl hal hrx hx hx1 hx2 hpv; simp_all; done)
      | skip
    all_goals
      refine g_append T 102 hC (rows := ((mvS place l v).take i).map intR) (rows2 := [intR x.2]) (rows3 := ((mvS place l v).take (i + 1)).map intR) (bytes := 8) rfl rfl rfl rfl (SrcS.sl (T.es_ok _ _ rfl)) happ rfl rfl rfl (by kernel_rfl) (by rw [hal, List.length_singleton]; omega) (by rw [hal, List.length_singleton]; omega) rfl rfl rfl ?_
      repeat' first
        | refine g_go T hC true 400 rfl rfl ?_
        | refine g_cond rfl (fun h => ?_) (fun h => ?_)
        | refine g_end T hC (by kernel_rfl) ?_
        | refine g_splitD (fun h => ?_) (fun h => ?_)
        | refine g_splitG rfl rfl rfl (fun h => ?_) (fun h => ?_)
        | refine g_splitP rfl rfl (fun h => ?_) (fun h => ?_)
      rw [wrapS (by omega)]
      exact g_round (i + 1) (by omega) (mv 101 102) (by omega) ⟨rfl, ⟨rfl, rfl, rfl, rfl, rfl, rfl, trivial⟩, ⟨rfl, rfl, trivial⟩, rfl, fun i hi => mv_low (by omega) hi⟩
end Hw.Z
namespace Hw.Z
open Go Go.Proofs Hw.M

theorem ordAt {ord : List UInt8} {i : Nat} {c : UInt8} (h : ord[i]? = some c) : (ord.map u8R)[((i : Nat) : Int).toNat]? = some (u8R c) := map_at h
theorem plS_val (l : List Int) (n : Nat) : ∀ k, ∀ x ∈ plS l n k, 0 ≤ x ∧ x ≤ (k : Int)
  | 0, x, h => by rw [List.eq_of_mem_replicate h]; omega
  | k + 1, x, h => by
    have ih := plS_val l n k
    simp only [plS] at h
    split at h
    · rcases List.mem_or_eq_of_mem_set h with h | rfl
      · have := ih x h; omega
      · omega
    · have := ih x h; omega
set_option maxHeartbeats 4000000 in
theorem moved_ok {d : Desc} {m : Hp} (hval : validM d m = true) (hn60 : m.n.length ≤ 60) (ord : List UInt8) : FnOK Tryz.prog 38 [aggS (descR d), aggS (memR m), pS (.sl 1 (ord.map u8R))] [] (aggS (memR (movedM d m ord))) [] := by
  have hw := wg_of hval
  have hz := sizes_of hval
  have hnm : (m.n.map nodeR).length = m.n.length := List.length_map _
  refine fn_ok T Tryz.func38 (by kernel_rfl) rfl rfl rfl rfl fun C hC => ?_
  refine g_len 2 rfl fun hol => ?_
  rw [List.length_map] at hol
  repeat' first
    | refine g_go T hC true 400 rfl rfl ?_
    | refine g_cond rfl (fun h => ?_) (fun h => ?_)
    | refine g_end T hC (by kernel_rfl) ?_
    | refine g_splitD (fun h => ?_) (fun h => ?_)
    | refine g_splitG rfl rfl rfl (fun h => ?_) (fun h => ?_)
    | refine g_splitP rfl rfl (fun h => ?_) (fun h => ?_)
  rw [List.length_map]
  refine g_adopt hC rfl 101 1 rfl [(8, .one (.ar 101))] ⟨⟨_, rfl, AdS.nil⟩, trivial⟩ [] trivial ?_
  refine g_loop (fun i : Nat => i ≤ m.n.length) (fun i => ([(2, pS (.sl 1 (ord.map u8R))), (3, .one (.bx 1003 0)), (4, .one (.bx 1004 0)), (6, .one (.bx 1006 0)), (7, I m.n.length), (8, .one (.ar 101)), (22, I m.n.length), (23, I i)],
      [(1003, some (Res.box ((descR d).map V.p))), (1004, some (Res.box ((memR m).map V.p))), (1006, some (Res.box [.p (.k (.slice none 0 0)), .p (.k (.slice none 0 0))])), (101, some (Res.arr 1 ((insL ord i).map intR)))])) (fun i => m.n.length - i) hC
    0 (Nat.zero_le _) id ⟨rfl, ⟨rfl, rfl, rfl, rfl, rfl, rfl, rfl, rfl, trivial⟩, ⟨rfl, rfl, rfl, rfl, trivial⟩, rfl, fun _ _ => rfl⟩ ?_
  intro i hi
  refine g_run' T hC true 200 rfl ?_
  refine g_cond rfl (fun h => ?_) (fun h => ?_)
  · have hlt : i < m.n.length := by simpa using h
    clear h
    have hil : ((insL ord i).map intR).length = i := by rw [List.length_map, insL_len]
    have hI := insert_ok (insL ord i) (atN ord i) i (by rw [insL_len]; exact atN_le ord i) (by rw [insL_len]; omega)
    have hnx : insI (insL ord i) (atN ord i) i = insL ord (i + 1) := rfl
    rw [hnx] at hI
    cases hc : ord[i]? with
    | none =>
      have hat : atN ord i = i := by simp only [atN, hc]
      have hge : ord.length ≤ i := List.getElem?_eq_none_iff.1 hc
      rw [hat] at hI
      repeat' first
        | refine g_go T hC true 400 rfl rfl ?_
        | refine g_cond rfl (fun h => ?_) (fun h => ?_)
        | refine g_end T hC (by kernel_rfl) ?_
        | refine g_splitD (fun h => ?_) (fun h => ?_)
        | refine g_splitG rfl rfl rfl (fun h => ?_) (fun h => ?_)
        | refine g_splitP rfl rfl (fun h => ?_) (fun h => ?_)
      all_goals first
        | (exfalso; simp only [List.length_map, decide_eq_true_eq] at h; omega)
        | skip
      rw [hil]
      repeat' first
        | refine g_go T hC true 400 rfl rfl ?_
        | refine g_cond rfl (fun h => ?_) (fun h => ?_)
        | refine g_end T hC (by kernel_rfl) ?_
        | refine g_splitD (fun h => ?_) (fun h => ?_)
        | refine g_splitG rfl rfl rfl (fun h => ?_) (fun h => ?_)
        | refine g_splitP rfl rfl (fun h => ?_) (fun h => ?_)
        | refine g_litB T hC rfl rfl rfl rfl rfl rfl rfl rfl rfl rfl rfl ?_
        | refine g_callR hC (hI) (nm [101, 1044, 102]) rfl rfl (LeSs.refl _) rfl rfl rfl rfl rfl rfl rfl rfl ?_
      rw [wrap64 (by omega)]
      exact g_round (i + 1) (by omega) (mv 101 102) (by omega) ⟨rfl, ⟨rfl, rfl, rfl, rfl, rfl, rfl, rfl, rfl, trivial⟩, ⟨rfl, rfl, rfl, rfl, trivial⟩, rfl, fun i hi => mv_low (by omega) hi⟩
    | some c =>
      have hat : atN ord i = c.toNat % (i + 1) := by simp only [atN, hc]
      have hcl : c.toNat < 256 := c.toNat_lt
      have hlo : i < ord.length := (List.getElem?_eq_some_iff.1 hc).1
      have w1 : IntKind.i64.wrap (c.toNat : Int) = c.toNat := wrap64 (by omega)
      have w2 : IntKind.i64.wrap ((((insL ord i).map intR).length : Int) + 1) = (i : Int) + 1 := by rw [hil, wrap64 (by omega)]
      have hat' : (IntKind.i64.wrap (c.toNat : Int)).tmod (IntKind.i64.wrap ((((insL ord i).map intR).length : Int) + 1)) = (atN ord i : Int) := by
        rw [w1, w2, hat]; rfl
      repeat' first
        | refine g_go T hC true 400 rfl rfl ?_
        | refine g_cond rfl (fun h => ?_) (fun h => ?_)
        | refine g_end T hC (by kernel_rfl) ?_
        | refine g_splitD (fun h => ?_) (fun h => ?_)
        | refine g_splitG rfl rfl rfl (fun h => ?_) (fun h => ?_)
        | refine g_splitP rfl rfl (fun h => ?_) (fun h => ?_)
        | refine g_idx T hC rfl rfl rfl (Int.natCast_nonneg _) (ordAt hc) rfl rfl ?_
        | (refine g_rem hC rfl rfl (by rw [w2]; omega) rfl rfl ?_; refine g_say 40 rfl (s' := I (atN ord i)) (by rw [hat']) ?_)
        | refine g_litB T hC rfl rfl rfl rfl rfl rfl rfl rfl rfl rfl rfl ?_
        | refine g_callR hC (hI) (nm [101, 1044, 102]) rfl rfl (LeSs.refl _) rfl rfl rfl rfl rfl rfl rfl rfl ?_
      all_goals first
        | (exfalso; simp only [List.length_map, decide_eq_false_iff_not] at h; omega)
        | skip
      rw [wrap64 (by omega)]
      exact g_round (i + 1) (by omega) (mv 101 102) (by omega) ⟨rfl, ⟨rfl, rfl, rfl, rfl, rfl, rfl, rfl, rfl, trivial⟩, ⟨rfl, rfl, rfl, rfl, trivial⟩, rfl, fun i hi => mv_low (by omega) hi⟩
  have hge : ¬ i < m.n.length := by simpa using h
  obtain rfl : i = m.n.length := by omega
  clear h hge hi
  have hil := insL_len ord m.n.length
  have hmem := insL_mem ord m.n.length
  have hnd := insL_nodup ord m.n.length
  generalize hL : insL ord m.n.length = l at *
  have hlm : (l.map intR).length = l.length := List.length_map _
  refine g_freeze rfl (id := 101) (e := 1) (rows := l.map intR) rfl [(8, pS (intsP l))] ⟨⟨_, rfl, FrS.ar⟩, trivial⟩ [] trivial ?_
  repeat' first
    | refine g_go T hC true 400 rfl rfl ?_
    | refine g_cond rfl (fun h => ?_) (fun h => ?_)
    | refine g_end T hC (by kernel_rfl) ?_
    | refine g_splitD (fun h => ?_) (fun h => ?_)
    | refine g_splitG rfl rfl rfl (fun h => ?_) (fun h => ?_)
    | refine g_splitP rfl rfl (fun h => ?_) (fun h => ?_)
    | refine g_outE ?_
    | (refine g_mk T hC (bytes := 8) m.n.length rfl rfl rfl rfl rfl rfl (by kernel_rfl) rfl (by omega) rfl rfl rfl ?_)
  have hpl : placeOf m ord = plS l m.n.length m.n.length := by rw [placeOf, hL]
  refine g_loop (fun k : Nat => k ≤ l.length) (fun k => ([(3, .one (.bx 1003 0)), (4, .one (.bx 1004 0)), (6, .one (.bx 1006 0)), (8, pS (intsP l)), (11, .one (.bx 1011 0)), (49, pS (intsP l)), (50, I l.length), (51, I k)],
      [(1003, some (Res.box ((descR d).map V.p))), (1004, some (Res.box ((memR m).map V.p))), (1006, some (Res.box [.p (.k (.slice none 0 0)), .p (.k (.slice none 0 0))])), (1011, some (Res.box [.ar 1048])), (1048, some (Res.arr 1 ((plS l m.n.length k).map intR)))])) (fun k => l.length - k) hC
    0 (Nat.zero_le _) id ⟨rfl, ⟨rfl, rfl, rfl, rfl, rfl, rfl, by rw [← hlm]; rfl, rfl, trivial⟩, ⟨rfl, rfl, rfl, rfl, congrArg (fun r => some (Res.arr 1 r)) (newRow _), trivial⟩, rfl, fun _ _ => rfl⟩ ?_
  intro k hk
  refine g_run' T hC true 200 rfl ?_
  refine g_cond rfl (fun h => ?_) (fun h => ?_)
  · have hlt : k < l.length := by simpa using h
    clear h
    obtain ⟨v, hv⟩ := exists_at hlt
    have hvr := (hmem v).1 (List.mem_of_getElem? hv)
    have hplen := plS_len l m.n.length k
    obtain ⟨y, hy⟩ := exists_at (l := plS l m.n.length k) (i := v.toNat) (by omega)
    have hset : ((plS l m.n.length k).map intR).set v.toNat (setAt (intR y) 0 [ki k]) = (plS l m.n.length (k + 1)).map intR := by
      rw [set_mapI]; simp only [plS, hv]
    repeat' first
      | refine g_go T hC true 400 rfl rfl ?_
      | refine g_cond rfl (fun h => ?_) (fun h => ?_)
      | refine g_end T hC (by kernel_rfl) ?_
      | refine g_splitD (fun h => ?_) (fun h => ?_)
      | refine g_splitG rfl rfl rfl (fun h => ?_) (fun h => ?_)
      | refine g_splitP rfl rfl (fun h => ?_) (fun h => ?_)
      | refine g_idx T hC rfl rfl rfl (Int.natCast_nonneg _) (map_at (by assumption)) rfl rfl ?_
      | (refine g_idxA T hC (rows := (plS l m.n.length k).map intR) rfl rfl rfl rfl hvr.1 (by rw [List.length_map]; omega) rfl rfl ?_)
      | (refine g_storeE T hC v.toNat 0 (rows := (plS l m.n.length k).map intR) (row := intR y) (us := [ki k]) (rows' := (plS l m.n.length (k + 1)).map intR) rfl rfl rfl rfl rfl rfl (by simp) (intsAt hy) (Nat.le_refl 1) hset rfl ?_)
    rw [wrap64 (by omega)]
    exact g_round (k + 1) (by omega) id (by omega) ⟨rfl, ⟨rfl, rfl, rfl, rfl, rfl, rfl, rfl, rfl, trivial⟩, ⟨rfl, rfl, rfl, rfl, rfl, trivial⟩, rfl, fun _ _ => rfl⟩
  have hge : ¬ k < l.length := by simpa using h
  obtain rfl : k = l.length := by omega
  clear h hge hk
  rw [hil, ← hpl]
  have hplen : (placeOf m ord).length = m.n.length := by rw [hpl]; exact plS_len _ _ _
  have hpv : ∀ x ∈ placeOf m ord, 0 ≤ x ∧ x ≤ 5000 := fun x hx => by
    rw [hpl] at hx
    have := plS_val _ _ _ x hx; omega
  have hmv : movedM d m ord = ⟨mvS (placeOf m ord) d.globals m.g, l.map (mvN d m (placeOf m ord)) ++ (if d.types = [] then [] else [⟨0, List.replicate (fieldsAt d 0).length 0⟩])⟩ := by rw [movedM, hL]
  rw [hmv]
  generalize placeOf m ord = pl at *
  have hV := fun l v h1 h2 h3 => moved1_ok hplen (by omega) hpv l v h1 h2 h3
  refine g_freeze rfl (id := 1048) (e := 1) (rows := pl.map intR) rfl [] trivial [(1011, [.p (intsP pl)])] ⟨⟨_, rfl, by decide, .cons .ar .nil⟩, trivial⟩ ?_
  repeat' first
    | refine g_go T hC true 400 rfl rfl ?_
    | refine g_cond rfl (fun h => ?_) (fun h => ?_)
    | refine g_end T hC (by kernel_rfl) ?_
    | refine g_splitD (fun h => ?_) (fun h => ?_)
    | refine g_splitG rfl rfl rfl (fun h => ?_) (fun h => ?_)
    | refine g_splitP rfl rfl (fun h => ?_) (fun h => ?_)
    | refine g_outE ?_
    | refine g_callR hC (hV d.globals m.g hw.glen hz.1 hw.gref) (nm [1011]) rfl rfl (LeSs.refl _) rfl rfl rfl rfl rfl rfl rfl rfl ?_
  refine g_adopt hC rfl 142 2 rfl [] trivial [(1015, [.p (intsP (mvS pl d.globals m.g)), .ar 142])] ⟨⟨_, rfl, by decide, .cons (.refl _) (.cons .nil .nil)⟩, trivial⟩ ?_
  refine g_loop (fun k : Nat => k ≤ l.length) (fun k => ([(3, .one (.bx 1003 0)), (4, .one (.bx 1004 0)), (6, .one (.bx 1006 0)), (14, .one (.cl 79 [] [.bx 1011 0])), (15, .one (.bx 1015 0)), (69, pS (intsP l)), (70, I l.length), (71, I k)],
      [(1003, some (Res.box ((descR d).map V.p))), (1004, some (Res.box ((memR m).map V.p))), (1006, some (Res.box [.p (.k (.slice none 0 0)), .p (.k (.slice none 0 0))])), (1011, some (Res.box [.p (intsP pl)])), (1015, some (Res.box [.p (intsP (mvS pl d.globals m.g)), .ar 142])), (142, some (Res.arr 2 (((l.take k).map (mvN d m pl)).map nodeR)))])) (fun k => l.length - k) hC
    0 (Nat.zero_le _) id ⟨rfl, ⟨rfl, rfl, rfl, rfl, rfl, rfl, by rw [← hlm]; rfl, rfl, trivial⟩, ⟨rfl, rfl, rfl, rfl, rfl, rfl, trivial⟩, rfl, fun _ _ => rfl⟩ ?_
  intro k hk
  refine g_run' T hC true 200 rfl ?_
  refine g_cond rfl (fun h => ?_) (fun h => ?_)
  · have hlt : k < l.length := by simpa using h
    clear h
    obtain ⟨v, hv⟩ := exists_at hlt
    have hvr := (hmem v).1 (List.mem_of_getElem? hv)
    obtain ⟨x, hx⟩ := exists_at (l := m.n) (i := v.toNat) (by omega)
    have hxm := List.mem_of_getElem? hx
    obtain ⟨ht, ty, hty, hlen, hrefs⟩ := hw.node x hxm
    have hnv : mvN d m pl v = ⟨x.t, mvS pl ty.f x.f⟩ := by simp only [mvN, hx, fieldsAt, hty, Option.map_some, Option.getD_some]
    have hal : (((l.take k).map (mvN d m pl)).map nodeR).length = k := by simp only [List.length_map, List.length_take]; omega
    have hr3 : ((l.take k).map (mvN d m pl)).map nodeR ++ [nodeR ⟨x.t, mvS pl ty.f x.f⟩] = ((l.take (k + 1)).map (mvN d m pl)).map nodeR := by
      rw [take_snoc' hv, List.map_append, List.map_append, List.map_singleton, List.map_singleton, hnv]
    have hV1 := hV ty.f x.f hlen (hz.2 x hxm) hrefs
    repeat' first
      | refine g_go T hC true 400 rfl rfl ?_
      | refine g_cond rfl (fun h => ?_) (fun h => ?_)
      | refine g_end T hC (by kernel_rfl) ?_
      | refine g_splitD (fun h => ?_) (fun h => ?_)
      | refine g_splitG rfl rfl rfl (fun h => ?_) (fun h => ?_)
      | refine g_splitP rfl rfl (fun h => ?_) (fun h => ?_)
      | refine g_idx T hC rfl rfl rfl (Int.natCast_nonneg _) (map_at (by assumption)) rfl rfl ?_
      | (refine g_idx T hC rfl rfl rfl hvr.1 (map_atI hx) rfl rfl ?_)
      | refine g_idx T hC rfl rfl rfl ht (map_atI hty) rfl rfl ?_
      | refine g_callR hC (hV1) (nm [1011]) rfl rfl (LeSs.refl _) rfl rfl rfl rfl rfl rfl rfl rfl ?_
      | refine g_lit T hC rfl rfl rfl rfl rfl rfl rfl rfl rfl ?_
      | (refine g_append T 143 hC (rows := ((l.take k).map (mvN d m pl)).map nodeR) (rows2 := [nodeR ⟨x.t, mvS pl ty.f x.f⟩]) (rows3 := ((l.take (k + 1)).map (mvN d m pl)).map nodeR) (bytes := 32) rfl rfl rfl rfl (SrcS.sl (T.es_ok _ _ rfl)) hr3 rfl rfl rfl (by kernel_rfl) (by rw [hal, List.length_singleton]; omega) (by rw [hal, List.length_singleton]; omega) rfl rfl rfl ?_)
    rw [wrap64 (by omega)]
    exact g_round (k + 1) (by omega) (mv 142 143) (by omega) ⟨rfl, ⟨rfl, rfl, rfl, rfl, rfl, rfl, rfl, rfl, trivial⟩, ⟨rfl, rfl, rfl, rfl, rfl, rfl, trivial⟩, rfl, fun i hi => mv_low (by omega) hi⟩
  have hge : ¬ k < l.length := by simpa using h
  rw [List.take_of_length_le (by omega)]
  clear h hge
  by_cases hd0 : d.types = []
  · rw [if_pos hd0, List.append_nil]
    repeat' first
      | refine g_go T hC true 400 rfl rfl ?_
      | refine g_cond rfl (fun h => ?_) (fun h => ?_)
      | refine g_end T hC (by kernel_rfl) ?_
      | refine g_splitD (fun h => ?_) (fun h => ?_)
      | refine g_splitG rfl rfl rfl (fun h => ?_) (fun h => ?_)
      | refine g_splitP rfl rfl (fun h => ?_) (fun h => ?_)
      | refine g_outE ?_
    all_goals first
      | (exfalso; rw [hd0] at h; simp at h; done)
      | skip
    refine g_freeze rfl (id := 142) (e := 2) (rows := (l.map (mvN d m pl)).map nodeR) rfl [] trivial [(1006, [.p (intsP (mvS pl d.globals m.g)), .p (nodesP (l.map (mvN d m pl)))])] ⟨⟨_, rfl, by decide, .cons (.refl _) (.cons .ar .nil)⟩, trivial⟩ ?_
    exact g_fin ⟨.inl rfl, id, _, rfl, .refl _, trivial, rfl, rfl⟩
  · rw [if_neg hd0]
    obtain ⟨ty, hty⟩ := exists_at (l := d.types) (i := 0) (by cases hd : d.types with
      | nil => exact absurd hd hd0
      | cons _ _ => simp)
    have hf0 : fieldsAt d 0 = ty.f := by simp only [fieldsAt, Int.toNat_zero, hty, Option.map_some, Option.getD_some]
    rw [hf0]
    have htl := types_le hval ty (List.mem_of_getElem? hty)
    have hal : ((l.map (mvN d m pl)).map nodeR).length = l.length := by simp only [List.length_map]
    have hr3 : (l.map (mvN d m pl)).map nodeR ++ [nodeR ⟨0, List.replicate ty.f.length 0⟩] = (l.map (mvN d m pl) ++ [(⟨0, List.replicate ty.f.length 0⟩ : Nd)]).map nodeR := by rw [List.map_append]; rfl
    have hl0 : 0 < d.types.length := (List.getElem?_eq_some_iff.1 hty).1
    repeat' first
      | refine g_go T hC true 400 rfl rfl ?_
      | refine g_cond rfl (fun h => ?_) (fun h => ?_)
      | refine g_end T hC (by kernel_rfl) ?_
      | refine g_splitD (fun h => ?_) (fun h => ?_)
      | refine g_splitG rfl rfl rfl (fun h => ?_) (fun h => ?_)
      | refine g_splitP rfl rfl (fun h => ?_) (fun h => ?_)
      | refine g_outE ?_
      | refine g_idx T hC rfl rfl rfl (Int.le_refl _) (map_at0 hty) rfl rfl ?_
      | (refine g_zeros T hC (bytes := 8) (ty.f.map fieldR).length rfl rfl rfl rfl rfl rfl (by kernel_rfl) rfl (by rw [List.length_map]; exact htl) rfl rfl ?_; refine g_say 112 rfl (s' := pS (intsP (List.replicate ty.f.length 0))) (congrArg (fun r => S.one (.p (.sl 1 r))) (rep_zero ty.f)) ?_)
      | refine g_lit T hC rfl rfl rfl rfl rfl rfl rfl rfl rfl ?_
      | (refine g_append T 143 hC (rows := (l.map (mvN d m pl)).map nodeR) (rows2 := [nodeR ⟨0, List.replicate ty.f.length 0⟩]) (rows3 := (l.map (mvN d m pl) ++ [(⟨0, List.replicate ty.f.length 0⟩ : Nd)]).map nodeR) (bytes := 32) rfl rfl rfl rfl (SrcS.sl (T.es_ok _ _ rfl)) hr3 rfl rfl rfl (by kernel_rfl) (by rw [hal, List.length_singleton]; omega) (by rw [hal, List.length_singleton]; omega) rfl rfl rfl ?_)
    all_goals first
      | (exfalso; simp only [List.length_map, decide_eq_false_iff_not] at h; omega)
      | skip
    refine g_freeze rfl (id := 143) (e := 2) (rows := (l.map (mvN d m pl) ++ [(⟨0, List.replicate ty.f.length 0⟩ : Nd)]).map nodeR) rfl [] trivial [(1006, [.p (intsP (mvS pl d.globals m.g)), .p (nodesP (l.map (mvN d m pl) ++ [(⟨0, List.replicate ty.f.length 0⟩ : Nd)]))])] ⟨⟨_, rfl, by decide, .cons (.refl _) (.cons .ar .nil)⟩, trivial⟩ ?_
    exact g_fin ⟨.inl rfl, id, _, rfl, .refl _, trivial, rfl, rfl⟩
end Hw.Z
namespace Hw.Z
open Go Go.Proofs Hw.M

theorem nd_eq (x y : Nd) : decide (x = y) = (decide (x.t = y.t) && decide (x.f = y.f)) := by
  rw [← Bool.decide_and]
  exact decide_eq_decide.2 ⟨fun h => by subst h; exact ⟨rfl, rfl⟩, fun h => by cases x; cases y; simp only at h; rw [h.1, h.2]⟩
theorem hp_eq (x y : Hp) : decide (x = y) = (decide (x.g = y.g) && decide (x.n = y.n)) := by
  rw [← Bool.decide_and]
  exact decide_eq_decide.2 ⟨fun h => by subst h; exact ⟨rfl, rfl⟩, fun h => by cases x; cases y; simp only at h; rw [h.1, h.2]⟩
theorem same1_ok (x y : Nd) : FnOK Tryz.prog 81 [aggS (nodeR x), aggS (nodeR y)] [] (.bq (decide (x = y))) [] := by
  rw [nd_eq]
  have hE := slEqual_ok x.f y.f
  refine fn_ok T Tryz.func81 (by kernel_rfl) rfl rfl rfl rfl fun C hC => ?_
  repeat' first
    | refine g_go T hC true 400 rfl rfl ?_
    | refine g_cond rfl (fun h => ?_) (fun h => ?_)
    | refine g_end T hC (by kernel_rfl) ?_
    | refine g_splitD (fun h => ?_) (fun h => ?_)
    | refine g_splitG rfl rfl rfl (fun h => ?_) (fun h => ?_)
    | refine g_splitP rfl rfl (fun h => ?_) (fun h => ?_)
    | refine g_call hC (hE) rfl rfl (LeSs.refl _) rfl rfl rfl ?_
    | refine g_retq T (.inl rfl) rfl ?_
    | refine g_retl T (.inl rfl) rfl ?_
  all_goals simp_all
theorem eqNodes_ok (a b : List Nd) : FnOK Tryz.prog 80 [pS (nodesP a), pS (nodesP b), .one (.cl 81 [] [])] [] (.bq (decide (a = b))) [] := by
  refine fn_ok T Tryz.func80 (by kernel_rfl) rfl rfl rfl rfl fun C hC => ?_
  refine g_len 0 rfl fun hlen => ?_
  rw [List.length_map] at hlen
  repeat' first
    | refine g_go T hC true 400 rfl rfl ?_
    | refine g_cond rfl (fun h => ?_) (fun h => ?_)
    | refine g_end T hC (by kernel_rfl) ?_
    | refine g_splitD (fun h => ?_) (fun h => ?_)
    | refine g_splitG rfl rfl rfl (fun h => ?_) (fun h => ?_)
    | refine g_splitP rfl rfl (fun h => ?_) (fun h => ?_)
    | refine g_retl T (.inl rfl) rfl ?_
  all_goals (try simp only [List.length_map] at *)
  · have : ¬ (a.length : Int) = (b.length : Int) := by simpa using h
    exact (decide_eq_false fun e => this (by rw [e])).symm
  · have hab : a.length = b.length := by have : (a.length : Int) = (b.length : Int) := by simpa using h
                                         omega
    refine g_loop (fun i : Nat => i ≤ a.length ∧ a.take i = b.take i) (fun i => ([(1, pS (nodesP b)), (2, .one (.cl 81 [] [])), (15, pS (nodesP a)), (16, I a.length), (17, I i)], [])) (fun i => a.length - i) hC
      0 ⟨Nat.zero_le _, by simp⟩ id ⟨rfl, ⟨rfl, rfl, rfl, rfl, rfl, trivial⟩, trivial, rfl, fun _ _ => rfl⟩ ?_
    rintro i ⟨hi, hn⟩
    refine g_run' T hC true 200 rfl ?_
    refine g_cond rfl (fun h => ?_) (fun h => ?_)
    · have hlt : i < a.length := by simpa using h
      obtain ⟨x, hx⟩ := exists_at hlt
      obtain ⟨y, hy⟩ := exists_at (hab ▸ hlt)
      have hS := same1_ok x y
      repeat' first
        | refine g_go T hC true 400 rfl rfl ?_
        | refine g_cond rfl (fun h => ?_) (fun h => ?_)
        | refine g_end T hC (by kernel_rfl) ?_
        | refine g_splitD (fun h => ?_) (fun h => ?_)
        | refine g_splitG rfl rfl rfl (fun h => ?_) (fun h => ?_)
        | refine g_splitP rfl rfl (fun h => ?_) (fun h => ?_)
        | refine g_idx T hC rfl rfl rfl (Int.natCast_nonneg _) (map_at hx) rfl rfl ?_
        | refine g_idx T hC rfl rfl rfl (Int.natCast_nonneg _) (map_at hy) rfl rfl ?_
        | refine g_call hC (hS) rfl rfl (LeSs.refl _) rfl rfl rfl ?_
        | refine g_outR ?_
        | refine g_retl T (.inl rfl) rfl ?_
      · have hxy : x ≠ y := by simpa using h
        exact (decide_eq_false fun e => hxy (by subst e; rw [hx] at hy; exact Option.some.inj hy)).symm
      · have hxy : x = y := by simpa using h
        subst hxy
        rw [wrapS (by omega)]
        exact g_round (i + 1) ⟨by omega, take_eq hx hy hn⟩ id (by omega) ⟨rfl, ⟨rfl, rfl, rfl, rfl, rfl, trivial⟩, trivial, rfl, fun _ _ => rfl⟩
    · have hge : ¬ i < a.length := by simpa using h
      repeat' first
        | refine g_go T hC true 400 rfl rfl ?_
        | refine g_cond rfl (fun h => ?_) (fun h => ?_)
        | refine g_end T hC (by kernel_rfl) ?_
        | refine g_splitD (fun h => ?_) (fun h => ?_)
        | refine g_splitG rfl rfl rfl (fun h => ?_) (fun h => ?_)
        | refine g_splitP rfl rfl (fun h => ?_) (fun h => ?_)
        | refine g_outE ?_
        | refine g_retl T (.inl rfl) rfl ?_
      rw [List.take_of_length_le (by omega), List.take_of_length_le (by omega)] at hn
      exact (decide_eq_true hn).symm
theorem same_ok {d : Desc} {a b : Hp} (ha : validM d a = true) (hb : validM d b = true) : FnOK Tryz.prog 39 [aggS (descR d), aggS (memR a), aggS (memR b)] [] (.tup [.bq (decide (canonS d a (searchS d a) = canonS d b (searchS d b))), I 0]) [] := by
  have hVa := heapValid_ok d a
  rw [ha] at hVa
  have hVb := heapValid_ok d b
  rw [hb] at hVb
  have hza := sizes_of ha
  have hzb := sizes_of hb
  have hSa := searched_ok (wg_of ha)
  have hSb := searched_ok (wg_of hb)
  have hCa := canonical_ok (wg_of ha) (searchS d a) (search_ok ha) hza.1 hza.2
  have hCb := canonical_ok (wg_of hb) (searchS d b) (search_ok hb) hzb.1 hzb.2
  rw [hp_eq]
  generalize canonS d a (searchS d a) = x at *
  generalize canonS d b (searchS d b) = y at *
  have hE := slEqual_ok x.g y.g
  have hN := eqNodes_ok x.n y.n
  refine fn_ok T Tryz.func39 (by kernel_rfl) rfl rfl rfl rfl fun C hC => ?_
  repeat' first
    | refine g_go T hC true 400 rfl rfl ?_
    | refine g_cond rfl (fun h => ?_) (fun h => ?_)
    | refine g_end T hC (by kernel_rfl) ?_
    | refine g_splitD (fun h => ?_) (fun h => ?_)
    | refine g_splitG rfl rfl rfl (fun h => ?_) (fun h => ?_)
    | refine g_splitP rfl rfl (fun h => ?_) (fun h => ?_)
    | refine g_call hC (hVa) rfl rfl (LeSs.refl _) rfl rfl rfl ?_
    | refine g_call hC (hVb) rfl rfl (LeSs.refl _) rfl rfl rfl ?_
    | refine g_callR hC (hSa) (nm [150, 151, 152]) rfl rfl (LeSs.refl _) rfl rfl rfl rfl rfl rfl rfl rfl ?_
    | refine g_callR hC (hCa) (nm [150, 151, 152]) rfl rfl (LeSs.refl _) rfl rfl rfl rfl rfl rfl rfl rfl ?_
    | refine g_callR hC (hSb) (nm [160, 161, 162]) rfl rfl (LeSs.refl _) rfl rfl rfl rfl rfl rfl rfl rfl ?_
    | refine g_callR hC (hCb) (nm [160, 161, 162]) rfl rfl (LeSs.refl _) rfl rfl rfl rfl rfl rfl rfl rfl ?_
    | refine g_call hC (hE) rfl rfl (LeSs.refl _) rfl rfl rfl ?_
    | refine g_call hC (hN) rfl rfl (LeSs.refl _) rfl rfl rfl ?_
  all_goals first
    | (exfalso; cases h; done)
    | (exfalso; simp_all; done)
    | exact g_fin ⟨.inl rfl, id, _, rfl, LeS.tup (.cons (.qq (by simp_all)) (.cons (.refl _) .nil)), trivial, rfl, rfl⟩
    | exact g_fin ⟨.inl rfl, id, _, rfl, LeS.tup (.cons (.qb (by simp_all)) (.cons (.refl _) .nil)), trivial, rfl, rfl⟩
end Hw.Z
